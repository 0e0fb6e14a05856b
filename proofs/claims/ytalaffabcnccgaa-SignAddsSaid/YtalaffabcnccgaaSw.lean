/- snicketlaw05: awake. -/
import Derived.Test.YtalaffabcnccgaaSo
import Derived.Test.YtalaffabcnccgaaSt
namespace Go.Proofs.Ytalaffabcnccgaa
open Go.RowKit
open R (In64 InU64 lo64 nth)

theorem sgn_small {z : Int} (h : z.natAbs < 18446744073709551616) : (sgn z).z = z := sgn_z (wsmall h)
theorem aw5_q : ovS (sgn (-7)) (sgn 2) = sgn (-4) := by
  unfold ovS
  rw [if_neg (by rw [sgn_mag (wsmall (by decide))]; decide), sgn_small (by decide), sgn_small (by decide)]
  rfl
theorem aw5_e : eW (sgn 2).mag = 0 := by
  unfold eW
  rw [if_neg (by rw [sgn_mag (wsmall (by decide))]; decide)]
theorem aw5_z : (ovS (sgn (-7)) (sgn 2)).z = -4 := by rw [aw5_q, sgn_small (by decide)]
theorem aw5_s : smZ (ovS (sgn (-7)) (sgn 2)).z = -4 := by rw [aw5_z]; rfl
theorem aw5_t : ((txtZ (ovS (sgn (-7)) (sgn 2)).z).toList == (⟨#[45, 52]⟩ : ByteArray).toList) = true := by
  rw [aw5_z, ByteArray.toList_eq, ByteArray.toList_eq]
  decide +kernel
theorem aw5_c : cmpZ (ovS (sgn (-7)) (sgn 2)).z (sgn 1).z = -1 := by rw [aw5_z, sgn_small (by decide)]; rfl
attribute [local irreducible] W512 in
set_option maxHeartbeats 2000000 in
theorem awake05 (w : World) : Calls Try.prog 61 #[] w fun e w' => e = .returned (.bool true) ∧ Below w.heap.size w w' := by
  have hM := R.Own.start [] w
  have h1 := aw5_e
  have h2 := aw5_z
  have h3 := aw5_s
  have h4 := aw5_c
  have h5 := aw5_t
  refine R.calls_of_WC (fn := Try.f61) Try.func61 rfl Try.ntmps61 (Nat.le_of_ble_eq_true rfl) ?_
  (refine R.stepU ?_; (repeat' (first | (with_reducible refine And.intro ?_ ?_) | (with_reducible intro _))); all_goals refine R.Lft.mk ?_)
  refine R.WC_planX [(0, false), (1, false), (2, false), (3, false), (4, false), (5, false), (6, false), (7, false), (8, false), (9, false), (10, false), (11, true), (12, false), (13, false), (14, false), (15, false), (16, true), (17, true), (18, false), (19, false), (20, false)] R.mixed (by decide +kernel) R.ohm ?_
  (refine R.stepU ?_; (repeat' (first | (with_reducible refine And.intro ?_ ?_) | (with_reducible intro _))); all_goals refine R.Lft.mk ?_; (all_goals (try (exact ⟨rfl, R.Own.below (by assumption)⟩))))
  all_goals first
    | (rw [h4]; exact ⟨rfl, R.Own.below (by assumption)⟩)
    | (exfalso; omega)
    | exact absurd (h5.symm.trans (by assumption)) (by decide)
instance con_awake05 : R.ConB Try.prog 61 #[] Unit (fun _ _ => True) (fun _ => .bool true) := ⟨fun _ w _ => awake05 w⟩
end Go.Proofs.Ytalaffabcnccgaa
