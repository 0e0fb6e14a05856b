/- snicketlaw06: awake. -/
import Derived.Test.YtalaffabcnccgaaRa
namespace Go.Proofs.Ytalaffabcnccgaa
open Go.RowKit
open R (In64 InU64 lo64 nth)

theorem Wl {n : Nat} (h : n < 18446744073709551616) : (W n).n = n := W_n (wsmall h)
theorem lzz {z : Int} (h : z.natAbs < 18446744073709551616) : (sgn z).z = z := sgn_z (wsmall h)
theorem smag (z : Int) : (sgn z).mag = W z.natAbs := rfl
theorem gW {m n : Nat} (hm : m < 18446744073709551616) (hn : n < 18446744073709551616) : gcdW (W m) (W n) = W (Nat.gcd m n) := by
  unfold gcdW
  rw [Wl hm, Wl hn]
theorem qWl {m n : Nat} (hm : m < 18446744073709551616) (hn : n < 18446744073709551616) : qW (W m) (W n) = W (m / n) := by
  unfold qW
  rw [Wl hm, Wl hn]
theorem aw6 : ofR (sgn 6) (sgn (-4)) = ⟨sgn (-3), W 2⟩ := by
  have h4 : (sgn (-4)).mag = W 4 := by rw [smag]; exact congrArg W (show Int.natAbs (-4) = 4 from rfl)
  have h6 : sidS (sgn 6) (sgn (-4)) = ⟨true, W 6⟩ := Sg.ext_iff.2 ⟨rfl, congrArg W (show Int.natAbs 6 = 6 from rfl)⟩
  unfold ofR
  rw [if_neg (by rw [h4, Wl (by decide)]; decide), h4, h6]
  unfold lowR
  dsimp only
  rw [gW (by decide) (by decide), show Nat.gcd 6 4 = 2 from rfl, qWl (by decide) (by decide), qWl (by decide) (by decide)]
  rw [mk_z (wsmall (by decide))]
  rfl
theorem aw6_t : termsB ⟨sgn (-3), W 2⟩ = true := by
  unfold termsB
  dsimp only
  rw [decide_eq_false (show ¬ (W 2).n = 0 by rw [Wl (by decide)]; decide), lzz (by decide), show (sgn (-3)).mag = W 3 from congrArg W (show Int.natAbs (-3) = 3 from rfl), gW (by decide) (by decide)]
  rw [decide_eq_true rfl, show Nat.gcd 3 2 = 1 from rfl, decide_eq_true rfl]
  rfl
theorem aw6_f : flS ⟨sgn (-3), W 2⟩ = sgn (-2) := by
  unfold flS
  rw [aw6_t, if_pos rfl]
  unfold ovS
  rw [if_neg (show ¬ (W 2).n = 0 by rw [Wl (by decide)]; decide), lzz (by decide), mk_z (wsmall (by decide))]
  rfl
theorem aw6_e : flE ⟨sgn (-3), W 2⟩ = 0 := by
  unfold flE
  rw [aw6_t, if_pos rfl]
  unfold eW
  rw [if_neg (show ¬ (W 2).n = 0 by rw [Wl (by decide)]; decide)]
theorem aw6_z : eW (sgn (-4)).mag = 0 := by
  unfold eW
  rw [smag, show Int.natAbs (-4) = 4 from rfl, if_neg (show ¬ (W 4).n = 0 by rw [Wl (by decide)]; decide)]
attribute [local irreducible] W512 in
set_option maxHeartbeats 2000000 in
theorem awake06 (w : World) : Calls Try.prog 67 #[] w fun e w' => e = .returned (.bool true) ∧ Below w.heap.size w w' := by
  have hM := R.Own.start [] w
  have h1 := aw6_z
  have h2 : (ofR (sgn 6) (sgn (-4))).den = W (Int.toNat 2) := by rw [aw6]; rfl
  have h3 : (ofR (sgn 6) (sgn (-4))).num = sgn (-3) := by rw [aw6]
  have h4 : flE (ofR (sgn 6) (sgn (-4))) = 0 := by rw [aw6]; exact aw6_e
  have h5 : flS (ofR (sgn 6) (sgn (-4))) = sgn (-2) := by rw [aw6]; exact aw6_f
  have h6 : partE 10 2 3 = 0 := by decide
  have h7 : partQ 10 2 3 = 6 := by decide
  refine R.calls_of_WC (fn := Try.f67) Try.func67 rfl Try.ntmps67 (Nat.le_of_ble_eq_true rfl) ?_
  (refine R.stepU ?_; (repeat' (first | (with_reducible refine And.intro ?_ ?_) | (with_reducible intro _))); all_goals refine R.Lft.mk ?_)
  refine R.WC_planX [(0, false), (1, false), (2, false), (3, false), (4, false), (5, false), (6, false), (7, false), (8, false), (9, false), (10, false), (11, true), (12, false), (13, false), (14, false), (15, false), (16, false), (17, false), (18, false), (19, false), (20, true), (21, false), (22, false), (23, false), (24, false), (25, false), (26, false), (27, false), (28, false), (29, false), (30, false), (31, false)] R.mixed (by decide +kernel) R.ohm ?_
  (refine R.stepU ?_; (repeat' (first | (with_reducible refine And.intro ?_ ?_) | (with_reducible intro _))); all_goals refine R.Lft.mk ?_; (all_goals (try (exact ⟨rfl, R.Own.below (by assumption)⟩))))
  all_goals first
    | (rw [h7]; exact ⟨rfl, R.Own.below (by assumption)⟩)
    | exact absurd h2 (by assumption)
    | exact absurd h3 (by assumption)
    | exact absurd h5 (by assumption)
    | (exfalso; omega)
instance con_awake06 : R.ConB Try.prog 67 #[] Unit (fun _ _ => True) (fun _ => .bool true) := ⟨fun _ w _ => awake06 w⟩
end Go.Proofs.Ytalaffabcnccgaa
