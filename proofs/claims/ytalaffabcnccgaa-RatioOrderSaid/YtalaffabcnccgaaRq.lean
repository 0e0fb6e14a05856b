/- snicketref04: Over. -/
import Derived.Test.YtalaffabcnccgaaQo
namespace Go.Proofs.Ytalaffabcnccgaa
open Go.RowKit
open R (In64 InU64 lo64 nth)

attribute [local irreducible] W512 in
set_option maxHeartbeats 1000000 in
theorem over4 (a b : Wd) (h0 : 0 < b.n) (w : World) : Calls Try.prog 62 #[.agg (cW a).toArray, .agg (cW b).toArray] w fun e w' => e = .returned (.tuple #[.agg (cW (W (a.n / b.n))).toArray, .agg (cW (W (a.n % b.n))).toArray]) ∧ Below w.heap.size w w' := by
  have hM := R.Own.start [] w
  have h1 := digsL_dig a.n 32
  have h2 := digsL_dig b.n 32
  have h3 := digsL_len a.n 32
  have h4 := digsL_len b.n 32
  have h5 := digsL_whole a
  have h6 := digsL_whole b
  refine R.calls_of_WC (fn := Try.f62) Try.func62 rfl Try.ntmps62 (Nat.le_of_ble_eq_true rfl) ?_
  (refine R.stepV ?_; (repeat' (first | (with_reducible refine And.intro ?_ ?_) | (with_reducible intro _))); all_goals refine R.Lft.mk ?_)
  refine R.WC_planX [(0, false), (2, false), (1, true), (3, true), (4, true), (5, false), (6, false), (7, false), (8, false), (9, false)] R.mixed (by decide +kernel) R.ohm ?_
  (refine R.stepV ?_; (repeat' (first | (with_reducible refine And.intro ?_ ?_) | (with_reducible intro _))); all_goals refine R.Lft.mk ?_)
  rename_i hM
  refine R.WO_call2 rfl rfl R.vv R.vv ?_
  refine (over_i _ _ _ _ _ _ _ _ _ (R.Own.inp hM (.tail _ (.head _))) h3.symm h1 (by omega) (R.Own.inp hM (.head _)) h4.symm (row_cap hM (.head _)) h2 (by omega) (by rw [h6]; exact h0)).mono ?_
  rintro e w4 ⟨A4, A5, k, c5, Q, zr, rfl, hO, hQl, hQ, hQv, hk, hzr, hzv, hkb⟩
  have hM := (R.Own.callF (lc := []) (lc' := [_, _]) (by rw [List.append_nil]; exact hM) hO).perm List.perm_append_comm
  rw [h5, h6] at hQv hzv
  have hM := R.dr (.row _ 32 _ _ 1 ((digsL b.n 32).flatMap R.cU)) hM
  have hM := R.dr (.row _ 32 _ _ 1 ((digsL a.n 32).flatMap R.cU)) hM
  refine ⟨_, rfl, ?_⟩
  (refine R.stepU ?_; (repeat' (first | (with_reducible refine And.intro ?_ ?_) | (with_reducible intro _))); all_goals refine R.Lft.mk ?_)
  (refine R.WC_planK 2 [(0, false), (1, false), (2, true), (3, true)] R.mixed (by decide +kernel) R.ohm ?_; simp only [List.take_succ_cons, List.take_zero])
  (refine R.stepU ?_; (repeat' (first | (with_reducible refine And.intro ?_ ?_) | (with_reducible intro _))); all_goals refine R.Lft.mk ?_; (all_goals (try (exact ⟨rfl, R.Own.below (by assumption)⟩))))
  rw [hQv, hzv]
  exact ⟨rfl, R.Own.below (by assumption)⟩
instance con_over4 (a b : Wd) : R.ConB Try.prog 62 #[.agg (cW a).toArray, .agg (cW b).toArray] Unit (fun _ _ => 0 < b.n) (fun _ => .tuple #[.agg (cW (W (a.n / b.n))).toArray, .agg (cW (W (a.n % b.n))).toArray]) := ⟨fun _ w h => over4 a b h w⟩
end Go.Proofs.Ytalaffabcnccgaa
