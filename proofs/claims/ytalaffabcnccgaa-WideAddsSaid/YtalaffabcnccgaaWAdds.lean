/- The law WideAdds. -/
import Derived.Test.YtalaffabcnccgaaRf4
import Derived.Test.YtalaffabcnccgaaOpn
import Derived.Test.YtalaffabcnccgaaOpen
namespace Go.Proofs.Ytalaffabcnccgaa
open Go.ChangeShapes Go.WideShapes Go.ChangeAt Go.RowKit
open R (In64 InU64 lo64 nth)
attribute [local irreducible] W512 in
set_option maxHeartbeats 4000000 in
theorem wideAdds_any (a b : Wd) (w : World) :
    Calls Try.prog 9 #[.agg (cW a).toArray, .agg (cW b).toArray] w fun e w' => e = .returned (.bool true) ∧ Below w.heap.size w w' := by
  have hM := R.Own.start [] w
  have h1 := digsL_dig a.n 32
  have h2 := digsL_dig b.n 32
  have h3 := digsL_len a.n 32
  have h4 := digsL_len b.n 32
  have h5 := digsL_whole a
  have h6 := digsL_whole b
  refine R.calls_of_WC (fn := Try.f9) Try.func9 rfl Try.ntmps9 (Nat.le_of_ble_eq_true rfl) ?_
  (refine R.stepW ?_; (repeat' (first | (with_reducible refine And.intro ?_ ?_) | (with_reducible intro _))); all_goals refine R.Lft.mk ?_; (all_goals (try (exact ⟨rfl, R.Own.below (by assumption)⟩))))
  refine R.WC_planO [(0, false), (2, false), (1, true), (3, true), (4, false), (5, false)] R.mixed (by decide +kernel) R.ohm ?_
  (refine R.stepW ?_; (repeat' (first | (with_reducible refine And.intro ?_ ?_) | (with_reducible intro _))); all_goals refine R.Lft.mk ?_; (all_goals (try (exact ⟨rfl, R.Own.below (by assumption)⟩))))
  refine R.WO_call2 rfl rfl (by first | exact R.eI rfl | exact R.eB rfl | exact R.eS rfl | exact R.eA rfl | exact R.eP rfl | exact R.eStr rfl | exact R.eT rfl | exact R.eM rfl | exact R.eF rfl | exact R.eF0 rfl | exact R.eP0 rfl | exact R.eQ rfl) (by first | exact R.eI rfl | exact R.eB rfl | exact R.eS rfl | exact R.eA rfl | exact R.eP rfl | exact R.eStr rfl | exact R.eT rfl | exact R.eM rfl | exact R.eF rfl | exact R.eF0 rfl | exact R.eP0 rfl | exact R.eQ rfl) ?_
  refine (plus_i _ _ _ _ _ _ _ _ _ (R.Own.inp R.ohm R.memb) h3.symm h1 (by omega) (R.Own.inp R.ohm R.memb) h4.symm h2 (by omega)).mono ?_
  rintro e w' ⟨A1, c1, n1, zs, rfl, hG, hn, hd, hv, hnm⟩
  rw [h5, h6] at hv
  have hM := R.Own.give R.ohm hG
  refine ⟨_, rfl, ?_⟩
  have hn1 : n1 ≤ 100 := Nat.le_trans hnm (by decide)
  (refine R.stepW ?_; (repeat' (first | (with_reducible refine And.intro ?_ ?_) | (with_reducible intro _))); all_goals refine R.Lft.mk ?_; (all_goals (try (exact ⟨rfl, R.Own.below (by assumption)⟩))))
  refine R.WO_call2 rfl rfl (by first | exact R.eI rfl | exact R.eB rfl | exact R.eS rfl | exact R.eA rfl | exact R.eP rfl | exact R.eStr rfl | exact R.eT rfl | exact R.eM rfl | exact R.eF rfl | exact R.eF0 rfl | exact R.eP0 rfl | exact R.eQ rfl) (by first | exact R.eI rfl | exact R.eB rfl | exact R.eS rfl | exact R.eA rfl | exact R.eP rfl | exact R.eStr rfl | exact R.eT rfl | exact R.eM rfl | exact R.eF rfl | exact R.eF0 rfl | exact R.eP0 rfl | exact R.eQ rfl) ?_
  refine (times_i _ _ _ _ _ _ _ _ _ (R.Own.inp R.ohm R.memb) h3.symm h1 (by omega) (R.Own.inp R.ohm R.memb) h4.symm h2 (by omega)).mono ?_
  rintro e w' ⟨A2, ys, rfl, hG, hn2, hd2, hv2⟩
  rw [h5, h6] at hv2
  have hM := R.Own.give R.ohm hG
  refine ⟨_, rfl, ?_⟩
  rw [hv]
  (refine R.stepW ?_; (repeat' (first | (with_reducible refine And.intro ?_ ?_) | (with_reducible intro _))); all_goals refine R.Lft.mk ?_; (all_goals (try (exact ⟨rfl, R.Own.below (by assumption)⟩))))
  rename_i hM
  rw [hv, hv2] at hM
  rw [hv2]
  refine R.WC_planO [(0, false), (1, false), (2, false), (3, false), (4, false), (5, false), (6, false), (7, false), (8, false), (9, false), (10, false), (11, false), (12, false), (13, false), (14, false), (15, false), (16, false), (17, false), (18, false), (19, false), (20, false), (21, false), (22, false), (23, false), (24, false), (25, false), (26, false), (27, false), (28, false), (29, false), (30, false), (32, false), (33, false), (31, true), (34, true), (35, false), (36, false), (37, false), (38, true), (39, false), (40, false)] R.mixed (by decide +kernel) R.ohm ?_
  (refine R.stepW ?_; (repeat' (first | (with_reducible refine And.intro ?_ ?_) | (with_reducible intro _))); all_goals refine R.Lft.mk ?_; (all_goals (try (exact ⟨rfl, R.Own.below (by assumption)⟩))))
  all_goals (try exact absurd rfl (by assumption))
  all_goals (exfalso; simp_all; done)
set_option maxRecDepth 100000 in
theorem walk_WideAdds {H : Type} {enc : TypeId × Value → H} (W : World) (base : Nat) (args : Array Value) (ds : List (DataW H)) (ps : List MemPlace) (hA : DataW.TrodAll enc Try.prog W 0 (fun _ => true) true [43, 43] args.toList ds ps)
    (hval : ∀ (j : Nat) t v, #[43, 43][j]? = some t → args[j]? = some v → Value.okWide Try.prog W .any base t v) :
    Calls Try.prog 9 args W fun e W' => e = .returned (.bool true) ∧ Below W.heap.size W W' := by
  obtain ⟨v0, v1, d0, d1, p0, p1, rfl, rfl, rfl, h0, h1⟩ := trodAll_two hA
  obtain ⟨a, ha, rfl⟩ := open_wide (hval 0 43 v0 rfl rfl) h0
  obtain ⟨b, hb, rfl⟩ := open_wide (hval 1 43 v1 rfl rfl) h1
  exact wideAdds_any ⟨a, ha⟩ ⟨b, hb⟩ W
end Go.Proofs.Ytalaffabcnccgaa
