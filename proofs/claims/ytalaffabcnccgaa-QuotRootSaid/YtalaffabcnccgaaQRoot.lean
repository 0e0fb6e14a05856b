/- The law QuotRoot. -/
import Derived.Test.YtalaffabcnccgaaRt
import Derived.Test.YtalaffabcnccgaaQa
import Derived.Test.YtalaffabcnccgaaTy
import Derived.Test.YtalaffabcnccgaaOpn
import Derived.Test.YtalaffabcnccgaaOpen
namespace Go.Proofs.Ytalaffabcnccgaa
open Go.ChangeShapes Go.WideShapes Go.ChangeAt Go.RowKit
open R (In64 InU64 lo64 nth)

set_option maxRecDepth 20000 in
attribute [local irreducible] W512 txt digsL in
set_option maxHeartbeats 4000000 in
theorem quotRoot_any (a : Wd) (w : World) :
    Calls Try.prog 13 #[.agg (cW a).toArray] w fun e w' => e = .returned (.bool true) ∧ Below w.heap.size w w' := by
  have hM := R.Own.start [] w
  have h1 := digsL_dig a.n 32
  have h3 := digsL_len a.n 32
  have h5 := digsL_whole a
  refine R.calls_of_WC (fn := Try.f13) Try.func13 rfl Try.ntmps13 (Nat.le_of_ble_eq_true rfl) ?_
  (refine R.stepU ?_; (repeat' (first | (with_reducible refine And.intro ?_ ?_) | (with_reducible intro _))); all_goals refine R.Lft.mk ?_)
  rename_i hM
  refine R.WO_call1 rfl rfl R.vv ?_
  refine (root_any a _).mono ?_
  rintro e w1 ⟨⟨r, rfl, hR⟩, hb⟩
  have hM := hM.call hb
  have g1 := digsL_dig r.n 32
  have g3 := digsL_len r.n 32
  have g5 := digsL_whole r
  have hle : dv (digsL r.n 32) * dv (digsL r.n 32) ≤ a.n := by rw [g5]; exact hR.le
  have hlt : a.n < (dv (digsL r.n 32) + 1) * (dv (digsL r.n 32) + 1) := by rw [g5]; have := hR.lt; rwa [Nat.pow_zero] at this
  clear hR
  have hX := R.Lft.mk (And.intro hle hlt)
  clear hle hlt
  refine ⟨_, rfl, ?_⟩
  (refine R.stepU ?_; (repeat' (first | (with_reducible refine And.intro ?_ ?_) | (with_reducible intro _))); all_goals refine R.Lft.mk ?_)
  rename_i hM
  refine R.WO_call2 rfl rfl R.vv R.vv ?_
  refine (plus_i _ _ _ _ _ _ (digsL r.n 32) [1] _ (R.Own.inp hM (.tail _ (.head _))) g3.symm g1 (by omega) (show R.Inp [] _ _ 1 1 ([(1 : Int)].flatMap R.cU) from R.Own.inp hM (.head _)) rfl (DigI.one (by omega) (by omega)) (by omega)).mono ?_
  rintro e w3 ⟨A3, c3, n3, zs, rfl, hG, hn3, hz, hv, hl⟩
  have hM := R.Own.give hM hG
  rw [dv_one, show Int.toNat 1 = 1 from rfl] at hv
  have hn100 : n3 ≤ 100 := Nat.le_trans hl (by decide)
  refine ⟨_, rfl, ?_⟩
  (refine R.stepU ?_; (repeat' (first | (with_reducible refine And.intro ?_ ?_) | (with_reducible intro _))); all_goals refine R.Lft.mk ?_)
  refine R.WC_planX [(0, false), (2, false), (3, false), (1, true), (4, true), (5, true), (6, false), (7, false), (8, false), (10, false), (11, false), (9, true), (12, true), (13, true), (14, false), (15, false), (16, false), (18, false), (17, true), (19, true), (20, false), (21, false), (22, false), (23, true), (24, false), (25, false)] R.mixed (by decide +kernel) R.ohm ?_
  (refine R.stepU ?_; (repeat' (first | (with_reducible refine And.intro ?_ ?_) | (with_reducible intro _))); all_goals refine R.Lft.mk ?_)
  rename_i hM
  refine R.WO_call2 rfl rfl R.vv R.vv ?_
  refine (times_i _ _ _ _ _ _ (digsL r.n 32) (digsL r.n 32) _ (R.Own.inp hM (.tail _ (.tail _ (.tail _ (.head _))))) g3.symm g1 (by omega) (R.Own.inp hM (.tail _ (.tail _ (.tail _ (.head _))))) g3.symm g1 (by omega)).mono ?_
  rintro e w4 ⟨A4, ys, rfl, hG, hny, hy, hvy⟩
  have hM := R.Own.give hM hG
  refine ⟨_, rfl, ?_⟩
  (refine R.stepU ?_; (repeat' (first | (with_reducible refine And.intro ?_ ?_) | (with_reducible intro _))); all_goals refine R.Lft.mk ?_)
  refine R.WO_call2 rfl rfl R.vv R.vv ?_
  refine (less_i _ _ _ _ _ _ (digsL a.n 32) ys _ (R.Own.inp hM (.tail _ (.head _))) h3.symm h1 (by omega) (R.Own.inp hM (.head _)) hny hy (by omega)).mono ?_
  rintro e w5 ⟨rfl, rfl⟩
  have hM := hM.tl.tl
  refine ⟨_, rfl, ?_⟩
  rw [decide_eq_false (by rw [h5, hvy]; exact Nat.not_lt.2 hX.out.1 : ¬ dv (digsL a.n 32) < dv ys)]
  (refine R.stepU ?_; (repeat' (first | (with_reducible refine And.intro ?_ ?_) | (with_reducible intro _))); all_goals refine R.Lft.mk ?_)
  rename_i hM
  refine R.WO_call2 rfl rfl R.vv R.vv ?_
  refine (times_i _ _ _ _ _ _ zs zs _ (R.Own.inp hM (.tail _ (.head _))) hn3 hz (by omega) (R.Own.inp hM (.tail _ (.head _))) hn3 hz (by omega)).mono ?_
  rintro e w6 ⟨A6, xs, rfl, hG, hnx, hx, hvx⟩
  have hM := R.Own.give hM hG
  refine ⟨_, rfl, ?_⟩
  (refine R.stepU ?_; (repeat' (first | (with_reducible refine And.intro ?_ ?_) | (with_reducible intro _))); all_goals refine R.Lft.mk ?_)
  refine R.WO_call2 rfl rfl R.vv R.vv ?_
  refine (less_i _ _ _ _ _ _ (digsL a.n 32) xs _ (R.Own.inp hM (.tail _ (.head _))) h3.symm h1 (by omega) (R.Own.inp hM (.head _)) hnx hx (by omega)).mono ?_
  rintro e w7 ⟨rfl, rfl⟩
  have hM := hM.tl.tl
  refine ⟨_, rfl, ?_⟩
  rw [decide_eq_true (by rw [h5, hvx, hv]; exact hX.out.2 : dv (digsL a.n 32) < dv xs)]
  (refine R.stepU ?_; (repeat' (first | (with_reducible refine And.intro ?_ ?_) | (with_reducible intro _))); all_goals refine R.Lft.mk ?_)
  · exact ⟨rfl, R.Own.below (by assumption)⟩
  · rename_i h
    rw [beq_self_eq_true] at h
    cases h
set_option maxRecDepth 100000 in
theorem walk_QuotRoot {H : Type} {enc : TypeId × Value → H} (W : World) (base : Nat) (args : Array Value) (ds : List (DataW H)) (ps : List MemPlace) (hA : DataW.TrodAll enc Try.prog W 0 (fun _ => true) true [43] args.toList ds ps)
    (hval : ∀ (j : Nat) t v, #[43][j]? = some t → args[j]? = some v → Value.okWide Try.prog W .any base t v) :
    Calls Try.prog 13 args W fun e W' => e = .returned (.bool true) ∧ Below W.heap.size W W' := by
  obtain ⟨v0, d0, rfl, rfl, h0⟩ := trodAll_one hA
  obtain ⟨a, ha, rfl⟩ := open_wide (hval 0 43 v0 rfl rfl) h0
  exact quotRoot_any ⟨a, ha⟩ W
end Go.Proofs.Ytalaffabcnccgaa
