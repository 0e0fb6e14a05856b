/- The law QuotOver. -/
import Derived.Test.YtalaffabcnccgaaQa
import Derived.Test.YtalaffabcnccgaaOpn
import Derived.Test.YtalaffabcnccgaaOpen
namespace Go.Proofs.Ytalaffabcnccgaa
open Go.ChangeShapes Go.WideShapes Go.ChangeAt Go.RowKit
open R (In64 InU64 lo64 nth)

/-! ### the law QuotOver -/
theorem over_back (a b : Wd) (h : b.n ≠ 0) : (qW a b).n * b.n < W512 ∧ (W ((qW a b).n * b.n)).n + (rW a b).n < W512 ∧ W ((W ((qW a b).n * b.n)).n + (rW a b).n) = a ∧ cmpI (rW a b).n b.n < 0 ∧ rW a b = W (a.n % b.n) := by
  have e1 : (qW a b).n = a.n / b.n := W_val a _ (Nat.div_le_self _ _)
  have e2 : rW a b = W (a.n % b.n) := by unfold rW restW; rw [if_neg h]
  have e3 : (rW a b).n = a.n % b.n := by rw [e2]; exact W_val a _ (Nat.mod_le _ _)
  have h1 := Nat.div_add_mod a.n b.n
  rw [Nat.mul_comm] at h1
  have h2 := a.lt
  have e4 : (W ((qW a b).n * b.n)).n = a.n / b.n * b.n := by rw [e1]; exact W_val a _ (Nat.div_mul_le_self _ _)
  refine ⟨by rw [e1]; omega, by rw [e4, e3]; omega, Wd.ext_ ?_, (cmpI_neg _ _).2 (by rw [e3]; exact Nat.mod_lt _ (by omega)), e2⟩
  rw [e4, e3, h1, W_self]
set_option maxRecDepth 20000 in
attribute [local irreducible] W512 in
set_option maxHeartbeats 4000000 in
theorem quotOver_any (a b : Wd) (w : World) :
    Calls Try.prog 12 #[.agg (cW a).toArray, .agg (cW b).toArray] w fun e w' => e = .returned (.bool true) ∧ Below w.heap.size w w' := by
  have hM := R.Own.start [] w
  by_cases hb : b.n = 0
  · have hbz : b = W 0 := Wd.zero_iff.2 hb
    have e1 : qW a b = W 0 := by unfold qW; rw [hb, Nat.div_zero]
    have e2 : rW a b = W 0 := by unfold rW restW; rw [if_pos hb]
    have e3 : eW b = 1 := by unfold eW; rw [if_pos hb]
    refine R.calls_of_WC (fn := Try.f12) Try.func12 rfl Try.ntmps12 (Nat.le_of_ble_eq_true rfl) ?_
    (refine R.stepT ?_; (repeat' (first | (with_reducible refine And.intro ?_ ?_) | (with_reducible intro _))); all_goals refine R.Lft.mk ?_; (all_goals (try (exact ⟨rfl, R.Own.below (by assumption)⟩))))
  · obtain ⟨o1, o2, o3, o4, o5⟩ := over_back a b hb
    have hbz : b ≠ W 0 := fun h => hb (Wd.zero_iff.1 h)
    have e3 : eW b = 0 := by unfold eW; rw [if_neg hb]
    have hpos : 0 < b.n := by omega
    refine R.calls_of_WC (fn := Try.f12) Try.func12 rfl Try.ntmps12 (Nat.le_of_ble_eq_true rfl) ?_
    (refine R.stepT ?_; (repeat' (first | (with_reducible refine And.intro ?_ ?_) | (with_reducible intro _))); all_goals refine R.Lft.mk ?_; (all_goals (try (exact ⟨rfl, R.Own.below (by assumption)⟩))))
    all_goals exact absurd (rfl : qW a b = W (a.n / b.n)) (by assumption)
set_option maxRecDepth 100000 in
theorem walk_QuotOver {H : Type} {enc : TypeId × Value → H} (W : World) (base : Nat) (args : Array Value) (ds : List (DataW H)) (ps : List MemPlace) (hA : DataW.TrodAll enc Try.prog W 0 (fun _ => true) true [43, 43] args.toList ds ps)
    (hval : ∀ (j : Nat) t v, #[43, 43][j]? = some t → args[j]? = some v → Value.okWide Try.prog W .any base t v) :
    Calls Try.prog 12 args W fun e W' => e = .returned (.bool true) ∧ Below W.heap.size W W' := by
  obtain ⟨v0, v1, d0, d1, p0, p1, rfl, rfl, rfl, h0, h1⟩ := trodAll_two hA
  obtain ⟨a, ha, rfl⟩ := open_wide (hval 0 43 v0 rfl rfl) h0
  obtain ⟨b, hb, rfl⟩ := open_wide (hval 1 43 v1 rfl rfl) h1
  exact quotOver_any ⟨a, ha⟩ ⟨b, hb⟩ W
end Go.Proofs.Ytalaffabcnccgaa
