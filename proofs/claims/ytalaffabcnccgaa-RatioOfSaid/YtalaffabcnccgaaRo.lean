/- The law RatioOf. -/
import Derived.Test.YtalaffabcnccgaaR6
import Derived.Test.YtalaffabcnccgaaRw
import Derived.Test.YtalaffabcnccgaaSa
namespace Go.Proofs.Ytalaffabcnccgaa
open Go.ChangeShapes Go.WideShapes Go.ChangeAt Go.RowKit
open R (In64 InU64 lo64 nth)

attribute [local irreducible] W512 in
set_option maxHeartbeats 4000000 in
theorem ratioOf_any (x d : Sg) (n : Int) (hn : In64 n) (w : World) : Calls Try.prog 15 #[.agg (cS x).toArray, .agg (cS d).toArray, .int .i64 n] w fun e w' => e = .returned (.bool true) ∧ Below w.heap.size w w' := by
  have hM := R.Own.start [] w
  by_cases h0 : d.mag.n = 0
  · have e1 : eW d.mag = 1 := by unfold eW; rw [if_pos h0]
    have e2 : ofR x d = ⟨⟨false, W 0⟩, W 0⟩ := if_pos h0
    have hz : d.mag = W 0 := Wd.zero_iff.2 h0
    refine R.calls_of_WC (fn := Try.f15) Try.func15 rfl Try.ntmps15 (Nat.le_of_ble_eq_true rfl) ?_
    (refine R.stepU ?_; (repeat' (first | (with_reducible refine And.intro ?_ ?_) | (with_reducible intro _))); all_goals refine R.Lft.mk ?_)
    refine R.WC_planX [(0, false), (1, false), (3, false), (2, true), (4, false), (5, false)] R.mixed (by decide +kernel) R.ohm ?_
    (refine R.stepU ?_; (repeat' (first | (with_reducible refine And.intro ?_ ?_) | (with_reducible intro _))); all_goals refine R.Lft.mk ?_; (all_goals (try (exact ⟨rfl, R.Own.below (by assumption)⟩))))
    all_goals first
      | exact absurd rfl (by assumption)
      | exact absurd hz (by assumption)
      | exact absurd e2 (by assumption)
  · have e1 : eW d.mag = 0 := by unfold eW; rw [if_neg h0]
    have e2 : ofR x d = lowR (sidS x d) d.mag := if_neg h0
    have hz : d.mag ≠ W 0 := fun h => h0 (Wd.zero_iff.1 h)
    refine R.calls_of_WC (fn := Try.f15) Try.func15 rfl Try.ntmps15 (Nat.le_of_ble_eq_true rfl) ?_
    (refine R.stepU ?_; (repeat' (first | (with_reducible refine And.intro ?_ ?_) | (with_reducible intro _))); all_goals refine R.Lft.mk ?_)
    refine R.WC_planX [(0, false), (1, false), (3, false), (2, true), (4, false), (5, false)] R.mixed (by decide +kernel) R.ohm ?_
    (refine R.stepU ?_; (repeat' (first | (with_reducible refine And.intro ?_ ?_) | (with_reducible intro _))); all_goals refine R.Lft.mk ?_)
    all_goals try refine R.WC_planX [(0, false), (1, false), (2, false), (3, false), (4, false), (5, false), (6, false), (7, false), (8, false), (10, false), (9, true), (11, true), (12, false), (13, false), (14, false), (15, false), (17, false), (16, true), (18, true), (19, false), (20, false), (21, false), (22, true), (23, false), (24, false)] R.mixed (by decide +kernel) R.ohm ?_
    all_goals (refine R.stepU ?_; (repeat' (first | (with_reducible refine And.intro ?_ ?_) | (with_reducible intro _))); all_goals refine R.Lft.mk ?_; (all_goals (try (exact ⟨rfl, R.Own.below (by assumption)⟩))))
    all_goals first
      | exact absurd rfl (by assumption)
      | exact absurd (by assumption) hz
      | exact absurd e2 (by assumption)
      | (exfalso; simp_all; done)
set_option maxRecDepth 100000 in
theorem walk_RatioOf {H : Type} {enc : TypeId × Value → H} (W : World) (base : Nat) (args : Array Value) (ds : List (DataW H)) (ps : List MemPlace) (hA : DataW.TrodAll enc Try.prog W 0 (fun _ => true) true [65, 65, 3] args.toList ds ps)
    (hval : ∀ (j : Nat) t v, #[65, 65, 3][j]? = some t → args[j]? = some v → Value.okWide Try.prog W .any base t v) :
    Calls Try.prog 15 args W fun e W' => e = .returned (.bool true) ∧ Below W.heap.size W W' := by
  obtain ⟨v0, v1, v2, d0, d1, d2, p0, p1, p2, rfl, rfl, rfl, h0, h1, h2⟩ := trodAll_three hA
  obtain ⟨z0, q0, g0, a0, b0⟩ := R.open_arg (hval 0 65 v0 rfl rfl) h0
  obtain ⟨z1, q1, g1, a1, b1⟩ := R.open_arg (hval 1 65 v1 rfl rfl) h1
  obtain ⟨z2, q2, g2, a2, b2⟩ := R.open_arg (hval 2 3 v2 rfl rfl) h2
  obtain rfl := a0 (by kernel_rfl)
  obtain rfl := a1 (by kernel_rfl)
  obtain rfl := b2 (by kernel_rfl) _ rfl
  have hb := bounds_i64 g2
  exact ratioOf_any z0 z1 z2 (by unfold In64; omega) W
end Go.Proofs.Ytalaffabcnccgaa
