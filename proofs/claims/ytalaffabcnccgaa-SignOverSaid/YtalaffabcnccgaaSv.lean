/- The law SignOver. -/
import Derived.Test.YtalaffabcnccgaaSw
import Derived.Test.YtalaffabcnccgaaS5
import Derived.Test.YtalaffabcnccgaaSa
import Derived.Test.YtalaffabcnccgaaSv0
namespace Go.Proofs.Ytalaffabcnccgaa
open Go.ChangeShapes Go.WideShapes Go.ChangeAt Go.RowKit
open R (In64 InU64 lo64 nth)

attribute [local irreducible] W512 in
set_option maxHeartbeats 4000000 in
theorem signOver_any (a b : Sg) (w : World) : Calls Try.prog 18 #[.agg (cS a).toArray, .agg (cS b).toArray] w fun e w' => e = .returned (.bool true) ∧ Below w.heap.size w w' := by
  have hM := R.Own.start [] w
  by_cases h0 : b.mag.n = 0
  · have e1 : eW b.mag = 1 := by unfold eW; rw [if_pos h0]
    have e2 : ovS a b = ⟨false, W 0⟩ := by unfold ovS; rw [if_pos h0]; rfl
    have e3 : sgn b.z = ⟨false, W 0⟩ := fix_zero h0
    refine R.calls_of_WC (fn := Try.f18) Try.func18 rfl Try.ntmps18 (Nat.le_of_ble_eq_true rfl) ?_
    (refine R.stepU ?_; (repeat' (first | (with_reducible refine And.intro ?_ ?_) | (with_reducible intro _))); all_goals refine R.Lft.mk ?_; (all_goals (try (exact ⟨rfl, R.Own.below (by assumption)⟩))))
    all_goals first
      | exact absurd e3 (by assumption)
      | exact absurd e2 (by assumption)
      | (exfalso; omega)
  · have e1 : eW b.mag = 0 := by unfold eW; rw [if_neg h0]
    have hwd := wd_lt a.mag.n 7
    have hz : ¬ sgn b.z = ⟨false, W 0⟩ := fun h => h0 (by
      have := congrArg (fun s : Sg => s.mag.n) h
      dsimp only at this
      rwa [W_n W512_pos, sgn_mag b.z_lt, b.abs] at this)
    refine R.calls_of_WC (fn := Try.f18) Try.func18 rfl Try.ntmps18 (Nat.le_of_ble_eq_true rfl) ?_
    (refine R.stepU ?_; (repeat' (first | (with_reducible refine And.intro ?_ ?_) | (with_reducible intro _))); all_goals refine R.Lft.mk ?_; (all_goals (try (exact ⟨rfl, R.Own.below (by assumption)⟩))))
    all_goals first
      | exact absurd (by assumption) hz
      | (exfalso; omega)
      | (have hp : (!decide (((ovS a b).z * (sgn b.z).z).natAbs < W512)) = true := by assumption
         have h2 := so_fit (a := a) h0 (by assumption)
         rw [decide_eq_true h2] at hp
         cases hp)
      | (have hp : (!decide (((ovS a b).z * (sgn b.z).z).natAbs < W512)) = false := by assumption
         first
         | (have ho : (!decide ((a.z - (resZ ((ovS a b).z * (sgn b.z).z)).z).natAbs < W512)) = true := by assumption
            rw [decide_eq_true (so_o h0 hp)] at ho
            cases ho)
         | exact absurd (so_sign (a := a) h0 hp (by assumption)) (by assumption)
         | exact absurd (so_cmp (a := a) h0 hp) (by assumption)
         | (rw [decide_eq_true (so_cmp (a := a) h0 hp)]; exact ⟨rfl, R.Own.below (by assumption)⟩))
set_option maxRecDepth 100000 in
theorem walk_SignOver {H : Type} {enc : TypeId × Value → H} (W : World) (base : Nat) (args : Array Value) (ds : List (DataW H)) (ps : List MemPlace) (hA : DataW.TrodAll enc Try.prog W 0 (fun _ => true) true [65, 65] args.toList ds ps)
    (hval : ∀ (j : Nat) t v, #[65, 65][j]? = some t → args[j]? = some v → Value.okWide Try.prog W .any base t v) :
    Calls Try.prog 18 args W fun e W' => e = .returned (.bool true) ∧ Below W.heap.size W W' := by
  obtain ⟨v0, v1, d0, d1, p0, p1, rfl, rfl, rfl, h0, h1⟩ := trodAll_two hA
  obtain ⟨z0, q0, g0, a0, b0⟩ := R.open_arg (hval 0 65 v0 rfl rfl) h0
  obtain ⟨z1, q1, g1, a1, b1⟩ := R.open_arg (hval 1 65 v1 rfl rfl) h1
  obtain rfl := a0 (by kernel_rfl)
  obtain rfl := a1 (by kernel_rfl)
  exact signOver_any z0 z1 W
end Go.Proofs.Ytalaffabcnccgaa
