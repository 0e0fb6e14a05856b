/- The law SignSmall. -/
import Derived.Test.YtalaffabcnccgaaSw
import Derived.Test.YtalaffabcnccgaaS5
import Derived.Test.YtalaffabcnccgaaSa
namespace Go.Proofs.Ytalaffabcnccgaa
open Go.ChangeShapes Go.WideShapes Go.ChangeAt Go.RowKit
open R (In64 InU64 lo64 nth)

theorem lit_z {z : Int} (h : z.natAbs < 18446744073709551616) : (sgn z).z = z := sgn_z (wsmall h)
theorem cmp_ge {x y : Int} : 0 ≤ cmpZ x y ↔ y ≤ x := by
  unfold cmpZ
  by_cases h : x < y
  · rw [if_pos h]; omega
  · rw [if_neg h]; split <;> omega
theorem cmp_le {x y : Int} : cmpZ x y ≤ 0 ↔ x ≤ y := by
  unfold cmpZ
  by_cases h : x < y
  · rw [if_pos h]; omega
  · rw [if_neg h]; split <;> omega
theorem sm_in (z : Int) : In64 (smZ z) := by
  unfold smZ In64
  split <;> omega
theorem sm_of {z : Int} (h : -9223372036854775808 ≤ z ∧ z ≤ 9223372036854775807) : smZ z = z := if_pos h
theorem sm_no {z : Int} (h : ¬ (-9223372036854775808 ≤ z ∧ z ≤ 9223372036854775807)) : smZ z = 0 := if_neg h
theorem bne_t {A B : Prop} [Decidable A] [Decidable B] (h : (!(decide A == decide B)) = true) : ¬ (A ↔ B) := fun e => by
  by_cases hA : A
  · rw [decide_eq_true hA, decide_eq_true (e.1 hA)] at h; cases h
  · rw [decide_eq_false hA, decide_eq_false (fun hB => hA (e.2 hB))] at h; cases h
theorem not_t {A : Prop} [Decidable A] (h : (!decide A) = true) : ¬ A := by simpa using h
theorem str_f {l : List UInt8} (h : (l == l) = false) : False := by simp at h
theorem ss_hi {a : Sg} : cmpZ (sgn a.z).z (sgn 9223372036854775807).z ≤ 0 ↔ a.z ≤ 9223372036854775807 := by rw [cmp_le, fix_z, lit_z (by decide)]
theorem ss_lo {a : Sg} : 0 ≤ cmpZ (sgn a.z).z (sgn (-9223372036854775808)).z ↔ -9223372036854775808 ≤ a.z := by rw [cmp_ge, fix_z, lit_z (by decide)]
theorem bne_f {A : Prop} [Decidable A] (h : (!(decide A == false)) = true) : A := by
  by_cases hA : A
  · exact hA
  · rw [decide_eq_false hA] at h; cases h
attribute [local irreducible] W512 in
set_option maxHeartbeats 4000000 in
theorem signSmall_any (n : Int) (hn : In64 n) (a : Sg) (w : World) : Calls Try.prog 11 #[.int .i64 n, .agg (cS a).toArray] w fun e w' => e = .returned (.bool true) ∧ Below w.heap.size w w' := by
  have hM := R.Own.start [] w
  have hs := sm_in a.z
  have h1 : (sgn n).z = n := lit_z (by unfold In64 at hn; omega)
  have h2 : -9223372036854775808 ≤ (sgn n).z ∧ (sgn n).z ≤ 9223372036854775807 := by rw [h1]; exact hn
  have h3 : smZ (sgn n).z = n := by rw [sm_of h2, h1]
  have h4 : In64 (-9223372036854775808) := by unfold In64; omega
  have h5 : In64 9223372036854775807 := by unfold In64; omega
  refine R.calls_of_WC (fn := Try.f11) Try.func11 rfl Try.ntmps11 (Nat.le_of_ble_eq_true rfl) ?_
  (refine R.stepU ?_; (repeat' (first | (with_reducible refine And.intro ?_ ?_) | (with_reducible intro _))); all_goals refine R.Lft.mk ?_)
  refine R.WC_planX [(0, false), (3, false), (1, true), (2, true), (4, true), (5, true), (6, false), (7, false)] R.mixed (by decide +kernel) R.ohm ?_
  (refine R.stepU ?_; (repeat' (first | (with_reducible refine And.intro ?_ ?_) | (with_reducible intro _))); all_goals refine R.Lft.mk ?_)
  refine R.WC_planX [(0, false), (1, false), (2, true), (3, false), (4, false), (5, false), (6, false), (7, false), (8, false), (9, false), (10, false), (11, false), (12, false), (13, false), (14, false), (15, false), (16, false), (17, false), (18, false), (19, false), (20, false), (21, false), (22, false), (23, false), (24, false), (25, false), (26, false), (28, false), (27, true), (29, false), (30, false), (31, false), (32, false), (33, false), (34, false), (35, false), (36, false), (37, false), (38, false), (39, false)] R.mixed (by decide +kernel) R.ohm ?_
  (refine R.stepU ?_; (repeat' (first | (with_reducible refine And.intro ?_ ?_) | (with_reducible intro _))); all_goals refine R.Lft.mk ?_)
  all_goals try refine R.WC_planX [(0, false), (2, false), (1, true), (3, true), (4, false), (5, false), (6, true), (7, false), (8, false)] R.mixed (by decide +kernel) R.ohm ?_
  all_goals (refine R.stepU ?_; (repeat' (first | (with_reducible refine And.intro ?_ ?_) | (with_reducible intro _))); all_goals refine R.Lft.mk ?_; (all_goals (try (exact ⟨rfl, R.Own.below (by assumption)⟩))))
  all_goals first
    | exact absurd rfl (by assumption)
    | exact absurd h2 (not_t (by assumption))
    | exact absurd h3 (by assumption)
    | exact (str_f (by assumption)).elim
    | (exfalso
       have h6 := bne_t (A := -9223372036854775808 ≤ a.z ∧ a.z ≤ 9223372036854775807) (B := cmpZ (sgn a.z).z (sgn 9223372036854775807).z ≤ 0) (by assumption)
       have h7 : 0 ≤ cmpZ (sgn a.z).z (sgn (-9223372036854775808)).z := by assumption
       rw [ss_hi] at h6
       rw [ss_lo] at h7
       omega)
    | (exfalso
       have h6 := bne_f (A := -9223372036854775808 ≤ a.z ∧ a.z ≤ 9223372036854775807) (by assumption)
       have h7 : ¬ 0 ≤ cmpZ (sgn a.z).z (sgn (-9223372036854775808)).z := by assumption
       rw [ss_lo] at h7
       omega)
    | (exfalso
       have h6 : sgn (smZ a.z) ≠ sgn a.z := by assumption
       exact h6 (by rw [sm_of (by assumption)]))
    | (exfalso
       have h6 : smZ a.z ≠ 0 := by assumption
       exact h6 (sm_no (not_t (by assumption))))
set_option maxRecDepth 100000 in
theorem walk_SignSmall {H : Type} {enc : TypeId × Value → H} (W : World) (base : Nat) (args : Array Value) (ds : List (DataW H)) (ps : List MemPlace) (hA : DataW.TrodAll enc Try.prog W 0 (fun _ => true) true [3, 65] args.toList ds ps)
    (hval : ∀ (j : Nat) t v, #[3, 65][j]? = some t → args[j]? = some v → Value.okWide Try.prog W .any base t v) :
    Calls Try.prog 11 args W fun e W' => e = .returned (.bool true) ∧ Below W.heap.size W W' := by
  obtain ⟨v0, v1, d0, d1, p0, p1, rfl, rfl, rfl, h0, h1⟩ := trodAll_two hA
  obtain ⟨z0, q0, g0, a0, b0⟩ := R.open_arg (hval 0 3 v0 rfl rfl) h0
  obtain ⟨z1, q1, g1, a1, b1⟩ := R.open_arg (hval 1 65 v1 rfl rfl) h1
  obtain rfl := b0 (by kernel_rfl) _ rfl
  obtain rfl := a1 (by kernel_rfl)
  have hb := bounds_i64 g0
  exact signSmall_any z0 (by unfold In64; omega) z1 W
end Go.Proofs.Ytalaffabcnccgaa
