/- Package sign: all but Over and Text. Package sign: differences, products, which is less, small ones. -/
import Derived.Test.YtalaffabcnccgaaSn
import Derived.Test.YtalaffabcnccgaaVGo
namespace Go.Proofs.Ytalaffabcnccgaa
open Go.RowKit
open R (In64 InU64 lo64 nth)

instance con_two (a : Int) : R.ConP Try.prog 21 #[.int .i64 a] Unit (fun _ _ => In64 a) (fun _ => .tuple #[.bool (decide (a < 0)), .int .u64 (a.natAbs : Nat)]) := ⟨fun _ w h => by
  have h1 := two_any a h w
  have h2 : (if a < 0 then -a else a) = ((a.natAbs : Nat) : Int) := by split <;> omega
  rw [h2] at h1
  exact h1⟩
theorem sfix (a : Sg) (w : World) : Calls Try.prog 82 #[.agg (cS a).toArray] w fun e w' => e = .returned (.agg (cS (sgn a.z)).toArray) ∧ Below w.heap.size w w' := by
  have hM := R.Own.start [] w
  by_cases h : a.mag.n = 0
  · rw [fix_zero h]
    refine R.calls_of_WC (fn := Try.f82) Try.func82 rfl Try.ntmps82 (Nat.le_of_ble_eq_true rfl) ?_
    (refine R.stepU ?_; (repeat' (first | (with_reducible refine And.intro ?_ ?_) | (with_reducible intro _))); all_goals refine R.Lft.mk ?_; (all_goals (try (exact ⟨rfl, R.Own.below (by assumption)⟩))))
  · rw [fix_same h]
    refine R.calls_of_WC (fn := Try.f82) Try.func82 rfl Try.ntmps82 (Nat.le_of_ble_eq_true rfl) ?_
    (refine R.stepU ?_; (repeat' (first | (with_reducible refine And.intro ?_ ?_) | (with_reducible intro _))); all_goals refine R.Lft.mk ?_; (all_goals (try (exact ⟨rfl, R.Own.below (by assumption)⟩))))
instance con_sfix (a : Sg) : R.ConB Try.prog 82 #[.agg (cS a).toArray] Unit (fun _ _ => True) (fun _ => .agg (cS (sgn a.z)).toArray) := ⟨fun _ w _ => sfix a w⟩
theorem sof (n : Int) (h : In64 n) (w : World) : Calls Try.prog 54 #[.int .i64 n] w fun e w' => e = .returned (.agg (cS (sgn n)).toArray) ∧ Below w.heap.size w w' := by
  have hM := R.Own.start [] w
  have h1 := of_z h
  have h2 : InU64 (n.natAbs : Nat) := by unfold In64 at h; unfold InU64; omega
  refine R.calls_of_WC (fn := Try.f54) Try.func54 rfl Try.ntmps54 (Nat.le_of_ble_eq_true rfl) ?_
  (refine R.stepU ?_; (repeat' (first | (with_reducible refine And.intro ?_ ?_) | (with_reducible intro _))); all_goals refine R.Lft.mk ?_; (all_goals (try (exact ⟨rfl, R.Own.below (by assumption)⟩))))
  rw [h1]
  exact ⟨rfl, R.Own.below (by assumption)⟩
instance con_sof (n : Int) : R.ConB Try.prog 54 #[.int .i64 n] Unit (fun _ _ => In64 n) (fun _ => .agg (cS (sgn n)).toArray) := ⟨fun _ w h => sof n h w⟩
theorem sless (a : Sg) (w : World) : Calls Try.prog 76 #[.agg (cS a).toArray] w fun e w' => e = .returned (.agg (cS (sgn (-a.z))).toArray) ∧ Below w.heap.size w w' := by
  have hM := R.Own.start [] w
  have h1 := less_z a
  refine R.calls_of_WC (fn := Try.f76) Try.func76 rfl Try.ntmps76 (Nat.le_of_ble_eq_true rfl) ?_
  (refine R.stepU ?_; (repeat' (first | (with_reducible refine And.intro ?_ ?_) | (with_reducible intro _))); all_goals refine R.Lft.mk ?_; (all_goals (try (exact ⟨rfl, R.Own.below (by assumption)⟩))))
  rw [h1]
  exact ⟨rfl, R.Own.below (by assumption)⟩
instance con_sless (a : Sg) : R.ConB Try.prog 76 #[.agg (cS a).toArray] Unit (fun _ _ => True) (fun _ => .agg (cS (sgn (-a.z))).toArray) := ⟨fun _ w _ => sless a w⟩
theorem smade (neg : Bool) (m : Wd) (fits : Bool) (w : World) : Calls Try.prog 109 #[.bool neg, .agg (cW m).toArray, .bool fits] w fun e w' => e = .returned (.tuple #[.agg (cS (madeS neg m fits)).toArray, .bool fits]) ∧ Below w.heap.size w w' := by
  have hM := R.Own.start [] w
  cases fits
  · refine R.calls_of_WC (fn := Try.f109) Try.func109 rfl Try.ntmps109 (Nat.le_of_ble_eq_true rfl) ?_
    (refine R.stepU ?_; (repeat' (first | (with_reducible refine And.intro ?_ ?_) | (with_reducible intro _))); all_goals refine R.Lft.mk ?_; (all_goals (try (exact ⟨rfl, R.Own.below (by assumption)⟩))))
  · refine R.calls_of_WC (fn := Try.f109) Try.func109 rfl Try.ntmps109 (Nat.le_of_ble_eq_true rfl) ?_
    (refine R.stepU ?_; (repeat' (first | (with_reducible refine And.intro ?_ ?_) | (with_reducible intro _))); all_goals refine R.Lft.mk ?_; (all_goals (try (exact ⟨rfl, R.Own.below (by assumption)⟩))))
instance con_smade (neg : Bool) (m : Wd) (fits : Bool) : R.ConB Try.prog 109 #[.bool neg, .agg (cW m).toArray, .bool fits] Unit (fun _ _ => True) (fun _ => .tuple #[.agg (cS (madeS neg m fits)).toArray, .bool fits]) := ⟨fun _ w _ => smade neg m fits w⟩
attribute [local irreducible] W512 in
set_option maxHeartbeats 1000000 in
theorem sadd (a b : Sg) (w : World) : Calls Try.prog 75 #[.agg (cS a).toArray, .agg (cS b).toArray] w fun e w' => e = .returned (.tuple #[.agg (cS (resZ (a.z + b.z))).toArray, .bool (decide ((a.z + b.z).natAbs < W512))]) ∧ Below w.heap.size w w' := by
  have hM := R.Own.start [] w
  by_cases h : (sgn a.z).neg = (sgn b.z).neg
  · obtain ⟨e1, e2⟩ := add_same h
    refine R.calls_of_WC (fn := Try.f75) Try.func75 rfl Try.ntmps75 (Nat.le_of_ble_eq_true rfl) ?_
    (refine R.stepU ?_; (repeat' (first | (with_reducible refine And.intro ?_ ?_) | (with_reducible intro _))); all_goals refine R.Lft.mk ?_)
    (refine R.WC_planK 2 [(0, false), (2, false), (1, true), (3, true), (4, true), (5, true)] R.mixed (by decide +kernel) R.ohm ?_; simp only [List.take_succ_cons, List.take_zero])
    (refine R.stepU ?_; (repeat' (first | (with_reducible refine And.intro ?_ ?_) | (with_reducible intro _))); all_goals refine R.Lft.mk ?_; (all_goals (try (exact ⟨rfl, R.Own.below (by assumption)⟩))))
    all_goals (rw [e1, e2]; exact ⟨rfl, R.Own.below (by assumption)⟩)
  · by_cases hlt : (sgn a.z).mag.n < (sgn b.z).mag.n
    · have hc : cmpI (sgn a.z).mag.n (sgn b.z).mag.n < 0 := cmpI_lt0.2 hlt
      obtain ⟨e1, e2⟩ := add_diff (fun e => h e.symm) (Nat.le_of_lt hlt)
      rw [Int.add_comm] at e1 e2
      refine R.calls_of_WC (fn := Try.f75) Try.func75 rfl Try.ntmps75 (Nat.le_of_ble_eq_true rfl) ?_
      (refine R.stepU ?_; (repeat' (first | (with_reducible refine And.intro ?_ ?_) | (with_reducible intro _))); all_goals refine R.Lft.mk ?_)
      (refine R.WC_planK 2 [(0, false), (2, false), (1, true), (3, true), (4, true), (5, true)] R.mixed (by decide +kernel) R.ohm ?_; simp only [List.take_succ_cons, List.take_zero])
      (refine R.stepU ?_; (repeat' (first | (with_reducible refine And.intro ?_ ?_) | (with_reducible intro _))); all_goals refine R.Lft.mk ?_; (all_goals (try (exact ⟨rfl, R.Own.below (by assumption)⟩))))
      all_goals (rw [e1, e2]; exact ⟨rfl, R.Own.below (by assumption)⟩)
    · have hc : ¬ cmpI (sgn a.z).mag.n (sgn b.z).mag.n < 0 := fun h => hlt (cmpI_lt0.1 h)
      obtain ⟨e1, e2⟩ := add_diff h (by omega)
      refine R.calls_of_WC (fn := Try.f75) Try.func75 rfl Try.ntmps75 (Nat.le_of_ble_eq_true rfl) ?_
      (refine R.stepU ?_; (repeat' (first | (with_reducible refine And.intro ?_ ?_) | (with_reducible intro _))); all_goals refine R.Lft.mk ?_)
      (refine R.WC_planK 2 [(0, false), (2, false), (1, true), (3, true), (4, true), (5, true)] R.mixed (by decide +kernel) R.ohm ?_; simp only [List.take_succ_cons, List.take_zero])
      (refine R.stepU ?_; (repeat' (first | (with_reducible refine And.intro ?_ ?_) | (with_reducible intro _))); all_goals refine R.Lft.mk ?_; (all_goals (try (exact ⟨rfl, R.Own.below (by assumption)⟩))))
      all_goals (rw [e1, e2]; exact ⟨rfl, R.Own.below (by assumption)⟩)
instance con_sadd (a b : Sg) : R.ConB Try.prog 75 #[.agg (cS a).toArray, .agg (cS b).toArray] Unit (fun _ _ => True) (fun _ => .tuple #[.agg (cS (resZ (a.z + b.z))).toArray, .bool (decide ((a.z + b.z).natAbs < W512))]) := ⟨fun _ w _ => sadd a b w⟩
end Go.Proofs.Ytalaffabcnccgaa
namespace Go.Proofs.Ytalaffabcnccgaa
open Go.RowKit
open R (In64 InU64 lo64 nth)

attribute [local irreducible] W512 in
theorem ssub (a b : Sg) (w : World) : Calls Try.prog 77 #[.agg (cS a).toArray, .agg (cS b).toArray] w fun e w' => e = .returned (.tuple #[.agg (cS (resZ (a.z - b.z))).toArray, .bool (decide ((a.z - b.z).natAbs < W512))]) ∧ Below w.heap.size w w' := by
  have hM := R.Own.start [] w
  have e1 : a.z + (sgn (-b.z)).z = a.z - b.z := by rw [sgn_z (by have := b.z_lt; omega)]; omega
  refine R.calls_of_WC (fn := Try.f77) Try.func77 rfl Try.ntmps77 (Nat.le_of_ble_eq_true rfl) ?_
  (refine R.stepU ?_; (repeat' (first | (with_reducible refine And.intro ?_ ?_) | (with_reducible intro _))); all_goals refine R.Lft.mk ?_)
  refine R.WC_planX [(0, false), (1, false), (2, true), (3, true), (4, false), (5, false), (6, true), (7, false)] R.mixed (by decide +kernel) R.ohm ?_
  (refine R.stepU ?_; (repeat' (first | (with_reducible refine And.intro ?_ ?_) | (with_reducible intro _))); all_goals refine R.Lft.mk ?_; (all_goals (try (exact ⟨rfl, R.Own.below (by assumption)⟩))))
  rw [e1]
  exact ⟨rfl, R.Own.below (by assumption)⟩
instance con_ssub (a b : Sg) : R.ConB Try.prog 77 #[.agg (cS a).toArray, .agg (cS b).toArray] Unit (fun _ _ => True) (fun _ => .tuple #[.agg (cS (resZ (a.z - b.z))).toArray, .bool (decide ((a.z - b.z).natAbs < W512))]) := ⟨fun _ w _ => ssub a b w⟩
attribute [local irreducible] W512 in
theorem smul (a b : Sg) (w : World) : Calls Try.prog 74 #[.agg (cS a).toArray, .agg (cS b).toArray] w fun e w' => e = .returned (.tuple #[.agg (cS (resZ (a.z * b.z))).toArray, .bool (decide ((a.z * b.z).natAbs < W512))]) ∧ Below w.heap.size w w' := by
  have hM := R.Own.start [] w
  obtain ⟨e1, e2⟩ := @mul_made a b
  refine R.calls_of_WC (fn := Try.f74) Try.func74 rfl Try.ntmps74 (Nat.le_of_ble_eq_true rfl) ?_
  (refine R.stepU ?_; (repeat' (first | (with_reducible refine And.intro ?_ ?_) | (with_reducible intro _))); all_goals refine R.Lft.mk ?_; (all_goals (try (exact ⟨rfl, R.Own.below (by assumption)⟩))))
  rw [e1, e2]
  exact ⟨rfl, R.Own.below (by assumption)⟩
instance con_smul (a b : Sg) : R.ConB Try.prog 74 #[.agg (cS a).toArray, .agg (cS b).toArray] Unit (fun _ _ => True) (fun _ => .tuple #[.agg (cS (resZ (a.z * b.z))).toArray, .bool (decide ((a.z * b.z).natAbs < W512))]) := ⟨fun _ w _ => smul a b w⟩
attribute [local irreducible] W512 in
theorem scmp (a b : Sg) (w : World) : Calls Try.prog 81 #[.agg (cS a).toArray, .agg (cS b).toArray] w fun e w' => e = .returned (.int .i64 (cmpZ a.z b.z)) ∧ Below w.heap.size w w' := by
  have hM := R.Own.start [] w
  refine R.calls_of_WC (fn := Try.f81) Try.func81 rfl Try.ntmps81 (Nat.le_of_ble_eq_true rfl) ?_
  (refine R.stepU ?_; (repeat' (first | (with_reducible refine And.intro ?_ ?_) | (with_reducible intro _))); all_goals refine R.Lft.mk ?_)
  (refine R.WC_planK 1 [(0, false), (2, false), (1, true), (3, true), (4, true), (5, true)] R.mixed (by decide +kernel) R.ohm ?_; simp only [List.take_succ_cons, List.take_zero])
  (refine R.stepU ?_; (repeat' (first | (with_reducible refine And.intro ?_ ?_) | (with_reducible intro _))); all_goals refine R.Lft.mk ?_; (all_goals (try (exact ⟨rfl, R.Own.below (by assumption)⟩))))
  · rw [cmp_neg (by assumption) (by assumption)]
    exact ⟨rfl, R.Own.below (by assumption)⟩
  · rw [cmpZ_lt (by omega)]
    exact ⟨rfl, R.Own.below (by assumption)⟩
  · rw [cmpZ_gt (by omega)]
    exact ⟨rfl, R.Own.below (by assumption)⟩
  · rw [cmp_pos (by assumption) (by assumption)]
    exact ⟨rfl, R.Own.below (by assumption)⟩
instance con_scmp (a b : Sg) : R.ConB Try.prog 81 #[.agg (cS a).toArray, .agg (cS b).toArray] Unit (fun _ _ => True) (fun _ => .int .i64 (cmpZ a.z b.z)) := ⟨fun _ w _ => scmp a b w⟩
attribute [local irreducible] W512 in
theorem ssmall (a : Sg) (w : World) : Calls Try.prog 55 #[.agg (cS a).toArray] w fun e w' => e = .returned (.tuple #[.int .i64 (if In64 a.z then a.z else 0), .bool (decide (In64 a.z))]) ∧ Below w.heap.size w w' := by
  have hM := R.Own.start [] w
  have hw := wd_lt a.mag.n 0
  refine R.calls_of_WC (fn := Try.f55) Try.func55 rfl Try.ntmps55 (Nat.le_of_ble_eq_true rfl) ?_
  (refine R.stepU ?_; (repeat' (first | (with_reducible refine And.intro ?_ ?_) | (with_reducible intro _))); all_goals refine R.Lft.mk ?_)
  refine R.WC_planX [(0, false), (1, false), (2, false), (3, true), (4, false), (5, false)] R.mixed (by decide +kernel) R.ohm ?_
  (refine R.stepU ?_; (repeat' (first | (with_reducible refine And.intro ?_ ?_) | (with_reducible intro _))); all_goals refine R.Lft.mk ?_; (all_goals (try (exact ⟨rfl, R.Own.below (by assumption)⟩))))
  all_goals refine ⟨?_, R.Own.below (by assumption)⟩
  · rename_i h
    have := small_ne h
    exact sm_far (sm_big (by omega))
  all_goals have hs := small_eq (a := a) (Decidable.not_not.1 (by assumption))
  · exact sm_far (sm_big (by omega))
  · rename_i h
    have hz := z_pos (a := a) (by simpa using h)
    exact sm_far (by unfold In64; omega)
  · rename_i h
    have hz := z_neg h
    exact sm_near (by unfold In64; omega) (by rw [wrap_neg (by omega)]; omega)
  · rename_i h1 h
    rw [h] at h1
    cases h1
  · rename_i h
    have hz := z_neg h
    exact sm_near (by unfold In64; omega) (by rw [wrap_neg (by omega)]; omega)
  · rename_i h
    have hz := z_pos h
    exact sm_near (by unfold In64; omega) (by omega)
/-- Whether a whole number is an int. -/
def smZ (z : Int) : Int := if -9223372036854775808 ≤ z ∧ z ≤ 9223372036854775807 then z else 0
instance con_ssmall (a : Sg) : R.ConB Try.prog 55 #[.agg (cS a).toArray] Unit (fun _ _ => True) (fun _ => .tuple #[.int .i64 (smZ a.z), .bool (decide (-9223372036854775808 ≤ a.z ∧ a.z ≤ 9223372036854775807))]) := ⟨fun _ w _ => by
  have h := ssmall a w
  have h1 : In64 a.z ↔ (-9223372036854775808 ≤ a.z ∧ a.z ≤ 9223372036854775807) := by unfold In64; rfl
  have h2 : decide (In64 a.z) = decide (-9223372036854775808 ≤ a.z ∧ a.z ≤ 9223372036854775807) := decide_eq_decide.2 h1
  have h3 : (if In64 a.z then a.z else 0) = smZ a.z := by
    unfold smZ
    by_cases h4 : In64 a.z
    · rw [if_pos h4, if_pos (h1.1 h4)]
    · rw [if_neg h4, if_neg (fun h => h4 (h1.2 h))]
  rw [h2, h3] at h
  exact h⟩
end Go.Proofs.Ytalaffabcnccgaa
