/- Package ratio: which may be, how they compare, products, cut down. -/
import Derived.Test.YtalaffabcnccgaaRa
import Derived.Test.YtalaffabcnccgaaSo
namespace Go.Proofs.Ytalaffabcnccgaa
open Go.RowKit
open R (In64 InU64 lo64 nth)

/-- Whether a fraction is in lowest terms, and may be. -/
def termsB (a : Rt) : Bool := (!decide (a.den.n = 0)) && (decide (a.num = sgn a.num.z) && decide (gcdW a.num.mag a.den = W 1))
def mayB (a : Rt) : Bool := decide (((bitLen a.num.mag.n : Nat) : Int) ≤ 120) && (decide (((bitLen a.den.n : Nat) : Int) ≤ 120) && termsB a)
section
variable {a b : Rt}
theorem tm_0 (h : (!decide (a.den.n = 0)) = false) : termsB a = false := by unfold termsB; rw [h]; rfl
theorem tm_1 (h : ¬ a.num = sgn a.num.z) : termsB a = false := by unfold termsB; rw [decide_eq_false h]; cases (!decide (a.den.n = 0)) <;> rfl
theorem tm_2 (h : (!decide (a.den.n = 0)) = true) (h1 : a.num = sgn a.num.z) : termsB a = decide (gcdW a.num.mag a.den = W 1) := by
  unfold termsB
  rw [h, decide_eq_true h1]
  rfl
theorem my_0 (h : ¬ ((bitLen a.num.mag.n : Nat) : Int) ≤ 120) : mayB a = false := by unfold mayB; rw [decide_eq_false h]; rfl
theorem my_1 (h : ¬ ((bitLen a.den.n : Nat) : Int) ≤ 120) : mayB a = false := by unfold mayB; rw [decide_eq_false h]; simp
theorem my_2 (h : ((bitLen a.num.mag.n : Nat) : Int) ≤ 120) (h1 : ((bitLen a.den.n : Nat) : Int) ≤ 120) : mayB a = termsB a := by
  unfold mayB
  rw [decide_eq_true h, decide_eq_true h1]
  rfl
theorem both_0 {p q : Bool} (h : (!p) = true) : (p && q) = false := by cases p <;> simp_all
theorem both_1 {p q : Bool} (h : (!q) = true) : (p && q) = false := by cases p <;> simp_all
theorem both_2 {p q : Bool} (h : (!p) = false) (h1 : (!q) = false) : (p && q) = true := by cases p <;> cases q <;> simp_all
end
attribute [local irreducible] W512 in
set_option maxHeartbeats 1000000 in
theorem rterms (a : Rt) (w : World) : Calls Try.prog 108 #[.agg (cR a).toArray] w fun e w' => e = .returned (.bool (termsB a)) ∧ Below w.heap.size w w' := by
  have hM := R.Own.start [] w
  refine R.calls_of_WC (fn := Try.f108) Try.func108 rfl Try.ntmps108 (Nat.le_of_ble_eq_true rfl) ?_
  (refine R.stepU ?_; (repeat' (first | (with_reducible refine And.intro ?_ ?_) | (with_reducible intro _))); all_goals refine R.Lft.mk ?_)
  refine R.WC_planX [(0, false), (1, false), (2, true), (3, false), (4, false), (5, false), (6, false), (7, false), (8, false), (9, true), (10, false), (11, false), (12, false), (13, false), (14, false), (15, false), (16, false), (17, false), (18, true), (19, true), (20, false), (21, false), (22, false)] R.mixed (by decide +kernel) R.ohm ?_
  (refine R.stepU ?_; (repeat' (first | (with_reducible refine And.intro ?_ ?_) | (with_reducible intro _))); all_goals refine R.Lft.mk ?_; (all_goals (try (exact ⟨rfl, R.Own.below (by assumption)⟩))))
  all_goals first
    | (rw [tm_2 (a := a) (by assumption) (by assumption)]; exact ⟨rfl, R.Own.below (by assumption)⟩)
    | (rw [tm_1 (a := a) (by assumption)]; exact ⟨rfl, R.Own.below (by assumption)⟩)
    | (rw [tm_0 (a := a) (by assumption)]; exact ⟨rfl, R.Own.below (by assumption)⟩)
instance con_rterms (a : Rt) : R.ConB Try.prog 108 #[.agg (cR a).toArray] Unit (fun _ _ => True) (fun _ => .bool (termsB a)) := ⟨fun _ w _ => rterms a w⟩
attribute [local irreducible] W512 in
theorem rmay (a : Rt) (w : World) : Calls Try.prog 72 #[.agg (cR a).toArray] w fun e w' => e = .returned (.bool (mayB a)) ∧ Below w.heap.size w w' := by
  have hM := R.Own.start [] w
  refine R.calls_of_WC (fn := Try.f72) Try.func72 rfl Try.ntmps72 (Nat.le_of_ble_eq_true rfl) ?_
  (refine R.stepU ?_; (repeat' (first | (with_reducible refine And.intro ?_ ?_) | (with_reducible intro _))); all_goals refine R.Lft.mk ?_; (all_goals (try (exact ⟨rfl, R.Own.below (by assumption)⟩))))
  all_goals first
    | (rw [my_2 (a := a) (by assumption) (by assumption)]; exact ⟨rfl, R.Own.below (by assumption)⟩)
    | (rw [my_1 (a := a) (by assumption)]; exact ⟨rfl, R.Own.below (by assumption)⟩)
    | (rw [my_0 (a := a) (by assumption)]; exact ⟨rfl, R.Own.below (by assumption)⟩)
instance con_rmay (a : Rt) : R.ConB Try.prog 72 #[.agg (cR a).toArray] Unit (fun _ _ => True) (fun _ => .bool (mayB a)) := ⟨fun _ w _ => rmay a w⟩
def errB (p : Bool) : Int := if p then 0 else 1
def cmpR (a b : Rt) : Int := cmpZ (resZ (crossZ a b)).z (resZ (crossZ b a)).z
attribute [local irreducible] W512 in
set_option maxHeartbeats 1000000 in
theorem rcmp (a b : Rt) (w : World) : Calls Try.prog 84 #[.agg (cR a).toArray, .agg (cR b).toArray] w fun e w' => e = .returned (.tuple #[.int .i64 (if mayB a && mayB b then cmpR a b else 0), .int .i64 (errB (mayB a && mayB b))]) ∧ Below w.heap.size w w' := by
  have hM := R.Own.start [] w
  refine R.calls_of_WC (fn := Try.f84) Try.func84 rfl Try.ntmps84 (Nat.le_of_ble_eq_true rfl) ?_
  (refine R.stepU ?_; (repeat' (first | (with_reducible refine And.intro ?_ ?_) | (with_reducible intro _))); all_goals refine R.Lft.mk ?_; (all_goals (try (exact ⟨rfl, R.Own.below (by assumption)⟩))))
  all_goals try refine R.WC_planX [(0, false), (1, false), (3, false), (4, false), (2, true), (5, true), (6, true), (7, false), (8, false)] R.mixed (by decide +kernel) R.ohm ?_
  all_goals (refine R.stepU ?_; (repeat' (first | (with_reducible refine And.intro ?_ ?_) | (with_reducible intro _))); all_goals refine R.Lft.mk ?_; (all_goals (try (exact ⟨rfl, R.Own.below (by assumption)⟩))))
  all_goals first
    | (rw [both_2 (p := mayB a) (q := mayB b) (by assumption) (by assumption)]; exact ⟨rfl, R.Own.below (by assumption)⟩)
    | (rw [both_1 (p := mayB a) (q := mayB b) (by assumption)]; exact ⟨rfl, R.Own.below (by assumption)⟩)
    | (rw [both_0 (p := mayB a) (q := mayB b) (by assumption)]; exact ⟨rfl, R.Own.below (by assumption)⟩)
instance con_rcmp (a b : Rt) : R.ConB Try.prog 84 #[.agg (cR a).toArray, .agg (cR b).toArray] Unit (fun _ _ => True) (fun _ => .tuple #[.int .i64 (if mayB a && mayB b then cmpR a b else 0), .int .i64 (errB (mayB a && mayB b))]) := ⟨fun _ w _ => rcmp a b w⟩
def mulR (a b : Rt) : Rt := lowR (resZ (a.num.z * b.num.z)) (W (a.den.n * b.den.n))
def nulR : Rt := ⟨⟨false, W 0⟩, W 0⟩
attribute [local irreducible] W512 in
set_option maxHeartbeats 1000000 in
theorem rmul (a b : Rt) (w : World) : Calls Try.prog 86 #[.agg (cR a).toArray, .agg (cR b).toArray] w fun e w' => e = .returned (.tuple #[.agg (cR (if mayB a && mayB b then mulR a b else nulR)).toArray, .int .i64 (errB (mayB a && mayB b))]) ∧ Below w.heap.size w w' := by
  have hM := R.Own.start [] w
  refine R.calls_of_WC (fn := Try.f86) Try.func86 rfl Try.ntmps86 (Nat.le_of_ble_eq_true rfl) ?_
  (refine R.stepU ?_; (repeat' (first | (with_reducible refine And.intro ?_ ?_) | (with_reducible intro _))); all_goals refine R.Lft.mk ?_; (all_goals (try (exact ⟨rfl, R.Own.below (by assumption)⟩))))
  all_goals first
    | (rw [both_2 (p := mayB a) (q := mayB b) (by assumption) (by assumption)]; exact ⟨rfl, R.Own.below (by assumption)⟩)
    | (rw [both_1 (p := mayB a) (q := mayB b) (by assumption)]; exact ⟨rfl, R.Own.below (by assumption)⟩)
    | (rw [both_0 (p := mayB a) (q := mayB b) (by assumption)]; exact ⟨rfl, R.Own.below (by assumption)⟩)
instance con_rmul (a b : Rt) : R.ConB Try.prog 86 #[.agg (cR a).toArray, .agg (cR b).toArray] Unit (fun _ _ => True) (fun _ => .tuple #[.agg (cR (if mayB a && mayB b then mulR a b else nulR)).toArray, .int .i64 (errB (mayB a && mayB b))]) := ⟨fun _ w _ => rmul a b w⟩
/-- A fraction, cut down. -/
def flS (a : Rt) : Sg := if termsB a then ovS a.num ⟨false, a.den⟩ else ⟨false, W 0⟩
def flE (a : Rt) : Int := if termsB a then eW a.den else 1
attribute [local irreducible] W512 in
theorem rfloor (a : Rt) (w : World) : Calls Try.prog 87 #[.agg (cR a).toArray] w fun e w' => e = .returned (.tuple #[.agg (cS (flS a)).toArray, .int .i64 (flE a)]) ∧ Below w.heap.size w w' := by
  have hM := R.Own.start [] w
  unfold flS flE
  refine R.calls_of_WC (fn := Try.f87) Try.func87 rfl Try.ntmps87 (Nat.le_of_ble_eq_true rfl) ?_
  (refine R.stepU ?_; (repeat' (first | (with_reducible refine And.intro ?_ ?_) | (with_reducible intro _))); all_goals refine R.Lft.mk ?_; (all_goals (try (exact ⟨rfl, R.Own.below (by assumption)⟩))))
  all_goals first
    | (rw [show termsB a = true by (have h : (!termsB a) = false := by assumption); simpa using h]; exact ⟨rfl, R.Own.below (by assumption)⟩)
    | (rw [show termsB a = false by (have h : (!termsB a) = true := by assumption); simpa using h]; exact ⟨rfl, R.Own.below (by assumption)⟩)
instance con_rfloor (a : Rt) : R.ConB Try.prog 87 #[.agg (cR a).toArray] Unit (fun _ _ => True) (fun _ => .tuple #[.agg (cS (flS a)).toArray, .int .i64 (flE a)]) := ⟨fun _ w _ => rfloor a w⟩
end Go.Proofs.Ytalaffabcnccgaa
