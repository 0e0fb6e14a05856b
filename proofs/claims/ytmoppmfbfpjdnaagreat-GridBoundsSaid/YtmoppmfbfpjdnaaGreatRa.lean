/- Package ratio: lowest terms. Package ratio: which may be, how they compare, products, cut down. Package ratio: sums, parts. -/
import Derived.Test.YtmoppmfbfpjdnaaGreatSn
import Derived.Test.YtmoppmfbfpjdnaaGreatGc
import Derived.Test.YtmoppmfbfpjdnaaGreatSo
import Derived.Test.YtmoppmfbfpjdnaaGreatDv
namespace Go.Proofs.YtmoppmfbfpjdnaaGreat
open Go.RowKit
open R (In64 InU64 lo64 nth)

/-- A fraction in lowest terms. -/
def lowR (x : Sg) (d : Wd) : Rt := ⟨sgn (⟨x.neg, qW x.mag (gcdW x.mag d)⟩ : Sg).z, qW d (gcdW x.mag d)⟩
theorem gcdW_n (a b : Wd) : (gcdW a b).n = Nat.gcd a.n b.n := W_n (gcd_lt a b)
theorem qWn (a b : Wd) : (qW a b).n = a.n / b.n := W_val a _ (Nat.div_le_self _ _)
theorem low_eq (x : Sg) (d : Wd) : (⟨⟨(sgn x.z).neg, qW (sgn x.z).mag (gcdW (sgn x.z).mag d)⟩, qW d (gcdW (sgn x.z).mag d)⟩ : Rt) = lowR x d := by
  unfold lowR
  rw [fix_mag]
  refine Rt.ext_iff.2 ⟨?_, rfl⟩
  dsimp only
  by_cases h0 : x.mag.n = 0
  · have hq : (qW x.mag (gcdW x.mag d)).n = 0 := by rw [qWn, h0, Nat.zero_div]
    have hw : qW x.mag (gcdW x.mag d) = W 0 := Wd.zero_iff.2 hq
    rw [fix_zero h0, hw, fix_zero (a := ⟨x.neg, W 0⟩) (W_n W512_pos)]
  · have hg : (gcdW x.mag d).n ≤ x.mag.n := by rw [gcdW_n]; exact Nat.gcd_le_left _ (by omega)
    have hp : 0 < (gcdW x.mag d).n := by rw [gcdW_n]; exact Nat.gcd_pos_of_pos_left _ (by omega)
    have hq : (qW x.mag (gcdW x.mag d)).n ≠ 0 := by
      rw [qWn]
      have := Nat.div_pos hg hp
      omega
    rw [fix_same h0, fix_same (a := ⟨x.neg, qW x.mag (gcdW x.mag d)⟩) hq]
attribute [local irreducible] W512 in
set_option maxHeartbeats 1000000 in
theorem rlow (x : Sg) (d : Wd) (w : World) : Calls Tryz.prog 81 #[.agg (cS x).toArray, .agg (cW d).toArray] w fun e w' => e = .returned (.agg (cR (lowR x d)).toArray) ∧ Below w.heap.size w w' := by
  have hM := R.Own.start [] w
  rw [← low_eq]
  refine R.calls_of_WC (fn := Tryz.f81) Tryz.func81 rfl Tryz.ntmps81 (Nat.le_of_ble_eq_true rfl) ?_
  (refine R.stepU ?_; (repeat' (first | (with_reducible refine And.intro ?_ ?_) | (with_reducible intro _))); all_goals refine R.Lft.mk ?_; (all_goals (try (exact ⟨rfl, R.Own.below (by assumption)⟩))))
instance con_rlow (x : Sg) (d : Wd) : R.ConB Tryz.prog 81 #[.agg (cS x).toArray, .agg (cW d).toArray] Unit (fun _ _ => True) (fun _ => .agg (cR (lowR x d)).toArray) := ⟨fun _ w _ => rlow x d w⟩
/-- A number with the sign of two. -/
def sidS (a b : Sg) : Sg := ⟨!(a.neg == b.neg), a.mag⟩
def ofR (a b : Sg) : Rt := if b.mag.n = 0 then ⟨⟨false, W 0⟩, W 0⟩ else lowR (sidS a b) b.mag
attribute [local irreducible] W512 in
theorem rof (a b : Sg) (w : World) : Calls Tryz.prog 52 #[.agg (cS a).toArray, .agg (cS b).toArray] w fun e w' => e = .returned (.tuple #[.agg (cR (ofR a b)).toArray, .int .i64 (eW b.mag)]) ∧ Below w.heap.size w w' := by
  have hM := R.Own.start [] w
  by_cases h0 : b.mag.n = 0
  · have e1 : eW b.mag = 1 := by unfold eW; rw [if_pos h0]
    have e2 : ofR a b = ⟨⟨false, W 0⟩, W 0⟩ := if_pos h0
    rw [e1, e2]
    refine R.calls_of_WC (fn := Tryz.f52) Tryz.func52 rfl Tryz.ntmps52 (Nat.le_of_ble_eq_true rfl) ?_
    (refine R.stepU ?_; (repeat' (first | (with_reducible refine And.intro ?_ ?_) | (with_reducible intro _))); all_goals refine R.Lft.mk ?_; (all_goals (try (exact ⟨rfl, R.Own.below (by assumption)⟩))))
  · have e1 : eW b.mag = 0 := by unfold eW; rw [if_neg h0]
    have e2 : ofR a b = lowR (sidS a b) b.mag := if_neg h0
    rw [e1, e2]
    refine R.calls_of_WC (fn := Tryz.f52) Tryz.func52 rfl Tryz.ntmps52 (Nat.le_of_ble_eq_true rfl) ?_
    (refine R.stepU ?_; (repeat' (first | (with_reducible refine And.intro ?_ ?_) | (with_reducible intro _))); all_goals refine R.Lft.mk ?_; (all_goals (try (exact ⟨rfl, R.Own.below (by assumption)⟩))))
instance con_rof (a b : Sg) : R.ConB Tryz.prog 52 #[.agg (cS a).toArray, .agg (cS b).toArray] Unit (fun _ _ => True) (fun _ => .tuple #[.agg (cR (ofR a b)).toArray, .int .i64 (eW b.mag)]) := ⟨fun _ w _ => rof a b w⟩
/-- One's number times the other one's divisor. -/
def crossZ (a b : Rt) : Int := a.num.z * (b.den.n : Int)
end Go.Proofs.YtmoppmfbfpjdnaaGreat
namespace Go.Proofs.YtmoppmfbfpjdnaaGreat
open Go.RowKit
open R (In64 InU64 lo64 nth)

/-- Whether a fraction is in lowest terms, and may be. -/
def termsB (a : Rt) : Bool := (!decide (a.den.n = 0)) && (decide (a.num = sgn a.num.z) && decide (gcdW a.num.mag a.den = W 1))
def mayB (a : Rt) : Bool := decide (((bitLen a.num.mag.n : Nat) : Int) ≤ 120) && (decide (((bitLen a.den.n : Nat) : Int) ≤ 120) && termsB a)
section
variable {a b : Rt}
theorem tm_0 (h : (!decide (a.den.n = 0)) = false) : termsB a = false := by unfold termsB; rw [h]; rfl
theorem tm_1 (h : ¬ a.num = sgn a.num.z) : termsB a = false := by unfold termsB; rw [decide_eq_false h]; cases (!decide (a.den.n = 0)) <;> rfl
theorem tm_2 (h : (!decide (a.den.n = 0)) = true) (h1 : a.num = sgn a.num.z) : termsB a = decide (gcdW a.num.mag a.den = W 1) := by
  unfold termsB
  rw [h, decide_eq_true h1]
  rfl
theorem my_0 (h : ¬ ((bitLen a.num.mag.n : Nat) : Int) ≤ 120) : mayB a = false := by unfold mayB; rw [decide_eq_false h]; rfl
theorem my_1 (h : ¬ ((bitLen a.den.n : Nat) : Int) ≤ 120) : mayB a = false := by unfold mayB; rw [decide_eq_false h]; simp
theorem my_2 (h : ((bitLen a.num.mag.n : Nat) : Int) ≤ 120) (h1 : ((bitLen a.den.n : Nat) : Int) ≤ 120) : mayB a = termsB a := by
  unfold mayB
  rw [decide_eq_true h, decide_eq_true h1]
  rfl
theorem both_0 {p q : Bool} (h : (!p) = true) : (p && q) = false := by cases p <;> simp_all
theorem both_1 {p q : Bool} (h : (!q) = true) : (p && q) = false := by cases p <;> simp_all
theorem both_2 {p q : Bool} (h : (!p) = false) (h1 : (!q) = false) : (p && q) = true := by cases p <;> cases q <;> simp_all
end
def errB (p : Bool) : Int := if p then 0 else 1
def cmpR (a b : Rt) : Int := cmpZ (resZ (crossZ a b)).z (resZ (crossZ b a)).z
def mulR (a b : Rt) : Rt := lowR (resZ (a.num.z * b.num.z)) (W (a.den.n * b.den.n))
def nulR : Rt := ⟨⟨false, W 0⟩, W 0⟩
/-- A fraction, cut down. -/
def flS (a : Rt) : Sg := if termsB a then ovS a.num ⟨false, a.den⟩ else ⟨false, W 0⟩
def flE (a : Rt) : Int := if termsB a then eW a.den else 1
end Go.Proofs.YtmoppmfbfpjdnaaGreat
namespace Go.Proofs.YtmoppmfbfpjdnaaGreat
open Go.RowKit
open R (In64 InU64 lo64 nth)

def addR (a b : Rt) : Rt := lowR (resZ ((resZ (crossZ a b)).z + (resZ (crossZ b a)).z)) (W (a.den.n * b.den.n))
/-- A part of a number, cut. -/
def badP (n num den : Int) : Prop := n < 0 ∨ num < 0 ∨ den ≤ 0 ∨ den < num
instance decBadP (n num den : Int) : Decidable (badP n num den) := by unfold badP; infer_instance
def partQ (n num den : Int) : Int := if badP n num den then 0 else n * num / den
def partE (n num den : Int) : Int := if badP n num den then 1 else 0
theorem part_div {n num den : Int} (hn : In64 n) (_hm : In64 num) (_hd : In64 den) (hb : ¬ badP n num den) : dvQ (hi64 (n * num)) (lo64 (n * num)) den = n * num / den ∧ 0 ≤ n * num / den ∧ n * num / den ≤ n := by
  unfold badP at hb
  have h0 : 0 ≤ n * num := Int.mul_nonneg (by omega) (by omega)
  have h1 : n * num ≤ n * den := Int.mul_le_mul_of_nonneg_left (by omega) (by omega)
  have h2 : n * num / den ≤ n := Int.ediv_le_of_le_mul (by omega) h1
  have h4 : n * den ≤ 9223372036854775807 * den := Int.mul_le_mul_of_nonneg_right (by unfold In64 at hn; omega) (by omega)
  have h3 : hi64 (n * num) < den := by
    unfold hi64
    exact Int.ediv_lt_of_lt_mul (by omega) (by omega)
  refine ⟨?_, Int.ediv_nonneg h0 (by omega), h2⟩
  unfold dvQ
  rw [if_pos h3]
  congr 1
  unfold hi64 lo64
  omega
end Go.Proofs.YtmoppmfbfpjdnaaGreat
