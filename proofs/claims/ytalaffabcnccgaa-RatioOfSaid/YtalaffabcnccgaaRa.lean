/- Package ratio: lowest terms. -/
import Derived.Test.YtalaffabcnccgaaSi
import Derived.Test.YtalaffabcnccgaaGd
namespace Go.Proofs.Ytalaffabcnccgaa
open Go.RowKit
open R (In64 InU64 lo64 nth)

/-- A fraction in lowest terms. -/
def lowR (x : Sg) (d : Wd) : Rt := ⟨sgn (⟨x.neg, qW x.mag (gcdW x.mag d)⟩ : Sg).z, qW d (gcdW x.mag d)⟩
theorem gcdW_n (a b : Wd) : (gcdW a b).n = Nat.gcd a.n b.n := W_n (gcd_lt a b)
theorem qWn (a b : Wd) : (qW a b).n = a.n / b.n := W_val a _ (Nat.div_le_self _ _)
theorem low_eq (x : Sg) (d : Wd) : (⟨⟨(sgn x.z).neg, qW (sgn x.z).mag (gcdW (sgn x.z).mag d)⟩, qW d (gcdW (sgn x.z).mag d)⟩ : Rt) = lowR x d := by
  unfold lowR
  rw [fix_mag]
  refine Rt.ext_iff.2 ⟨?_, rfl⟩
  dsimp only
  by_cases h0 : x.mag.n = 0
  · have hq : (qW x.mag (gcdW x.mag d)).n = 0 := by rw [qWn, h0, Nat.zero_div]
    have hw : qW x.mag (gcdW x.mag d) = W 0 := Wd.zero_iff.2 hq
    rw [fix_zero h0, hw, fix_zero (a := ⟨x.neg, W 0⟩) (W_n W512_pos)]
  · have hg : (gcdW x.mag d).n ≤ x.mag.n := by rw [gcdW_n]; exact Nat.gcd_le_left _ (by omega)
    have hp : 0 < (gcdW x.mag d).n := by rw [gcdW_n]; exact Nat.gcd_pos_of_pos_left _ (by omega)
    have hq : (qW x.mag (gcdW x.mag d)).n ≠ 0 := by
      rw [qWn]
      have := Nat.div_pos hg hp
      omega
    rw [fix_same h0, fix_same (a := ⟨x.neg, qW x.mag (gcdW x.mag d)⟩) hq]
attribute [local irreducible] W512 in
set_option maxHeartbeats 1000000 in
theorem rlow (x : Sg) (d : Wd) (w : World) : Calls Try.prog 107 #[.agg (cS x).toArray, .agg (cW d).toArray] w fun e w' => e = .returned (.agg (cR (lowR x d)).toArray) ∧ Below w.heap.size w w' := by
  have hM := R.Own.start [] w
  rw [← low_eq]
  refine R.calls_of_WC (fn := Try.f107) Try.func107 rfl Try.ntmps107 (Nat.le_of_ble_eq_true rfl) ?_
  (refine R.stepU ?_; (repeat' (first | (with_reducible refine And.intro ?_ ?_) | (with_reducible intro _))); all_goals refine R.Lft.mk ?_; (all_goals (try (exact ⟨rfl, R.Own.below (by assumption)⟩))))
instance con_rlow (x : Sg) (d : Wd) : R.ConB Try.prog 107 #[.agg (cS x).toArray, .agg (cW d).toArray] Unit (fun _ _ => True) (fun _ => .agg (cR (lowR x d)).toArray) := ⟨fun _ w _ => rlow x d w⟩
attribute [local irreducible] W512 in
theorem rwhole (n : Int) (h : In64 n) (w : World) : Calls Try.prog 70 #[.int .i64 n] w fun e w' => e = .returned (.agg (cR ⟨sgn n, W 1⟩).toArray) ∧ Below w.heap.size w w' := by
  have hM := R.Own.start [] w
  refine R.calls_of_WC (fn := Try.f70) Try.func70 rfl Try.ntmps70 (Nat.le_of_ble_eq_true rfl) ?_
  (refine R.stepU ?_; (repeat' (first | (with_reducible refine And.intro ?_ ?_) | (with_reducible intro _))); all_goals refine R.Lft.mk ?_; (all_goals (try (exact ⟨rfl, R.Own.below (by assumption)⟩))))
instance con_rwhole (n : Int) : R.ConB Try.prog 70 #[.int .i64 n] Unit (fun _ _ => In64 n) (fun _ => .agg (cR ⟨sgn n, W 1⟩).toArray) := ⟨fun _ w h => rwhole n h w⟩
/-- A number with the sign of two. -/
def sidS (a b : Sg) : Sg := ⟨!(a.neg == b.neg), a.mag⟩
def ofR (a b : Sg) : Rt := if b.mag.n = 0 then ⟨⟨false, W 0⟩, W 0⟩ else lowR (sidS a b) b.mag
attribute [local irreducible] W512 in
theorem rof (a b : Sg) (w : World) : Calls Try.prog 69 #[.agg (cS a).toArray, .agg (cS b).toArray] w fun e w' => e = .returned (.tuple #[.agg (cR (ofR a b)).toArray, .int .i64 (eW b.mag)]) ∧ Below w.heap.size w w' := by
  have hM := R.Own.start [] w
  by_cases h0 : b.mag.n = 0
  · have e1 : eW b.mag = 1 := by unfold eW; rw [if_pos h0]
    have e2 : ofR a b = ⟨⟨false, W 0⟩, W 0⟩ := if_pos h0
    rw [e1, e2]
    refine R.calls_of_WC (fn := Try.f69) Try.func69 rfl Try.ntmps69 (Nat.le_of_ble_eq_true rfl) ?_
    (refine R.stepU ?_; (repeat' (first | (with_reducible refine And.intro ?_ ?_) | (with_reducible intro _))); all_goals refine R.Lft.mk ?_; (all_goals (try (exact ⟨rfl, R.Own.below (by assumption)⟩))))
  · have e1 : eW b.mag = 0 := by unfold eW; rw [if_neg h0]
    have e2 : ofR a b = lowR (sidS a b) b.mag := if_neg h0
    rw [e1, e2]
    refine R.calls_of_WC (fn := Try.f69) Try.func69 rfl Try.ntmps69 (Nat.le_of_ble_eq_true rfl) ?_
    (refine R.stepU ?_; (repeat' (first | (with_reducible refine And.intro ?_ ?_) | (with_reducible intro _))); all_goals refine R.Lft.mk ?_; (all_goals (try (exact ⟨rfl, R.Own.below (by assumption)⟩))))
instance con_rof (a b : Sg) : R.ConB Try.prog 69 #[.agg (cS a).toArray, .agg (cS b).toArray] Unit (fun _ _ => True) (fun _ => .tuple #[.agg (cR (ofR a b)).toArray, .int .i64 (eW b.mag)]) := ⟨fun _ w _ => rof a b w⟩
/-- One's number times the other one's divisor. -/
def crossZ (a b : Rt) : Int := a.num.z * (b.den.n : Int)
attribute [local irreducible] W512 in
theorem rcross (a b : Rt) (w : World) : Calls Try.prog 110 #[.agg (cR a).toArray, .agg (cR b).toArray] w fun e w' => e = .returned (.agg (cS (resZ (crossZ a b))).toArray) ∧ Below w.heap.size w w' := by
  have hM := R.Own.start [] w
  refine R.calls_of_WC (fn := Try.f110) Try.func110 rfl Try.ntmps110 (Nat.le_of_ble_eq_true rfl) ?_
  (refine R.stepU ?_; (repeat' (first | (with_reducible refine And.intro ?_ ?_) | (with_reducible intro _))); all_goals refine R.Lft.mk ?_; (all_goals (try (exact ⟨rfl, R.Own.below (by assumption)⟩))))
instance con_rcross (a b : Rt) : R.ConB Try.prog 110 #[.agg (cR a).toArray, .agg (cR b).toArray] Unit (fun _ _ => True) (fun _ => .agg (cS (resZ (crossZ a b))).toArray) := ⟨fun _ w _ => rcross a b w⟩
end Go.Proofs.Ytalaffabcnccgaa
