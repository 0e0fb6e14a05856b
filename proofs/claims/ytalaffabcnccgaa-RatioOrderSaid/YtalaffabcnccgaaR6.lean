/- snicketref06: lowest terms, which may be, cross products. snicketref06: sums and products. -/
import Derived.Test.YtalaffabcnccgaaRa
import Derived.Test.YtalaffabcnccgaaS5
import Derived.Test.YtalaffabcnccgaaRq
namespace Go.Proofs.Ytalaffabcnccgaa
open Go.RowKit
open R (In64 InU64 lo64 nth)

attribute [local irreducible] W512 in
set_option maxHeartbeats 2000000 in
theorem low6 (x : Sg) (d : Wd) (hd : d.n ≠ 0) (w : World) : Calls Try.prog 71 #[.agg (cS x).toArray, .agg (cW d).toArray] w fun e w' => e = .returned (.agg (cR (lowR x d)).toArray) ∧ Below w.heap.size w w' := by
  have hM := R.Own.start [] w
  have hg : 0 < (gcdW x.mag d).n := by rw [gcdW_n]; exact Nat.gcd_pos_of_pos_right _ (by omega)
  refine R.calls_of_WC (fn := Try.f71) Try.func71 rfl Try.ntmps71 (Nat.le_of_ble_eq_true rfl) ?_
  (refine R.stepU ?_; (repeat' (first | (with_reducible refine And.intro ?_ ?_) | (with_reducible intro _))); all_goals refine R.Lft.mk ?_)
  refine R.WC_planX [(0, false), (1, false), (2, false), (3, false), (5, false), (4, true), (6, false), (7, true)] R.mixed (by decide +kernel) R.ohm ?_
  (refine R.stepU ?_; (repeat' (first | (with_reducible refine And.intro ?_ ?_) | (with_reducible intro _))); all_goals refine R.Lft.mk ?_; (all_goals (try (exact ⟨rfl, R.Own.below (by assumption)⟩))))
instance con_low6 (x : Sg) (d : Wd) : R.ConB Try.prog 71 #[.agg (cS x).toArray, .agg (cW d).toArray] Unit (fun _ _ => d.n ≠ 0) (fun _ => .agg (cR (lowR x d)).toArray) := ⟨fun _ w h => low6 x d h w⟩
theorem qW_one (a : Wd) : qW a (W 1) = a := Wd.ext_ (by rw [qWn, W_n (wsmall (by decide)), Nat.div_one])
theorem terms_iff {a : Rt} (h0 : a.den.n ≠ 0) : lowR a.num a.den = a ↔ (a.num = sgn a.num.z ∧ gcdW a.num.mag a.den = W 1) := by
  constructor
  · intro h
    have h1 : qW a.den (gcdW a.num.mag a.den) = a.den := congrArg Rt.den h
    have h2 := congrArg Rt.num h
    have h3 : a.den.n / (gcdW a.num.mag a.den).n = a.den.n := by rw [← qWn, h1]
    have h4 : (gcdW a.num.mag a.den).n = 1 := by
      rcases Nat.lt_or_ge 1 (gcdW a.num.mag a.den).n with h5 | h5
      · have := Nat.div_lt_self (show 0 < a.den.n by omega) h5
        omega
      · have h6 : 0 < (gcdW a.num.mag a.den).n := by rw [gcdW_n]; exact Nat.gcd_pos_of_pos_right _ (by omega)
        omega
    have h5 : gcdW a.num.mag a.den = W 1 := Wd.ext_ (by rw [h4, W_n (wsmall (by decide))])
    refine ⟨?_, h5⟩
    have h6 : (lowR a.num a.den).num = sgn a.num.z := by
      unfold lowR
      rw [h5]
      dsimp only
      rw [qW_one]
    rw [← h6]
    exact h2.symm
  · rintro ⟨h1, h2⟩
    unfold lowR
    rw [h2, qW_one, qW_one]
    exact Rt.ext_iff.2 ⟨h1.symm, rfl⟩
theorem terms_low {a : Rt} (h0 : a.den.n ≠ 0) : decide (lowR a.num a.den = a) = termsB a := by
  unfold termsB
  rw [decide_eq_false h0, Bool.not_false, Bool.true_and, ← Bool.decide_and]
  exact decide_eq_decide.2 (terms_iff h0)
attribute [local irreducible] W512 in
set_option maxHeartbeats 2000000 in
theorem terms6 (a : Rt) (w : World) : Calls Try.prog 88 #[.agg (cR a).toArray] w fun e w' => e = .returned (.bool (termsB a)) ∧ Below w.heap.size w w' := by
  have hM := R.Own.start [] w
  by_cases h0 : a.den.n = 0
  · have hz : a.den = W 0 := Wd.zero_iff.2 h0
    rw [show termsB a = false by unfold termsB; rw [decide_eq_true h0]; rfl]
    have hp : a.den ≠ W 0 → a.den.n ≠ 0 := fun h => absurd hz h
    refine R.calls_of_WC (fn := Try.f88) Try.func88 rfl Try.ntmps88 (Nat.le_of_ble_eq_true rfl) ?_
    (refine R.stepU ?_; (repeat' (first | (with_reducible refine And.intro ?_ ?_) | (with_reducible intro _))); all_goals refine R.Lft.mk ?_)
    refine R.WC_planX [(0, false), (1, false), (2, false), (3, false), (4, false), (5, false), (6, false), (7, false), (8, false), (10, false), (9, true), (11, false), (12, false), (13, false)] R.mixed (by decide +kernel) R.ohm ?_
    (refine R.stepU ?_; (repeat' (first | (with_reducible refine And.intro ?_ ?_) | (with_reducible intro _))); all_goals refine R.Lft.mk ?_; (all_goals (try (exact ⟨rfl, R.Own.below (by assumption)⟩))))
    all_goals exact absurd hz (by assumption)
  · have hz : a.den ≠ W 0 := fun h => h0 (Wd.zero_iff.1 h)
    rw [← terms_low h0]
    refine R.calls_of_WC (fn := Try.f88) Try.func88 rfl Try.ntmps88 (Nat.le_of_ble_eq_true rfl) ?_
    (refine R.stepU ?_; (repeat' (first | (with_reducible refine And.intro ?_ ?_) | (with_reducible intro _))); all_goals refine R.Lft.mk ?_)
    refine R.WC_planX [(0, false), (1, false), (2, false), (3, false), (4, false), (5, false), (6, false), (7, false), (8, false), (10, false), (9, true), (11, false), (12, false), (13, false)] R.mixed (by decide +kernel) R.ohm ?_
    (refine R.stepU ?_; (repeat' (first | (with_reducible refine And.intro ?_ ?_) | (with_reducible intro _))); all_goals refine R.Lft.mk ?_; (all_goals (try (exact ⟨rfl, R.Own.below (by assumption)⟩))))
    all_goals exact absurd hz (by assumption)
instance con_terms6 (a : Rt) : R.ConB Try.prog 88 #[.agg (cR a).toArray] Unit (fun _ _ => True) (fun _ => .bool (termsB a)) := ⟨fun _ w _ => terms6 a w⟩
attribute [local irreducible] W512 bitLen digsL dv in
set_option maxHeartbeats 2000000 in
theorem may6 (a : Rt) (w : World) : Calls Try.prog 73 #[.agg (cR a).toArray] w fun e w' => e = .returned (.bool (mayB a)) ∧ Below w.heap.size w w' := by
  have hM := R.Own.start [] w
  have d1 := digsL_dig a.num.mag.n 32
  have d2 := digsL_dig a.den.n 32
  have d3 := digsL_len a.num.mag.n 32
  have d4 := digsL_len a.den.n 32
  have d5 := digsL_whole a.num.mag
  have d6 := digsL_whole a.den
  refine R.calls_of_WC (fn := Try.f73) Try.func73 rfl Try.ntmps73 (Nat.le_of_ble_eq_true rfl) ?_
  (refine R.stepU ?_; (repeat' (first | (with_reducible refine And.intro ?_ ?_) | (with_reducible intro _))); all_goals refine R.Lft.mk ?_; (all_goals (try (exact ⟨rfl, R.Own.below (by assumption)⟩))))
  all_goals first
    | (rw [my_2 (a := a) (by rw [← d5]; assumption) (by rw [← d6]; assumption)]; exact ⟨rfl, R.Own.below (by assumption)⟩)
    | (rw [my_1 (a := a) (by rw [← d6]; assumption)]; exact ⟨rfl, R.Own.below (by assumption)⟩)
    | (rw [my_0 (a := a) (by rw [← d5]; assumption)]; exact ⟨rfl, R.Own.below (by assumption)⟩)
instance con_may6 (a : Rt) : R.ConB Try.prog 73 #[.agg (cR a).toArray] Unit (fun _ _ => True) (fun _ => .bool (mayB a)) := ⟨fun _ w _ => may6 a w⟩
attribute [local irreducible] W512 in
theorem cross6 (a b : Rt) (w : World) : Calls Try.prog 91 #[.agg (cR a).toArray, .agg (cR b).toArray] w fun e w' => e = .returned (.agg (cS (resZ (crossZ a b))).toArray) ∧ Below w.heap.size w w' := by
  have hM := R.Own.start [] w
  refine R.calls_of_WC (fn := Try.f91) Try.func91 rfl Try.ntmps91 (Nat.le_of_ble_eq_true rfl) ?_
  (refine R.stepU ?_; (repeat' (first | (with_reducible refine And.intro ?_ ?_) | (with_reducible intro _))); all_goals refine R.Lft.mk ?_; (all_goals (try (exact ⟨rfl, R.Own.below (by assumption)⟩))))
instance con_cross6 (a b : Rt) : R.ConB Try.prog 91 #[.agg (cR a).toArray, .agg (cR b).toArray] Unit (fun _ _ => True) (fun _ => .agg (cS (resZ (crossZ a b))).toArray) := ⟨fun _ w _ => cross6 a b w⟩
end Go.Proofs.Ytalaffabcnccgaa
namespace Go.Proofs.Ytalaffabcnccgaa
open Go.RowKit
open R (In64 InU64 lo64 nth)

theorem den_res {a b : Wd} (h : a.n * b.n < W512) : (resZ ((⟨false, a⟩ : Sg).z * (⟨false, b⟩ : Sg).z)).mag = W (a.n * b.n) := by
  have e : (⟨false, a⟩ : Sg).z * (⟨false, b⟩ : Sg).z = ((a.n * b.n : Nat) : Int) := (Int.natCast_mul a.n b.n).symm
  rw [e, res_fit (by rw [Int.natAbs_natCast]; exact h)]
  show W (Int.natAbs _) = W _
  rw [Int.natAbs_natCast]
theorem den_ne {a b : Wd} (ha : a.n ≠ 0) (hb : b.n ≠ 0) (h : a.n * b.n < W512) : (resZ ((⟨false, a⟩ : Sg).z * (⟨false, b⟩ : Sg).z)).mag.n ≠ 0 := by
  rw [den_res h, W_n h]
  exact Nat.mul_ne_zero ha hb
attribute [local irreducible] W512 in
set_option maxHeartbeats 2000000 in
theorem mul6 (a b : Rt) (ha : a.den.n ≠ 0) (hb : b.den.n ≠ 0) (hd : a.den.n * b.den.n < W512) (w : World) : Calls Try.prog 90 #[.agg (cR a).toArray, .agg (cR b).toArray] w fun e w' => e = .returned (.agg (cR (mulR a b)).toArray) ∧ Below w.heap.size w w' := by
  have hM := R.Own.start [] w
  have h1 := den_ne ha hb hd
  have h2 := den_res hd
  unfold mulR
  rw [← h2]
  refine R.calls_of_WC (fn := Try.f90) Try.func90 rfl Try.ntmps90 (Nat.le_of_ble_eq_true rfl) ?_
  (refine R.stepU ?_; (repeat' (first | (with_reducible refine And.intro ?_ ?_) | (with_reducible intro _))); all_goals refine R.Lft.mk ?_; (all_goals (try (exact ⟨rfl, R.Own.below (by assumption)⟩))))
instance con_mul6 (a b : Rt) : R.ConB Try.prog 90 #[.agg (cR a).toArray, .agg (cR b).toArray] Unit (fun _ _ => a.den.n ≠ 0 ∧ b.den.n ≠ 0 ∧ a.den.n * b.den.n < W512) (fun _ => .agg (cR (mulR a b)).toArray) := ⟨fun _ w h => mul6 a b h.1 h.2.1 h.2.2 w⟩
attribute [local irreducible] W512 in
set_option maxHeartbeats 2000000 in
theorem add6 (a b : Rt) (ha : a.den.n ≠ 0) (hb : b.den.n ≠ 0) (hd : a.den.n * b.den.n < W512) (w : World) : Calls Try.prog 89 #[.agg (cR a).toArray, .agg (cR b).toArray] w fun e w' => e = .returned (.agg (cR (addR a b)).toArray) ∧ Below w.heap.size w w' := by
  have hM := R.Own.start [] w
  have h1 := den_ne ha hb hd
  have h2 := den_res hd
  unfold addR
  rw [← h2]
  refine R.calls_of_WC (fn := Try.f89) Try.func89 rfl Try.ntmps89 (Nat.le_of_ble_eq_true rfl) ?_
  (refine R.stepU ?_; (repeat' (first | (with_reducible refine And.intro ?_ ?_) | (with_reducible intro _))); all_goals refine R.Lft.mk ?_)
  refine R.WC_cut2 (ι := Nat × Nat × Nat × Nat) (fun i => [(2, .pointer (some ⟨i.2.2.2, 0, none⟩)), (3, .pointer (some ⟨i.2.2.1, 0, none⟩)), (4, .pointer (some ⟨i.2.1, 0, none⟩)), (5, .pointer (some ⟨i.1, 0, none⟩))])
    (fun i w2 => R.Own [] w w2 [.blk i.1 65 (cS (resZ ((resZ (crossZ a b)).z + (resZ (crossZ b a)).z))), .blk i.2.1 83 (cR ⟨⟨false, W 0⟩, W 0⟩), .blk i.2.2.1 83 (cR b), .blk i.2.2.2 83 (cR a)]) ?h1 ?h2
  case h1 =>
    refine R.WC_planF (.q 0 (.q 1 (.q 3 (.q 4 (.f 2 10 (.f 5 10 (.f 6 10 (.q 7 (.q 8 (.q 9 (.e 10 (.e 11 (.q 12 .nil)))))) (.e 6 (.q 7 (.q 8 (.q 9 (.e 11 (.q 12 .nil))))))) (.e 5 (.e 6 (.q 7 (.q 8 (.q 9 (.e 11 (.q 12 .nil)))))))) (.e 2 (.e 5 (.e 6 (.q 7 (.q 8 (.q 9 (.e 11 (.q 12 .nil))))))))))))) R.mixed (by decide +kernel) R.ohm ?_
    (refine R.stepU ?_; (repeat' (first | (with_reducible refine And.intro ?_ ?_) | (with_reducible intro _))); all_goals refine R.Lft.mk ?_)
    all_goals
      rename_i hM
      exact ⟨rfl, (_, _, _, _), ⟨rfl, rfl, rfl, rfl, trivial⟩, hM⟩
  case h2 =>
    rintro ⟨g5, g4, g3, g2⟩ f w2 hM
    dsimp only at hM ⊢
    (refine R.stepU ?_; (repeat' (first | (with_reducible refine And.intro ?_ ?_) | (with_reducible intro _))); all_goals refine R.Lft.mk ?_; (all_goals (try (exact ⟨rfl, R.Own.below (by assumption)⟩))))
instance con_add6 (a b : Rt) : R.ConB Try.prog 89 #[.agg (cR a).toArray, .agg (cR b).toArray] Unit (fun _ _ => a.den.n ≠ 0 ∧ b.den.n ≠ 0 ∧ a.den.n * b.den.n < W512) (fun _ => .agg (cR (addR a b)).toArray) := ⟨fun _ w h => add6 a b h.1 h.2.1 h.2.2 w⟩
end Go.Proofs.Ytalaffabcnccgaa
