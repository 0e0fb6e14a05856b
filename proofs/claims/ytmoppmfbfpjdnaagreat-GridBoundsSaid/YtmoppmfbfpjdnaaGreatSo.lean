/- Package sign: Over. -/
import Derived.Test.YtmoppmfbfpjdnaaGreatSn
import Derived.Test.YtmoppmfbfpjdnaaGreatQt
namespace Go.Proofs.YtmoppmfbfpjdnaaGreat
open Go.RowKit
open R (In64 InU64 lo64 nth)

/-- A quotient, cut down. -/
def flrZ (x y : Int) : Int := if (x < 0 ↔ y < 0) then ((x.natAbs / y.natAbs : Nat) : Int) else if x.natAbs % y.natAbs = 0 then -((x.natAbs / y.natAbs : Nat) : Int) else -(((x.natAbs / y.natAbs : Nat) : Int) + 1)
def ovS (a b : Sg) : Sg := if b.mag.n = 0 then sgn 0 else sgn (flrZ a.z b.z)
theorem q_fits (a b : Wd) (h0 : b.n ≠ 0) (h : (rW a b).n ≠ 0) : (qW a b).n + (W (Int.toNat 1)).n < W512 := by
  have e1 : (qW a b).n = a.n / b.n := W_val a _ (Nat.div_le_self _ _)
  have e3 : (rW a b).n = a.n % b.n := by unfold rW restW; rw [if_neg h0]; exact W_val a _ (Nat.mod_le _ _)
  have h1 := Nat.div_add_mod a.n b.n
  have h2 : 1 * (a.n / b.n) ≤ b.n * (a.n / b.n) := Nat.mul_le_mul_right _ (by omega)
  have h3 := a.lt
  rw [e1, show (W (Int.toNat 1)).n = 1 from W_n (wsmall (by decide))]
  omega
theorem qv (a b : Wd) : (qW a b).n = a.n / b.n := W_val a _ (Nat.div_le_self _ _)
theorem rv (a b : Wd) (h0 : b.n ≠ 0) : (rW a b).n = a.n % b.n := by unfold rW restW; rw [if_neg h0]; exact W_val a _ (Nat.mod_le _ _)
theorem below_iff {a b : Sg} : (!((sgn a.z).neg == (sgn b.z).neg)) = !decide (a.z < 0 ↔ b.z < 0) := by
  rw [fix_neg, fix_neg]
  by_cases h1 : a.z < 0 <;> by_cases h2 : b.z < 0 <;> simp [h1, h2]
theorem ov_mk {a b : Sg} {neg : Bool} {m : Wd} (h0 : b.mag.n ≠ 0) (hn : neg = !decide (a.z < 0 ↔ b.z < 0)) (h : (if (a.z < 0 ↔ b.z < 0) then (m.n : Int) else -(m.n : Int)) = flrZ a.z b.z) : sgn (⟨neg, m⟩ : Sg).z = ovS a b := by
  unfold ovS
  rw [if_neg h0, ← h]
  congr 1
  by_cases h1 : (a.z < 0 ↔ b.z < 0)
  · rw [decide_eq_true h1] at hn
    rw [if_pos h1, z_pos (a := ⟨neg, m⟩) hn]
  · rw [decide_eq_false h1] at hn
    rw [if_neg h1, z_neg (a := ⟨neg, m⟩) hn]
theorem ov_exact {a b : Sg} (h0 : b.mag.n ≠ 0) (h : (!((sgn a.z).neg == (sgn b.z).neg)) = true → (rW (sgn a.z).mag (sgn b.z).mag).n = 0) : sgn (⟨!((sgn a.z).neg == (sgn b.z).neg), qW (sgn a.z).mag (sgn b.z).mag⟩ : Sg).z = ovS a b := by
  refine ov_mk h0 below_iff ?_
  rw [below_iff, fix_mag, fix_mag, rv _ _ h0] at h
  rw [fix_mag, fix_mag, qv]
  unfold flrZ
  rw [a.abs, b.abs]
  by_cases h1 : (a.z < 0 ↔ b.z < 0)
  · rw [if_pos h1, if_pos h1]
  · rw [if_neg h1, if_neg h1, if_pos (h (by rw [decide_eq_false h1]; rfl))]
theorem ov_more {a b : Sg} (h0 : b.mag.n ≠ 0) (h : (!((sgn a.z).neg == (sgn b.z).neg)) = true) (hr : (rW (sgn a.z).mag (sgn b.z).mag).n ≠ 0) (hf : (qW (sgn a.z).mag (sgn b.z).mag).n + (W (Int.toNat 1)).n < W512) : sgn (⟨!((sgn a.z).neg == (sgn b.z).neg), W ((qW (sgn a.z).mag (sgn b.z).mag).n + (W (Int.toNat 1)).n)⟩ : Sg).z = ovS a b := by
  refine ov_mk h0 below_iff ?_
  have h1 : ¬ (a.z < 0 ↔ b.z < 0) := by rw [below_iff] at h; simpa using h
  rw [W_n hf, show (W (Int.toNat 1)).n = 1 from W_n (wsmall (by decide))]
  rw [fix_mag, fix_mag, rv _ _ h0] at hr
  rw [fix_mag, fix_mag, qv]
  unfold flrZ
  rw [a.abs, b.abs, if_neg h1, if_neg h1, if_neg hr]
  omega
attribute [local irreducible] W512 in
set_option maxHeartbeats 1000000 in
theorem sover (a b : Sg) (w : World) : Calls Tryz.prog 92 #[.agg (cS a).toArray, .agg (cS b).toArray] w fun e w' => e = .returned (.tuple #[.agg (cS (ovS a b)).toArray, .int .i64 (eW b.mag)]) ∧ Below w.heap.size w w' := by
  have hM := R.Own.start [] w
  have hb := fix_mag b
  by_cases h0 : b.mag.n = 0
  · have e3 : eW b.mag = 1 := by unfold eW; rw [if_pos h0]
    have e4 : eW (sgn b.z).mag = 1 := by rw [hb]; exact e3
    refine R.calls_of_WC (fn := Tryz.f92) Tryz.func92 rfl Tryz.ntmps92 (Nat.le_of_ble_eq_true rfl) ?_
    (refine R.stepU ?_; (repeat' (first | (with_reducible refine And.intro ?_ ?_) | (with_reducible intro _))); all_goals refine R.Lft.mk ?_)
    (refine R.WC_planK 2 [(0, false), (2, false), (1, true), (3, true), (4, true), (5, true)] R.mixed (by decide +kernel) R.ohm ?_; simp only [List.take_succ_cons, List.take_zero])
    (refine R.stepU ?_; (repeat' (first | (with_reducible refine And.intro ?_ ?_) | (with_reducible intro _))); all_goals refine R.Lft.mk ?_; (all_goals (try (exact ⟨rfl, R.Own.below (by assumption)⟩))))
    rw [e3, e4, show ovS a b = ⟨false, W 0⟩ by unfold ovS; rw [if_pos h0]; rfl]
    exact ⟨rfl, R.Own.below (by assumption)⟩
  · have e3 : eW b.mag = 0 := by unfold eW; rw [if_neg h0]
    have e4 : eW (sgn b.z).mag = 0 := by rw [hb]; exact e3
    have e5 := q_fits (sgn a.z).mag (sgn b.z).mag (by rw [hb]; exact h0)
    refine R.calls_of_WC (fn := Tryz.f92) Tryz.func92 rfl Tryz.ntmps92 (Nat.le_of_ble_eq_true rfl) ?_
    (refine R.stepU ?_; (repeat' (first | (with_reducible refine And.intro ?_ ?_) | (with_reducible intro _))); all_goals refine R.Lft.mk ?_)
    (refine R.WC_planK 2 [(0, false), (2, false), (1, true), (3, true), (4, true), (5, true)] R.mixed (by decide +kernel) R.ohm ?_; simp only [List.take_succ_cons, List.take_zero])
    (refine R.stepU ?_; (repeat' (first | (with_reducible refine And.intro ?_ ?_) | (with_reducible intro _))); all_goals refine R.Lft.mk ?_; (all_goals (try (exact ⟨rfl, R.Own.below (by assumption)⟩))))
    · rename_i hbl hr
      rw [e3]
      have hr2 : (rW (sgn a.z).mag (sgn b.z).mag).n ≠ 0 := by simpa using hr
      have e6 := e5 hr2
      have e7 := ov_more h0 (by assumption) hr2 e6
      clear hr e5
      refine R.WC_planF (.q 0 (.f 1 6 (.f 2 6 (.q 3 (.q 4 (.q 5 (.e 6 (.e 7 (.q 8 .nil)))))) (.e 2 (.q 3 (.q 4 (.q 5 (.e 7 (.q 8 .nil))))))) (.e 1 (.e 2 (.q 3 (.q 4 (.q 5 (.e 7 (.q 8 .nil))))))))) R.mixed (by decide +kernel) R.ohm ?_
      (refine R.stepU ?_; (repeat' (first | (with_reducible refine And.intro ?_ ?_) | (with_reducible intro _))); all_goals refine R.Lft.mk ?_; (all_goals (try (exact ⟨rfl, R.Own.below (by assumption)⟩))))
      all_goals first | exact absurd e6 (by rename_i h _ _; simpa using h) | (rw [e7]; exact ⟨rfl, R.Own.below (by assumption)⟩)
    · have hr : (!decide ((rW (sgn a.z).mag (sgn b.z).mag).n = 0)) = false := by assumption
      rw [e3, ov_exact h0 (fun _ => by simpa using hr)]
      exact ⟨rfl, R.Own.below (by assumption)⟩
    · have hr : (!((sgn a.z).neg == (sgn b.z).neg)) = false := by assumption
      rw [e3, ov_exact h0 (fun h => by rw [hr] at h; cases h)]
      exact ⟨rfl, R.Own.below (by assumption)⟩
instance con_sover (a b : Sg) : R.ConB Tryz.prog 92 #[.agg (cS a).toArray, .agg (cS b).toArray] Unit (fun _ _ => True) (fun _ => .tuple #[.agg (cS (ovS a b)).toArray, .int .i64 (eW b.mag)]) := ⟨fun _ w _ => sover a b w⟩
end Go.Proofs.YtmoppmfbfpjdnaaGreat
