/- snicketref06: lowest terms, which may be, cross products. snicketref06: sums and products. -/
import Derived.Test.YtebgjcginmgoaaaGreatRa
import Derived.Test.YtebgjcginmgoaaaGreatS5
import Derived.Test.YtebgjcginmgoaaaGreatQt
namespace Go.Proofs.YtebgjcginmgoaaaGreat
open Go.RowKit
open R (In64 InU64 lo64 nth)

attribute [local irreducible] W512 in
set_option maxHeartbeats 2000000 in
theorem low6 (x : Sg) (d : Wd) (hd : d.n ≠ 0) (w : World) : Calls Tryz.prog 37 #[.agg (cS x).toArray, .agg (cW d).toArray] w fun e w' => e = .returned (.agg (cR (lowR x d)).toArray) ∧ Below w.heap.size w w' := by
  have hM := R.Own.start [] w
  have hg : 0 < (gcdW x.mag d).n := by rw [gcdW_n]; exact Nat.gcd_pos_of_pos_right _ (by omega)
  refine R.calls_of_WC (fn := Tryz.f37) Tryz.func37 rfl Tryz.ntmps37 (Nat.le_of_ble_eq_true rfl) ?_
  (refine R.stepU ?_; (repeat' (first | (with_reducible refine And.intro ?_ ?_) | (with_reducible intro _))); all_goals refine R.Lft.mk ?_)
  refine R.WC_planX [(0, false), (1, false), (2, false), (3, false), (5, false), (4, true), (6, false), (7, true)] R.mixed (by decide +kernel) R.ohm ?_
  (refine R.stepU ?_; (repeat' (first | (with_reducible refine And.intro ?_ ?_) | (with_reducible intro _))); all_goals refine R.Lft.mk ?_; (all_goals (try (exact ⟨rfl, R.Own.below (by assumption)⟩))))
instance con_low6 (x : Sg) (d : Wd) : R.ConB Tryz.prog 37 #[.agg (cS x).toArray, .agg (cW d).toArray] Unit (fun _ _ => d.n ≠ 0) (fun _ => .agg (cR (lowR x d)).toArray) := ⟨fun _ w h => low6 x d h w⟩
theorem qW_one (a : Wd) : qW a (W 1) = a := Wd.ext_ (by rw [qWn, W_n (wsmall (by decide)), Nat.div_one])
theorem terms_iff {a : Rt} (h0 : a.den.n ≠ 0) : lowR a.num a.den = a ↔ (a.num = sgn a.num.z ∧ gcdW a.num.mag a.den = W 1) := by
  constructor
  · intro h
    have h1 : qW a.den (gcdW a.num.mag a.den) = a.den := congrArg Rt.den h
    have h2 := congrArg Rt.num h
    have h3 : a.den.n / (gcdW a.num.mag a.den).n = a.den.n := by rw [← qWn, h1]
    have h4 : (gcdW a.num.mag a.den).n = 1 := by
      rcases Nat.lt_or_ge 1 (gcdW a.num.mag a.den).n with h5 | h5
      · have := Nat.div_lt_self (show 0 < a.den.n by omega) h5
        omega
      · have h6 : 0 < (gcdW a.num.mag a.den).n := by rw [gcdW_n]; exact Nat.gcd_pos_of_pos_right _ (by omega)
        omega
    have h5 : gcdW a.num.mag a.den = W 1 := Wd.ext_ (by rw [h4, W_n (wsmall (by decide))])
    refine ⟨?_, h5⟩
    have h6 : (lowR a.num a.den).num = sgn a.num.z := by
      unfold lowR
      rw [h5]
      dsimp only
      rw [qW_one]
    rw [← h6]
    exact h2.symm
  · rintro ⟨h1, h2⟩
    unfold lowR
    rw [h2, qW_one, qW_one]
    exact Rt.ext_iff.2 ⟨h1.symm, rfl⟩
theorem terms_low {a : Rt} (h0 : a.den.n ≠ 0) : decide (lowR a.num a.den = a) = termsB a := by
  unfold termsB
  rw [decide_eq_false h0, Bool.not_false, Bool.true_and, ← Bool.decide_and]
  exact decide_eq_decide.2 (terms_iff h0)
attribute [local irreducible] W512 in
set_option maxHeartbeats 2000000 in
theorem terms6 (a : Rt) (w : World) : Calls Tryz.prog 10 #[.agg (cR a).toArray] w fun e w' => e = .returned (.bool (termsB a)) ∧ Below w.heap.size w w' := by
  have hM := R.Own.start [] w
  by_cases h0 : a.den.n = 0
  · have hz : a.den = W 0 := Wd.zero_iff.2 h0
    rw [show termsB a = false by unfold termsB; rw [decide_eq_true h0]; rfl]
    have hp : a.den ≠ W 0 → a.den.n ≠ 0 := fun h => absurd hz h
    refine R.calls_of_WC (fn := Tryz.f10) Tryz.func10 rfl Tryz.ntmps10 (Nat.le_of_ble_eq_true rfl) ?_
    (refine R.stepU ?_; (repeat' (first | (with_reducible refine And.intro ?_ ?_) | (with_reducible intro _))); all_goals refine R.Lft.mk ?_)
    refine R.WC_planX [(0, false), (1, false), (2, false), (3, false), (4, false), (5, false), (6, false), (7, false), (8, false), (10, false), (9, true), (11, false), (12, false), (13, false)] R.mixed (by decide +kernel) R.ohm ?_
    (refine R.stepU ?_; (repeat' (first | (with_reducible refine And.intro ?_ ?_) | (with_reducible intro _))); all_goals refine R.Lft.mk ?_; (all_goals (try (exact ⟨rfl, R.Own.below (by assumption)⟩))))
    all_goals exact absurd hz (by assumption)
  · have hz : a.den ≠ W 0 := fun h => h0 (Wd.zero_iff.1 h)
    rw [← terms_low h0]
    refine R.calls_of_WC (fn := Tryz.f10) Tryz.func10 rfl Tryz.ntmps10 (Nat.le_of_ble_eq_true rfl) ?_
    (refine R.stepU ?_; (repeat' (first | (with_reducible refine And.intro ?_ ?_) | (with_reducible intro _))); all_goals refine R.Lft.mk ?_)
    refine R.WC_planX [(0, false), (1, false), (2, false), (3, false), (4, false), (5, false), (6, false), (7, false), (8, false), (10, false), (9, true), (11, false), (12, false), (13, false)] R.mixed (by decide +kernel) R.ohm ?_
    (refine R.stepU ?_; (repeat' (first | (with_reducible refine And.intro ?_ ?_) | (with_reducible intro _))); all_goals refine R.Lft.mk ?_; (all_goals (try (exact ⟨rfl, R.Own.below (by assumption)⟩))))
    all_goals exact absurd hz (by assumption)
instance con_terms6 (a : Rt) : R.ConB Tryz.prog 10 #[.agg (cR a).toArray] Unit (fun _ _ => True) (fun _ => .bool (termsB a)) := ⟨fun _ w _ => terms6 a w⟩
end Go.Proofs.YtebgjcginmgoaaaGreat
namespace Go.Proofs.YtebgjcginmgoaaaGreat
open Go.RowKit
open R (In64 InU64 lo64 nth)

theorem den_res {a b : Wd} (h : a.n * b.n < W512) : (resZ ((⟨false, a⟩ : Sg).z * (⟨false, b⟩ : Sg).z)).mag = W (a.n * b.n) := by
  have e : (⟨false, a⟩ : Sg).z * (⟨false, b⟩ : Sg).z = ((a.n * b.n : Nat) : Int) := (Int.natCast_mul a.n b.n).symm
  rw [e, res_fit (by rw [Int.natAbs_natCast]; exact h)]
  show W (Int.natAbs _) = W _
  rw [Int.natAbs_natCast]
theorem den_ne {a b : Wd} (ha : a.n ≠ 0) (hb : b.n ≠ 0) (h : a.n * b.n < W512) : (resZ ((⟨false, a⟩ : Sg).z * (⟨false, b⟩ : Sg).z)).mag.n ≠ 0 := by
  rw [den_res h, W_n h]
  exact Nat.mul_ne_zero ha hb
end Go.Proofs.YtebgjcginmgoaaaGreat
