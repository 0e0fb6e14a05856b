/- snicketref06: lowest terms, which may be, cross products. snicketref06: sums and products. -/
import Derived.Test.YtmoppmfbfpjdnaaGreatRa
import Derived.Test.YtmoppmfbfpjdnaaGreatS5
import Derived.Test.YtmoppmfbfpjdnaaGreatQt
namespace Go.Proofs.YtmoppmfbfpjdnaaGreat
open Go.RowKit
open R (In64 InU64 lo64 nth)

theorem qW_one (a : Wd) : qW a (W 1) = a := Wd.ext_ (by rw [qWn, W_n (wsmall (by decide)), Nat.div_one])
theorem terms_iff {a : Rt} (h0 : a.den.n ≠ 0) : lowR a.num a.den = a ↔ (a.num = sgn a.num.z ∧ gcdW a.num.mag a.den = W 1) := by
  constructor
  · intro h
    have h1 : qW a.den (gcdW a.num.mag a.den) = a.den := congrArg Rt.den h
    have h2 := congrArg Rt.num h
    have h3 : a.den.n / (gcdW a.num.mag a.den).n = a.den.n := by rw [← qWn, h1]
    have h4 : (gcdW a.num.mag a.den).n = 1 := by
      rcases Nat.lt_or_ge 1 (gcdW a.num.mag a.den).n with h5 | h5
      · have := Nat.div_lt_self (show 0 < a.den.n by omega) h5
        omega
      · have h6 : 0 < (gcdW a.num.mag a.den).n := by rw [gcdW_n]; exact Nat.gcd_pos_of_pos_right _ (by omega)
        omega
    have h5 : gcdW a.num.mag a.den = W 1 := Wd.ext_ (by rw [h4, W_n (wsmall (by decide))])
    refine ⟨?_, h5⟩
    have h6 : (lowR a.num a.den).num = sgn a.num.z := by
      unfold lowR
      rw [h5]
      dsimp only
      rw [qW_one]
    rw [← h6]
    exact h2.symm
  · rintro ⟨h1, h2⟩
    unfold lowR
    rw [h2, qW_one, qW_one]
    exact Rt.ext_iff.2 ⟨h1.symm, rfl⟩
theorem terms_low {a : Rt} (h0 : a.den.n ≠ 0) : decide (lowR a.num a.den = a) = termsB a := by
  unfold termsB
  rw [decide_eq_false h0, Bool.not_false, Bool.true_and, ← Bool.decide_and]
  exact decide_eq_decide.2 (terms_iff h0)
end Go.Proofs.YtmoppmfbfpjdnaaGreat
namespace Go.Proofs.YtmoppmfbfpjdnaaGreat
open Go.RowKit
open R (In64 InU64 lo64 nth)

theorem den_res {a b : Wd} (h : a.n * b.n < W512) : (resZ ((⟨false, a⟩ : Sg).z * (⟨false, b⟩ : Sg).z)).mag = W (a.n * b.n) := by
  have e : (⟨false, a⟩ : Sg).z * (⟨false, b⟩ : Sg).z = ((a.n * b.n : Nat) : Int) := (Int.natCast_mul a.n b.n).symm
  rw [e, res_fit (by rw [Int.natAbs_natCast]; exact h)]
  show W (Int.natAbs _) = W _
  rw [Int.natAbs_natCast]
theorem den_ne {a b : Wd} (ha : a.n ≠ 0) (hb : b.n ≠ 0) (h : a.n * b.n < W512) : (resZ ((⟨false, a⟩ : Sg).z * (⟨false, b⟩ : Sg).z)).mag.n ≠ 0 := by
  rw [den_res h, W_n h]
  exact Nat.mul_ne_zero ha hb
end Go.Proofs.YtmoppmfbfpjdnaaGreat
