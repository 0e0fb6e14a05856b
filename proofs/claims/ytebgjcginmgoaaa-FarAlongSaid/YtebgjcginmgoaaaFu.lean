/- The law FarAlong: plain. -/
import Derived.Test.YtebgjcginmgoaaaFb
import Derived.Test.YtebgjcginmgoaaaFc
namespace Go.Proofs.Ytebgjcginmgoaaa
open Go.RowKit
open R (In64 InU64 lo64 nth)

theorem mul_fits {a b : Nat} (ha : bitLen a ≤ 262) (hb : bitLen b ≤ 250) : a * b < W512 :=
  Nat.lt_of_le_of_lt (Nat.mul_le_mul_left a (Nat.le_of_lt (Nat.lt_of_lt_of_le (bitLen_spec b).1 (Nat.pow_le_pow_right (by decide) hb)))) (fits_up a 250 (by omega))
theorem rb_ {z : Int} (h : z.natAbs < W512) : (resZ z).z = z := by rw [res_fit h, sgn_z h]
theorem fz_ (m : Wd) : (⟨false, m⟩ : Sg).z = (m.n : Int) := rfl
theorem short_of {a : Rt} (h : shortB a = true) : bitLen a.num.mag.n ≤ 250 ∧ bitLen a.den.n ≤ 250 := by
  unfold shortB at h
  rw [Bool.and_eq_true] at h
  have h1 := of_decide_eq_true h.1
  have h2 := of_decide_eq_true h.2
  omega
theorem cmp_plain {x y : Rt} (sx : shortB x = true) (sy : shortB y = true) : cmpZ (resZ (x.num.z * (⟨false, y.den⟩ : Sg).z)).z (resZ (y.num.z * (⟨false, x.den⟩ : Sg).z)).z = cmpZ (x.num.z * (y.den.n : Int)) (y.num.z * (x.den.n : Int)) := by
  obtain ⟨x1, x2⟩ := short_of sx
  obtain ⟨y1, y2⟩ := short_of sy
  rw [rb_ (by rw [z_mul]; exact mul_fits (by omega) y2), rb_ (by rw [z_mul]; exact mul_fits (by omega) x2), fz_, fz_]
theorem along_of {x : Rt} (h : alongB x = true) : termsB x = true ∧ x.den.n ≠ 0 ∧ bitLen x.den.n ≤ 400 ∧ x.num.neg = false ∧ x.num.mag.n ≤ x.den.n := by
  unfold alongB at h
  rw [Bool.and_eq_true, Bool.and_eq_true, Bool.and_eq_true] at h
  obtain ⟨h1, h2, h3, h4⟩ := h
  have h2 := of_decide_eq_true h2
  have h4 := of_decide_eq_true h4
  refine ⟨h1, ?_, by omega, by simpa using h3, ?_⟩
  · intro h0
    unfold termsB at h1
    rw [decide_eq_true h0] at h1
    cases h1
  · unfold cmpI at h4
    split at h4
    · omega
    · split at h4
      · omega
      · omega
theorem along_not {x : Rt} (h1 : termsB x = true) (h2 : ((bitLen x.den.n : Nat) : Int) ≤ 400) (h3 : x.num.neg = false) (h4 : ¬ x.den.n < x.num.mag.n) : alongB x = true := by
  unfold alongB
  rw [h1, decide_eq_true h2, h3, decide_eq_true]
  · rfl
  · unfold cmpI
    split
    · decide
    · first
      | decide
      | (rw [if_neg h4]; decide)
theorem bl_mono {a b m : Nat} (h : a ≤ b) (hb : bitLen b ≤ m) : bitLen a ≤ m := bitLen_le_ (Nat.lt_of_le_of_lt h (Nat.lt_of_lt_of_le (bitLen_spec b).1 (Nat.pow_le_pow_right (by decide) hb)))
theorem along_plain {u : Int} {x : Rt} (h0 : 0 ≤ u) (h1 : u ≤ 2147483648) (e : alongB x = true) : ∃ m : Nat, alongN u x = m ∧ (m : Int) ≤ u ∧ m * x.den.n ≤ u.toNat * x.num.mag.n ∧ u.toNat * x.num.mag.n < m * x.den.n + x.den.n := by
  obtain ⟨-, a1, a2, a3, a4⟩ := along_of e
  obtain ⟨k, rfl⟩ := Int.eq_ofNat_of_zero_le h0
  have hz : x.num.z = (x.num.mag.n : Int) := by unfold Sg.z; rw [a3]; rfl
  have hb : bitLen x.num.mag.n ≤ 400 := bl_mono a4 a2
  have hf : k * x.num.mag.n < W512 := by
    rw [Nat.mul_comm]
    exact Nat.lt_of_le_of_lt (Nat.mul_le_mul_left _ (show k ≤ 2 ^ 32 by omega)) (fits_up x.num.mag.n 32 (by omega))
  have hle : k * x.num.mag.n / x.den.n ≤ k := Nat.div_le_of_le_mul (by rw [Nat.mul_comm x.den.n k]; exact Nat.mul_le_mul_left _ a4)
  refine ⟨k * x.num.mag.n / x.den.n, ?_, by omega, ?_, ?_⟩
  · unfold alongN
    rw [sz_ (by omega), hz]
    have e1 : (((k : Nat) : Int) * (x.num.mag.n : Int)) = ((k * x.num.mag.n : Nat) : Int) := by rw [Int.natCast_mul]
    rw [e1]
    have e2 : (resZ ((k * x.num.mag.n : Nat) : Int)).z = ((k * x.num.mag.n : Nat) : Int) := rb_ (by rw [Int.natAbs_natCast]; exact hf)
    have e3 : flrZ ((k * x.num.mag.n : Nat) : Int) (x.den.n : Int) = ((k * x.num.mag.n / x.den.n : Nat) : Int) := by
      unfold flrZ
      rw [if_pos (by constructor <;> intro h <;> omega), Int.natAbs_natCast, Int.natAbs_natCast]
    unfold ovS
    rw [if_neg (show ¬ (⟨false, x.den⟩ : Sg).mag.n = 0 from a1), e2, fz_, e3]
    generalize k * x.num.mag.n / x.den.n = q at hle
    rw [sz_ (by omega)]
    unfold smZ
    rw [if_pos (by omega)]
  · rw [Int.toNat_natCast]
    exact Nat.div_mul_le_self _ _
  · rw [Int.toNat_natCast, ← Nat.succ_mul, Nat.mul_comm _ x.den.n]
    exact Nat.lt_mul_div_succ _ (by omega)
end Go.Proofs.Ytebgjcginmgoaaa
