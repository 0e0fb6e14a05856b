/- Numbers shifted, and back. -/
import Derived.Test.YtmoppmfbfpjdnaaGreatVGo
namespace Go.Proofs.YtmoppmfbfpjdnaaGreat
open Go.RowKit
open R (In64 InU64 lo64 nth)

theorem shI_up (a n : Nat) : shI a (n : Int) = a * 2 ^ n % W512 := by
  unfold shI
  rw [if_neg (by omega), Int.toNat_natCast]
theorem shI_down (a n : Nat) (ha : a < W512) : shI a (-(n : Int)) = a / 2 ^ n := by
  unfold shI
  by_cases h : n = 0
  · subst h; simp [Nat.mod_eq_of_lt ha]
  · rw [if_pos (by omega), show (-(-(n : Int))).toNat = n by omega]
theorem shW_twice (a : Wd) (n m : Nat) : shW (shW a n) m = shW a ((n : Int) + m) := by
  refine Wd.ext_ ?_
  show shI (shI a.n n) m = shI a.n ((n : Int) + m)
  rw [← Int.natCast_add, shI_up, shI_up, shI_up, Nat.mod_mul_mod, Nat.mul_assoc, ← Nat.pow_add]
theorem shW_downs (a : Wd) (n m : Nat) : shW (shW a (-(n : Int))) (-(m : Int)) = shW a (-(n : Int) - m) := by
  refine Wd.ext_ ?_
  show shI (shI a.n (-(n : Int))) (-(m : Int)) = shI a.n (-(n : Int) - m)
  rw [show (-(n : Int) - m) = -((n + m : Nat) : Int) by omega, shI_down _ _ (shI_lt a.lt _), shI_down _ _ a.lt, shI_down _ _ a.lt, Nat.div_div_eq_div_mul, ← Nat.pow_add]
theorem fits_up (a n : Nat) (h : bitLen a + n ≤ 512) : a * 2 ^ n < W512 := by
  obtain ⟨N, hN, hw⟩ := W512_pow
  have h1 := (bitLen_spec a).1
  have h2 : a * 2 ^ n < 2 ^ bitLen a * 2 ^ n := Nat.mul_lt_mul_of_pos_right h1 (Nat.two_pow_pos _)
  rw [← Nat.pow_add] at h2
  rw [hw]
  exact Nat.lt_of_lt_of_le h2 (Nat.pow_le_pow_right (by omega) (by omega))
theorem shW_back (a : Wd) (n : Nat) (h : bitLen a.n + n ≤ 512) : shW (shW a n) (-(n : Int)) = a := by
  refine Wd.ext_ ?_
  show shI (shI a.n n) (-(n : Int)) = a.n
  rw [shI_down _ _ (shI_lt a.lt _), shI_up, Nat.mod_eq_of_lt (fits_up _ _ h), Nat.mul_div_cancel _ (Nat.two_pow_pos _)]
theorem bitLen_up {a : Nat} (n : Nat) (h : a ≠ 0) : bitLen (a * 2 ^ n) = bitLen a + n := by
  obtain ⟨h1, h2⟩ := bitLen_spec a
  have h2 := h2 h
  have hp : a * 2 ^ n ≠ 0 := Nat.mul_ne_zero h (Nat.pos_iff_ne_zero.1 (Nat.two_pow_pos n))
  obtain ⟨h3, h4⟩ := bitLen_spec (a * 2 ^ n)
  have h4 := h4 hp
  have h0 : 0 < bitLen a := by
    rcases Nat.eq_zero_or_pos (bitLen a) with h5 | h5
    · rw [h5] at h1; simp at h1; omega
    · exact h5
  have u1 : a * 2 ^ n < 2 ^ (bitLen a + n) := by rw [Nat.pow_add]; exact Nat.mul_lt_mul_of_pos_right h1 (Nat.two_pow_pos _)
  have u2 : 2 ^ (bitLen a - 1 + n) ≤ a * 2 ^ n := by rw [Nat.pow_add]; exact Nat.mul_le_mul_right _ h2
  have u3 := (Nat.pow_lt_pow_iff_right (by omega : 1 < 2)).1 (Nat.lt_of_le_of_lt u2 h3)
  have u4 := (Nat.pow_lt_pow_iff_right (by omega : 1 < 2)).1 (Nat.lt_of_le_of_lt h4 u1)
  omega
theorem len_up (a : Wd) (n : Nat) (h : bitLen a.n + n ≤ 512) (h0 : a.n ≠ 0) : bitLen (shW a n).n = bitLen a.n + n := by
  show bitLen (shI a.n n) = _
  rw [shI_up, Nat.mod_eq_of_lt (fits_up _ _ h), bitLen_up n h0]
theorem bl_le (a : Wd) : bitLen a.n ≤ 512 := by
  obtain ⟨N, hN, hw⟩ := W512_pow
  rw [← hN]
  exact bitLen_le_ (by rw [← hw]; exact a.lt)
end Go.Proofs.YtmoppmfbfpjdnaaGreat
