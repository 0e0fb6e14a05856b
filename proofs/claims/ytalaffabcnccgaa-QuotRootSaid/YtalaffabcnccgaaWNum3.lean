/- Plain laws on numbers of eight words: shifts. -/
import Derived.Test.YtalaffabcnccgaaWNum2
namespace Go.Proofs.Ytalaffabcnccgaa

theorem split_div (A r : Nat) (hr : r ≤ 64) : A / 2 ^ r % 2 ^ 64 = A / 2 ^ 64 % 2 ^ 64 * 2 ^ (64 - r) % 2 ^ 64 + A % 2 ^ 64 / 2 ^ r := by
  have hB : (2 : Nat) ^ 64 = 2 ^ r * 2 ^ (64 - r) := by rw [← Nat.pow_add]; congr 1; omega
  have hd : 0 < 2 ^ r := Nat.two_pow_pos _
  have hc : 0 < 2 ^ (64 - r) := Nat.two_pow_pos _
  rw [hB]
  generalize 2 ^ r = d at *
  generalize 2 ^ (64 - r) = c at *
  have e : A / d = A % (d * c) / d + c * (A / (d * c)) := by
    conv => lhs; rw [← Nat.mod_add_div A (d * c), Nat.mul_assoc, Nat.add_mul_div_left _ _ hd]
  have hlt : A % (d * c) / d < c := Nat.div_lt_of_lt_mul (Nat.mod_lt _ (Nat.mul_pos hd hc))
  rw [e]
  generalize A % (d * c) / d = p at *
  generalize A / (d * c) = q at *
  have h1 : q % (d * c) * c % (d * c) = c * (q % d) := by
    rw [Nat.mul_comm d c, Nat.mul_comm _ c, Nat.mul_mod_mul_left, Nat.mod_mod_of_dvd _ ⟨c, Nat.mul_comm c d⟩]
  have h2 : c * q = c * (q % d) + d * c * (q / d) := by
    conv => lhs; rw [← Nat.mod_add_div q d, Nat.mul_add]
    simp only [Nat.mul_assoc, Nat.mul_left_comm]
  have h3 : c * (q % d) + c ≤ d * c := by
    rw [← Nat.mul_succ, Nat.mul_comm d c]
    exact Nat.mul_le_mul_left _ (Nat.mod_lt _ hd)
  rw [h1, h2, ← Nat.add_assoc, Nat.add_mul_mod_self_left, Nat.mod_eq_of_lt (by omega)]
  omega
/-- A word of a number shifted up. -/
theorem shl_word (a q r i : Nat) (hr : r < 64) (hq : q ≤ i) : wd (a * 2 ^ (64 * q + r)) i = wd a (i - q) * 2 ^ r % 18446744073709551616 + (if i = q then 0 else wd a (i - q - 1) / 2 ^ (64 - r)) := by
  obtain ⟨j, rfl⟩ : ∃ j, i = q + j := ⟨i - q, by omega⟩
  have e : a * 2 ^ (64 * q + r) / 2 ^ (64 * (q + j)) = a * 2 ^ r / 2 ^ (64 * j) := by
    rw [Nat.mul_add, Nat.pow_add, Nat.pow_add, Nat.mul_comm (2 ^ (64 * q)), ← Nat.mul_assoc, Nat.mul_comm (2 ^ (64 * q)), Nat.mul_div_mul_right _ _ (Nat.two_pow_pos _)]
  rw [Nat.add_sub_cancel_left]
  cases j with
  | zero =>
    rw [if_pos (by omega)]
    unfold wd
    rw [e]
    simp only [Nat.mul_zero, Nat.pow_zero, Nat.div_one, Nat.add_zero]
    rw [show (2 : Nat) ^ 64 = 18446744073709551616 by decide, Nat.mod_mul_mod]
  | succ k =>
    rw [if_neg (by omega), Nat.add_sub_cancel]
    have e2 : a * 2 ^ r / 2 ^ (64 * (k + 1)) = a / 2 ^ (64 * k) / 2 ^ (64 - r) := by
      rw [Nat.div_div_eq_div_mul, ← Nat.pow_add, show 64 * (k + 1) = (64 * k + (64 - r)) + r by omega, Nat.pow_add _ _ r, Nat.mul_div_mul_right _ _ (Nat.two_pow_pos _)]
    unfold wd
    rw [e, e2, split_div _ (64 - r) (by omega), show 64 - (64 - r) = r by omega, Nat.div_div_eq_div_mul, ← Nat.pow_add, show 64 * k + 64 = 64 * (k + 1) by omega]
/-- A word of a number shifted down. -/
theorem shr_word (a q r i : Nat) (hr : r < 64) : wd (a / 2 ^ (64 * q + r)) i = wd a (i + q) / 2 ^ r + wd a (i + q + 1) * 2 ^ (64 - r) % 18446744073709551616 := by
  unfold wd
  rw [Nat.div_div_eq_div_mul, ← Nat.pow_add, show 64 * q + r + 64 * i = 64 * (i + q) + r by omega, Nat.pow_add, ← Nat.div_div_eq_div_mul, split_div _ r (by omega), Nat.div_div_eq_div_mul, ← Nat.pow_add, show 64 * (i + q) + 64 = 64 * (i + q + 1) by omega, Nat.add_comm]
end Go.Proofs.Ytalaffabcnccgaa
