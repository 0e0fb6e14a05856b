/- Plain laws on numbers of eight words: a word is set, a row is added. Plain laws on numbers of eight words: shifts. -/
import Derived.Test.YtmoppmfbfpjdnaaGreatNum
import Derived.Laws.Bits64
import Derived.Laws.BitsLemmas
import Derived.Laws.MathBits
import Derived.Lib.BitFns
import Derived.Lib.ItoaNum
namespace Go.Proofs.YtmoppmfbfpjdnaaGreat

theorem wraps_u64 (n : Int) (h0 : 0 ≤ n) (h1 : n < 2 ^ 64) : IntKind.u64.wrap n = n := by rw [IntKind.wrap_u64]; omega
theorem u64_and1 (x : Int) (h0 : 0 ≤ x) (h1 : x < 18446744073709551616) : bits .and .u64 x 1 = x % 2 := bits_mask .u64 64 (by decide) wraps_u64 1 (by decide) x h0 h1
theorem u64_or (i : Nat) (x y : Int) (hx0 : 0 ≤ x) (hx : x % 2 ^ i = 0) (hx1 : x < 18446744073709551616) (hy0 : 0 ≤ y) (hy : y < 2 ^ i) (hy1 : y < 18446744073709551616) : bits .or .u64 x y = x + y :=
  bits_join .u64 64 (by decide) wraps_u64 i x y hx0 hx hx1 hy0 hy hy1
theorem libLen_eq (x : Nat) (h : x < 2 ^ 64) : Lib.bitLen x = bitLen x := by
  induction x using Nat.strongRecOn with
  | _ x ih =>
    by_cases h0 : x = 0
    · subst h0; rfl
    · rw [Lib.bitLen_half x h0 h, ih (x / 2) (by omega) (by omega)]
      unfold bitLen
      rw [if_neg h0, Nat.log2_def x]
      by_cases h2 : 2 ≤ x
      · rw [if_pos h2, if_neg (by omega)]; omega
      · obtain rfl : x = 1 := by omega
        simp
theorem bitLen_word {x k : Nat} (htop : x / 2 ^ (64 * (k + 1)) = 0) (h : wd x k ≠ 0) : bitLen x = 64 * k + bitLen (wd x k) := by
  have e : wd x k = x / 2 ^ (64 * k) := by
    unfold wd
    rw [pow_succ_word, ← Nat.div_div_eq_div_mul] at htop
    omega
  rw [e] at h ⊢
  exact bitLen_shift x (64 * k) h

/-- A number whose word k is another one. -/
def setw (n k s : Nat) : Nat := n % 2 ^ (64 * k) + 2 ^ (64 * k) * (s + 18446744073709551616 * (n / 2 ^ (64 * (k + 1))))
theorem num_parts (n k : Nat) : n = n % 2 ^ (64 * k) + 2 ^ (64 * k) * (wd n k + 18446744073709551616 * (n / 2 ^ (64 * (k + 1)))) := by
  have h1 := Nat.div_add_mod n (2 ^ (64 * (k + 1)))
  rw [mod_succ_word, pow_succ_word, Nat.mul_assoc] at h1
  rw [pow_succ_word, Nat.mul_add]
  omega
theorem setw_add (n k s : Nat) : setw n k s + 2 ^ (64 * k) * wd n k = n + 2 ^ (64 * k) * s := by
  have h := num_parts n k
  unfold setw
  rw [Nat.mul_add] at h ⊢
  omega
theorem setw_low (n k s : Nat) : setw n k s % 2 ^ (64 * k) = n % 2 ^ (64 * k) := by
  unfold setw
  rw [Nat.add_mul_mod_self_left, Nat.mod_mod]
theorem setw_div (n k s : Nat) : setw n k s / 2 ^ (64 * k) = s + 18446744073709551616 * (n / 2 ^ (64 * (k + 1))) := by
  unfold setw
  rw [Nat.add_mul_div_left _ _ (Nat.two_pow_pos _), Nat.div_eq_of_lt (Nat.mod_lt _ (Nat.two_pow_pos _)), Nat.zero_add]
theorem setw_high {n k s : Nat} (hs : s < 18446744073709551616) : setw n k s / 2 ^ (64 * (k + 1)) = n / 2 ^ (64 * (k + 1)) := by
  rw [pow_succ_word, ← Nat.div_div_eq_div_mul, setw_div, ← pow_succ_word]
  omega
theorem setw_same {n k s : Nat} (hs : s < 18446744073709551616) : wd (setw n k s) k = s := by
  unfold wd
  rw [setw_div]
  omega
theorem wd_high (n j k : Nat) (h : k ≤ j) : wd n j = wd (n / 2 ^ (64 * k)) (j - k) := by
  unfold wd
  rw [Nat.div_div_eq_div_mul, ← Nat.pow_add, ← Nat.mul_add, Nat.add_sub_cancel' h]
theorem setw_ne {n k s j : Nat} (hs : s < 18446744073709551616) (h : j ≠ k) : wd (setw n k s) j = wd n j := by
  rcases Nat.lt_or_ge j k with hlt | hge
  · rw [← wd_mod (n := setw n k s) hlt, setw_low, wd_mod hlt]
  · rw [wd_high (setw n k s) j (k + 1) (by omega), setw_high hs, ← wd_high n j (k + 1) (by omega)]
theorem setw_lt {n k s m : Nat} (hs : s < 18446744073709551616) (hk : k < m) (hn : n < wsz m) : setw n k s < wsz m := by
  have e : wsz m = 2 ^ (64 * (k + 1)) * 2 ^ (64 * (m - (k + 1))) := by
    unfold wsz
    rw [← Nat.pow_add, ← Nat.mul_add, Nat.add_sub_cancel' (by omega)]
  rw [e] at hn ⊢
  have h1 : setw n k s / 2 ^ (64 * (k + 1)) < 2 ^ (64 * (m - (k + 1))) := by
    rw [setw_high hs]
    exact Nat.div_lt_of_lt_mul hn
  rw [Nat.mul_comm]
  exact (Nat.div_lt_iff_lt_mul (Nat.two_pow_pos _)).1 h1

/-- One round of a row: the word at k + at takes what is added. -/
theorem row_step {o a b at_ k out c : Nat} (h : out + c * 2 ^ (64 * (k + at_)) = o + a % 2 ^ (64 * k) * b * 2 ^ (64 * at_)) {s d : Nat} (hs : d * 18446744073709551616 + s = wd a k * b + c + wd out (k + at_)) :
    setw out (k + at_) s + d * 2 ^ (64 * (k + 1 + at_)) = o + a % 2 ^ (64 * (k + 1)) * b * 2 ^ (64 * at_) := by
  have h1 := setw_add out (k + at_) s
  rw [mod_succ_word, show 64 * (k + 1 + at_) = 64 * ((k + at_) + 1) by omega, pow_succ_word, Nat.add_mul, Nat.add_mul]
  have hp : 2 ^ (64 * (k + at_)) = 2 ^ (64 * k) * 2 ^ (64 * at_) := by rw [← Nat.pow_add, Nat.mul_add]
  have e1 : 2 ^ (64 * k) * wd a k * b * 2 ^ (64 * at_) = 2 ^ (64 * (k + at_)) * (wd a k * b) := by rw [hp]; simp only [Nat.mul_assoc, Nat.mul_comm, Nat.mul_left_comm]
  rw [e1]
  generalize 2 ^ (64 * (k + at_)) = P at *
  have e2 : d * (P * 18446744073709551616) = P * (d * 18446744073709551616) := by simp only [Nat.mul_left_comm]
  rw [e2]
  have e3 := congrArg (P * ·) hs
  simp only [Nat.mul_add] at e3
  rw [Nat.mul_comm c] at h
  omega
theorem rest_words {a m b : Nat} (ha : a < W512) : (∀ j, m ≤ j → j < 8 → wd a j * b = 0) ↔ a / 2 ^ (64 * m) * b = 0 := by
  constructor
  · intro h
    rcases Nat.eq_zero_or_pos b with hb | hb
    · rw [hb, Nat.mul_zero]
    · have hz : a / 2 ^ (64 * m) = 0 := by
        rcases Nat.lt_or_ge m 8 with hm | hm
        · refine eq_of_words (m := 8 - m) (Nat.div_lt_of_lt_mul ?_) (Nat.two_pow_pos _) fun k hk => ?_
          · rw [← Nat.pow_add, ← Nat.mul_add, Nat.add_sub_cancel' (by omega), wsz_eq 8]
            exact ha
          · have h1 := h (m + k) (by omega) (by omega)
            have h2 : wd a (m + k) = 0 := by
              rcases Nat.mul_eq_zero.1 h1 with h3 | h3
              · exact h3
              · omega
            rw [wd_high a (m + k) m (by omega), Nat.add_sub_cancel_left] at h2
            rw [h2, wd_zero]
        · exact Nat.div_eq_of_lt (Nat.lt_of_lt_of_le ha (wsz_le (k := 8) hm))
      rw [hz, Nat.zero_mul]
  · intro h j hj hj8
    rcases Nat.mul_eq_zero.1 h with hz | hz
    · rw [wd_high a j m hj, hz, wd_zero, Nat.zero_mul]
    · rw [hz, Nat.mul_zero]
/-- Behind the rows. -/
theorem row_end {o a b at_ out c : Nat} (hat : at_ ≤ 8) (hout : out < W512) (h : out + c * 2 ^ (64 * 8) = o + a % 2 ^ (64 * (8 - at_)) * b * 2 ^ (64 * at_)) :
    (o + a * b * 2 ^ (64 * at_)) % W512 = out ∧ (o + a * b * 2 ^ (64 * at_) < W512 ↔ c = 0 ∧ a / 2 ^ (64 * (8 - at_)) * b = 0) := by
  have e : o + a * b * 2 ^ (64 * at_) = out + W512 * (c + a / 2 ^ (64 * (8 - at_)) * b) := by
    have h1 : a = a % 2 ^ (64 * (8 - at_)) + 2 ^ (64 * (8 - at_)) * (a / 2 ^ (64 * (8 - at_))) := (Nat.mod_add_div _ _).symm
    have h2 : W512 = 2 ^ (64 * (8 - at_)) * 2 ^ (64 * at_) := by
      rw [← Nat.pow_add, ← Nat.mul_add, show 8 - at_ + at_ = 8 by omega]
      rfl
    have h3 : 2 ^ (64 * 8) = W512 := wsz_eq 8
    rw [h3, Nat.mul_comm c] at h
    have h4 : a * b * 2 ^ (64 * at_) = a % 2 ^ (64 * (8 - at_)) * b * 2 ^ (64 * at_) + W512 * (a / 2 ^ (64 * (8 - at_)) * b) := by
      conv => lhs; rw [h1]
      rw [Nat.add_mul, Nat.add_mul, h2]
      simp only [Nat.mul_comm, Nat.mul_left_comm]
    rw [h4, Nat.mul_add]
    omega
  have hW := W512_pos
  generalize a / 2 ^ (64 * (8 - at_)) * b = r at e ⊢
  rw [e]
  refine ⟨by rw [Nat.add_mul_mod_self_left, Nat.mod_eq_of_lt hout], fun h1 => ?_, fun h1 => ?_⟩
  · rcases Nat.eq_zero_or_pos (c + r) with h2 | h2
    · omega
    · have := Nat.mul_le_mul_left W512 h2
      omega
  · rw [h1.1, h1.2]
    simpa using hout
end Go.Proofs.YtmoppmfbfpjdnaaGreat
namespace Go.Proofs.YtmoppmfbfpjdnaaGreat

theorem split_div (A r : Nat) (hr : r ≤ 64) : A / 2 ^ r % 2 ^ 64 = A / 2 ^ 64 % 2 ^ 64 * 2 ^ (64 - r) % 2 ^ 64 + A % 2 ^ 64 / 2 ^ r := by
  have hB : (2 : Nat) ^ 64 = 2 ^ r * 2 ^ (64 - r) := by rw [← Nat.pow_add]; congr 1; omega
  have hd : 0 < 2 ^ r := Nat.two_pow_pos _
  have hc : 0 < 2 ^ (64 - r) := Nat.two_pow_pos _
  rw [hB]
  generalize 2 ^ r = d at *
  generalize 2 ^ (64 - r) = c at *
  have e : A / d = A % (d * c) / d + c * (A / (d * c)) := by
    conv => lhs; rw [← Nat.mod_add_div A (d * c), Nat.mul_assoc, Nat.add_mul_div_left _ _ hd]
  have hlt : A % (d * c) / d < c := Nat.div_lt_of_lt_mul (Nat.mod_lt _ (Nat.mul_pos hd hc))
  rw [e]
  generalize A % (d * c) / d = p at *
  generalize A / (d * c) = q at *
  have h1 : q % (d * c) * c % (d * c) = c * (q % d) := by
    rw [Nat.mul_comm d c, Nat.mul_comm _ c, Nat.mul_mod_mul_left, Nat.mod_mod_of_dvd _ ⟨c, Nat.mul_comm c d⟩]
  have h2 : c * q = c * (q % d) + d * c * (q / d) := by
    conv => lhs; rw [← Nat.mod_add_div q d, Nat.mul_add]
    simp only [Nat.mul_assoc, Nat.mul_left_comm]
  have h3 : c * (q % d) + c ≤ d * c := by
    rw [← Nat.mul_succ, Nat.mul_comm d c]
    exact Nat.mul_le_mul_left _ (Nat.mod_lt _ hd)
  rw [h1, h2, ← Nat.add_assoc, Nat.add_mul_mod_self_left, Nat.mod_eq_of_lt (by omega)]
  omega
/-- A word of a number shifted up. -/
theorem shl_word (a q r i : Nat) (hr : r < 64) (hq : q ≤ i) : wd (a * 2 ^ (64 * q + r)) i = wd a (i - q) * 2 ^ r % 18446744073709551616 + (if i = q then 0 else wd a (i - q - 1) / 2 ^ (64 - r)) := by
  obtain ⟨j, rfl⟩ : ∃ j, i = q + j := ⟨i - q, by omega⟩
  have e : a * 2 ^ (64 * q + r) / 2 ^ (64 * (q + j)) = a * 2 ^ r / 2 ^ (64 * j) := by
    rw [Nat.mul_add, Nat.pow_add, Nat.pow_add, Nat.mul_comm (2 ^ (64 * q)), ← Nat.mul_assoc, Nat.mul_comm (2 ^ (64 * q)), Nat.mul_div_mul_right _ _ (Nat.two_pow_pos _)]
  rw [Nat.add_sub_cancel_left]
  cases j with
  | zero =>
    rw [if_pos (by omega)]
    unfold wd
    rw [e]
    simp only [Nat.mul_zero, Nat.pow_zero, Nat.div_one, Nat.add_zero]
    rw [show (2 : Nat) ^ 64 = 18446744073709551616 by decide, Nat.mod_mul_mod]
  | succ k =>
    rw [if_neg (by omega), Nat.add_sub_cancel]
    have e2 : a * 2 ^ r / 2 ^ (64 * (k + 1)) = a / 2 ^ (64 * k) / 2 ^ (64 - r) := by
      rw [Nat.div_div_eq_div_mul, ← Nat.pow_add, show 64 * (k + 1) = (64 * k + (64 - r)) + r by omega, Nat.pow_add _ _ r, Nat.mul_div_mul_right _ _ (Nat.two_pow_pos _)]
    unfold wd
    rw [e, e2, split_div _ (64 - r) (by omega), show 64 - (64 - r) = r by omega, Nat.div_div_eq_div_mul, ← Nat.pow_add, show 64 * k + 64 = 64 * (k + 1) by omega]
/-- A word of a number shifted down. -/
theorem shr_word (a q r i : Nat) (hr : r < 64) : wd (a / 2 ^ (64 * q + r)) i = wd a (i + q) / 2 ^ r + wd a (i + q + 1) * 2 ^ (64 - r) % 18446744073709551616 := by
  unfold wd
  rw [Nat.div_div_eq_div_mul, ← Nat.pow_add, show 64 * q + r + 64 * i = 64 * (i + q) + r by omega, Nat.pow_add, ← Nat.div_div_eq_div_mul, split_div _ r (by omega), Nat.div_div_eq_div_mul, ← Nat.pow_add, show 64 * (i + q) + 64 = 64 * (i + q + 1) by omega, Nat.add_comm]
end Go.Proofs.YtmoppmfbfpjdnaaGreat
