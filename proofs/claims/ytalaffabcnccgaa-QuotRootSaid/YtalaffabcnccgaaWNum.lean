/- Plain laws on numbers of eight words: sums, differences, how they compare. -/
import Derived.Test.YtalaffabcnccgaaNum
namespace Go.Proofs.Ytalaffabcnccgaa

def wsz (k : Nat) : Nat := 2 ^ (64 * k)
theorem wsz_pos (k : Nat) : 0 < wsz k := Nat.two_pow_pos _
theorem wsz_dvd {k m : Nat} (h : k ≤ m) : 2 ^ (64 * k) ∣ wsz m := Nat.pow_dvd_pow 2 (by omega)
theorem wsz_eq (k : Nat) : 2 ^ (64 * k) = wsz k := rfl
theorem wsz_le {k m : Nat} (h : k ≤ m) : wsz k ≤ wsz m := Nat.pow_le_pow_right (by omega) (by omega)
theorem wsz1 : wsz 1 = 18446744073709551616 := by decide
theorem wsz2 : wsz 2 = 340282366920938463463374607431768211456 := by decide
theorem eq_of_wsz {a b m : Nat} (ha : a < wsz m) (hb : b < wsz m) (h : ∀ k, k < m → wd a k = wd b k) : a = b := eq_of_words ha hb h
def W512 : Nat := wsz 8
theorem W512_pos : 0 < W512 := wsz_pos 8
/-- What is carried behind k words. -/
def car (x y k : Nat) : Nat := (x % 2 ^ (64 * k) + y % 2 ^ (64 * k)) / 2 ^ (64 * k)
theorem car_zero (x y : Nat) : car x y 0 = 0 := by simp [car, Nat.mod_one]
theorem car_le (x y k : Nat) : car x y k ≤ 1 := by
  unfold car
  have h1 := Nat.mod_lt x (show 0 < 2 ^ (64 * k) from Nat.pow_pos (by omega))
  have h2 := Nat.mod_lt y (show 0 < 2 ^ (64 * k) from Nat.pow_pos (by omega))
  have : (x % 2 ^ (64 * k) + y % 2 ^ (64 * k)) / 2 ^ (64 * k) < 2 := Nat.div_lt_of_lt_mul (by omega)
  omega
theorem pow_succ_word (k : Nat) : 2 ^ (64 * (k + 1)) = 2 ^ (64 * k) * 18446744073709551616 := by
  rw [show 64 * (k + 1) = 64 * k + 64 by omega, Nat.pow_add]
theorem car_succ (x y k : Nat) : car x y (k + 1) = (wd x k + wd y k + car x y k) / 18446744073709551616 ∧ (wd x k + wd y k + car x y k) % 18446744073709551616 = wd (x + y) k := by
  have hp : 0 < 2 ^ (64 * k) := Nat.pow_pos (by omega)
  have e1 := mod_succ_word x k
  have e2 := mod_succ_word y k
  have hx := Nat.div_add_mod x (2 ^ (64 * k))
  have hy := Nat.div_add_mod y (2 ^ (64 * k))
  constructor
  · unfold car
    rw [e1, e2, pow_succ_word, ← Nat.div_div_eq_div_mul]
    congr 1
    rw [show x % 2 ^ (64 * k) + 2 ^ (64 * k) * wd x k + (y % 2 ^ (64 * k) + 2 ^ (64 * k) * wd y k) = (x % 2 ^ (64 * k) + y % 2 ^ (64 * k)) + 2 ^ (64 * k) * (wd x k + wd y k) by rw [Nat.mul_add]; omega, Nat.add_mul_div_left _ _ hp]
    omega
  · unfold car wd
    have e3 : (x + y) / 2 ^ (64 * k) = x / 2 ^ (64 * k) + y / 2 ^ (64 * k) + (x % 2 ^ (64 * k) + y % 2 ^ (64 * k)) / 2 ^ (64 * k) := by
      conv => lhs; rw [← hx, ← hy]
      rw [show 2 ^ (64 * k) * (x / 2 ^ (64 * k)) + x % 2 ^ (64 * k) + (2 ^ (64 * k) * (y / 2 ^ (64 * k)) + y % 2 ^ (64 * k)) = (x % 2 ^ (64 * k) + y % 2 ^ (64 * k)) + 2 ^ (64 * k) * (x / 2 ^ (64 * k) + y / 2 ^ (64 * k)) by rw [Nat.mul_add]; omega, Nat.add_mul_div_left _ _ hp]
      omega
    rw [e3]
    generalize x / 2 ^ (64 * k) = p
    generalize y / 2 ^ (64 * k) = q
    generalize (x % 2 ^ (64 * k) + y % 2 ^ (64 * k)) / 2 ^ (64 * k) = r
    omega
theorem car_end_ {x y : Nat} (m : Nat) (hx : x < wsz m) (hy : y < wsz m) : car x y m = 0 ↔ x + y < wsz m := by
  unfold car
  unfold wsz at *
  rw [Nat.mod_eq_of_lt hx, Nat.mod_eq_of_lt hy]
  exact Nat.div_eq_zero_iff_lt (Nat.two_pow_pos _)
theorem car_end {x y : Nat} (hx : x < W512) (hy : y < W512) : car x y 8 = 0 ↔ x + y < W512 := car_end_ 8 hx hy

/-- What is borrowed behind k words. -/
def brw (x y k : Nat) : Nat := if x % 2 ^ (64 * k) < y % 2 ^ (64 * k) then 1 else 0
theorem brw_zero (x y : Nat) : brw x y 0 = 0 := by simp [brw, Nat.mod_one]
theorem brw_le (x y k : Nat) : brw x y k ≤ 1 := by unfold brw; split <;> omega
theorem brw_end_ {x y : Nat} (m : Nat) (hx : x < wsz m) (hy : y < wsz m) : brw x y m = 0 ↔ y ≤ x := by
  unfold brw
  unfold wsz at *
  rw [Nat.mod_eq_of_lt hx, Nat.mod_eq_of_lt hy]
  split <;> omega
theorem brw_end {x y : Nat} (hx : x < W512) (hy : y < W512) : brw x y 8 = 0 ↔ y ≤ x := brw_end_ 8 hx hy
/-- The difference, modulo 2^512. -/
def dif (x y : Nat) : Nat := (x + (W512 - y)) % W512
theorem dif_lt (x y : Nat) : dif x y < W512 := Nat.mod_lt _ W512_pos
theorem dif_of_le {x y : Nat} (hx : x < W512) (h : y ≤ x) : dif x y = x - y := by
  unfold dif
  have hp := W512_pos
  rw [show x + (W512 - y) = (x - y) + W512 by omega, Nat.add_mod_right, Nat.mod_eq_of_lt (by omega)]
theorem dif_add (x y : Nat) (hx : x < W512) (hy : y < W512) : dif ((x + y) % W512) y = x := by
  unfold dif
  rcases Nat.lt_or_ge (x + y) W512 with h | h
  · rw [Nat.mod_eq_of_lt h, show x + y + (W512 - y) = x + W512 by omega, Nat.add_mod_right, Nat.mod_eq_of_lt hx]
  · rw [Nat.mod_eq_sub_mod h, Nat.mod_eq_of_lt (show x + y - W512 < W512 by omega), show x + y - W512 + (W512 - y) = x by omega, Nat.mod_eq_of_lt hx]
theorem dif_mod (x y k : Nat) (hk : k ≤ 8) (hy : y < W512) : (dif x y % 2 ^ (64 * k) + y % 2 ^ (64 * k)) % 2 ^ (64 * k) = x % 2 ^ (64 * k) := by
  have hd : 2 ^ (64 * k) ∣ W512 := wsz_dvd (m := 8) hk
  rw [← Nat.add_mod]
  unfold dif
  rw [Nat.add_mod, Nat.mod_mod_of_dvd _ hd, ← Nat.add_mod, show x + (W512 - y) + y = x + W512 by omega, Nat.add_mod, Nat.mod_eq_zero_of_dvd hd, Nat.add_zero, Nat.mod_mod]

theorem dif_car (x y k : Nat) (hk : k ≤ 8) (hy : y < W512) : dif x y % 2 ^ (64 * k) + y % 2 ^ (64 * k) = x % 2 ^ (64 * k) + 2 ^ (64 * k) * brw x y k := by
  have hp : 0 < 2 ^ (64 * k) := Nat.pow_pos (by omega)
  have h := dif_mod x y k hk hy
  have h1 := Nat.mod_lt (dif x y) hp
  have h2 := Nat.mod_lt y hp
  unfold brw
  generalize dif x y % 2 ^ (64 * k) = d at *
  generalize y % 2 ^ (64 * k) = b at *
  generalize x % 2 ^ (64 * k) = a at *
  generalize 2 ^ (64 * k) = B at *
  rcases Nat.lt_or_ge (d + b) B with h3 | h3
  · rw [Nat.mod_eq_of_lt h3] at h
    rw [if_neg (by omega)]
    omega
  · rw [Nat.mod_eq_sub_mod h3, Nat.mod_eq_of_lt (by omega)] at h
    rw [if_pos (by omega)]
    omega
theorem brw_succ (x y k : Nat) (hk : k < 8) (hy : y < W512) : brw x y k + wd (dif x y) k + wd y k = wd x k + 18446744073709551616 * brw x y (k + 1) := by
  have hp : 0 < 2 ^ (64 * k) := Nat.pow_pos (by omega)
  have h0 := dif_car x y k (by omega) hy
  have h1 := dif_car x y (k + 1) (by omega) hy
  rw [mod_succ_word, mod_succ_word y, mod_succ_word x, pow_succ_word] at h1
  refine Nat.eq_of_mul_eq_mul_left hp ?_
  rw [Nat.mul_add, Nat.mul_add, Nat.mul_add, ← Nat.mul_assoc]
  omega

/-- How numbers compare, from the highest word down. -/
theorem cmp_words {x y : Nat} (k : Nat) (htop : x / 2 ^ (64 * (k + 1)) = y / 2 ^ (64 * (k + 1))) (h : wd x k < wd y k) : x < y := by
  have hp : 0 < 2 ^ (64 * k) := Nat.pow_pos (by omega)
  have e : ∀ n : Nat, n = n % 2 ^ (64 * k) + 2 ^ (64 * k) * (wd n k + 18446744073709551616 * (n / 2 ^ (64 * (k + 1)))) := fun n => by
    have h1 := Nat.div_add_mod n (2 ^ (64 * (k + 1)))
    rw [mod_succ_word, pow_succ_word, Nat.mul_assoc] at h1
    rw [pow_succ_word, Nat.mul_add]
    omega
  have ex := e x
  have ey := e y
  rw [htop] at ex
  have h3 := Nat.mod_lt x hp
  have h4 : 2 ^ (64 * k) * (wd x k + 18446744073709551616 * (y / 2 ^ (64 * (k + 1)))) + 2 ^ (64 * k) ≤ 2 ^ (64 * k) * (wd y k + 18446744073709551616 * (y / 2 ^ (64 * (k + 1)))) := by
    rw [← Nat.mul_succ]
    exact Nat.mul_le_mul_left _ (by omega)
  omega
theorem top_step {x y : Nat} (k : Nat) (htop : x / 2 ^ (64 * (k + 1)) = y / 2 ^ (64 * (k + 1))) (h : wd x k = wd y k) : x / 2 ^ (64 * k) = y / 2 ^ (64 * k) := by
  unfold wd at h
  rw [pow_succ_word, ← Nat.div_div_eq_div_mul, ← Nat.div_div_eq_div_mul] at htop
  generalize x / 2 ^ (64 * k) = a at *
  generalize y / 2 ^ (64 * k) = b at *
  omega
end Go.Proofs.Ytalaffabcnccgaa
