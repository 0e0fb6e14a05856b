/- Quotients cut down: the plain law. -/
import Derived.Test.YtalaffabcnccgaaSo
namespace Go.Proofs.Ytalaffabcnccgaa
open Go.RowKit
open R (In64 InU64 lo64 nth)

theorem fl_abs {x y : Int} (hy : y ≠ 0) : (flrZ x y).natAbs ≤ x.natAbs := by
  have h1 := Nat.div_add_mod x.natAbs y.natAbs
  have h2 := Nat.mod_lt x.natAbs (show 0 < y.natAbs by omega)
  have h3 : 1 * (x.natAbs / y.natAbs) ≤ y.natAbs * (x.natAbs / y.natAbs) := Nat.mul_le_mul_right _ (by omega)
  unfold flrZ
  split
  · omega
  · split <;> omega
theorem fl_spec {x y : Int} (hy : y ≠ 0) : (x - flrZ x y * y).natAbs < y.natAbs ∧ (x - flrZ x y * y = 0 ∨ (x - flrZ x y * y < 0 ↔ y < 0)) ∧ (flrZ x y * y).natAbs ≤ x.natAbs + y.natAbs ∧ (y.natAbs ≤ x.natAbs ∨ (flrZ x y * y).natAbs ≤ y.natAbs) := by
  have h1 := Nat.div_add_mod x.natAbs y.natAbs
  have h2 := Nat.mod_lt x.natAbs (show 0 < y.natAbs by omega)
  have h3 : x.natAbs < y.natAbs → x.natAbs / y.natAbs = 0 := Nat.div_eq_of_lt
  unfold flrZ
  generalize x.natAbs / y.natAbs = k at *
  generalize x.natAbs % y.natAbs = r at *
  have key : (k : Int) * y = if y < 0 then -((y.natAbs * k : Nat) : Int) else ((y.natAbs * k : Nat) : Int) := by
    by_cases h : y < 0
    · rw [if_pos h]
      have e : y = -(y.natAbs : Int) := by omega
      rw [Int.natCast_mul, ← Int.neg_mul, ← e, Int.mul_comm]
    · rw [if_neg h]
      have e : y = (y.natAbs : Int) := by omega
      rw [Int.natCast_mul, ← e, Int.mul_comm]
  have h4 : k = 0 → y.natAbs * k = 0 := by rintro rfl; rfl
  generalize y.natAbs * k = p at *
  by_cases hs : (x < 0 ↔ y < 0)
  · rw [if_pos hs, key]
    split <;> omega
  · rw [if_neg hs]
    by_cases hr : r = 0
    · rw [if_pos hr, Int.neg_mul, key]
      split <;> omega
    · rw [if_neg hr, Int.neg_mul, Int.add_mul, Int.one_mul, key]
      split <;> omega
section
variable {a b : Sg}
theorem b_ne (h : b.mag.n ≠ 0) : b.z ≠ 0 := by have := b.abs; omega
theorem ov_z (h : b.mag.n ≠ 0) : (ovS a b).z = flrZ a.z b.z := by
  unfold ovS
  rw [if_neg h, sgn_z]
  have := fl_abs (x := a.z) (b_ne h)
  have := a.z_lt
  omega
theorem top_word_k {n k : Nat} (hn : n < wsz (k + 1)) (h : wd n k ≤ 4611686018427387904) : n + n < wsz (k + 1) := by
  have hw : wsz (k + 1) = wsz k * 18446744073709551616 := pow_succ_word k
  have hp := wsz_pos k
  have h1 : wd n k = n / wsz k % 18446744073709551616 := rfl
  rw [hw] at hn ⊢
  have h2 : n / wsz k < 18446744073709551616 := Nat.div_lt_of_lt_mul hn
  rw [Nat.mod_eq_of_lt h2] at h1
  have h3 := Nat.div_add_mod n (wsz k)
  have h4 := Nat.mod_lt n hp
  have h5 : wsz k * (n / wsz k) ≤ wsz k * 4611686018427387904 := Nat.mul_le_mul_left _ (by omega)
  omega
theorem W512_7 : ∃ k : Nat, k = 7 ∧ W512 = wsz (k + 1) := ⟨7, rfl, rfl⟩
theorem top_word {n : Nat} (hn : n < W512) (h : wd n 7 ≤ 4611686018427387904) : n + n < W512 := by
  obtain ⟨k, hk, hw⟩ := W512_7
  rw [← hk] at h
  rw [hw] at hn ⊢
  exact top_word_k hn h
theorem so_fit (h : b.mag.n ≠ 0) (hw : ¬ ((4611686018427387904 : Int) < (wd a.mag.n 7 : Nat))) : ((ovS a b).z * (sgn b.z).z).natAbs < W512 := by
  rw [ov_z h, fix_z]
  obtain ⟨_, _, h3, h4⟩ := fl_spec (x := a.z) (b_ne h)
  have h5 := top_word a.mag.lt (by omega)
  have h6 := b.z_lt
  rw [← a.abs] at h5
  omega
theorem so_rest (h : b.mag.n ≠ 0) (hp : (!decide (((ovS a b).z * (sgn b.z).z).natAbs < W512)) = false) :
    a.z - (resZ ((ovS a b).z * (sgn b.z).z)).z = a.z - flrZ a.z b.z * b.z := by
  have hp2 : ((ovS a b).z * (sgn b.z).z).natAbs < W512 := by simpa using hp
  rw [res_fit hp2, sgn_z hp2, ov_z h, fix_z]
theorem so_o (h : b.mag.n ≠ 0) (hp : (!decide (((ovS a b).z * (sgn b.z).z).natAbs < W512)) = false) : (a.z - (resZ ((ovS a b).z * (sgn b.z).z)).z).natAbs < W512 := by
  rw [so_rest h hp]
  have := (fl_spec (x := a.z) (b_ne h)).1
  have := b.z_lt
  omega
theorem so_res (h : b.mag.n ≠ 0) (hp : (!decide (((ovS a b).z * (sgn b.z).z).natAbs < W512)) = false) : resZ (a.z - (resZ ((ovS a b).z * (sgn b.z).z)).z) = sgn (a.z - flrZ a.z b.z * b.z) := by
  rw [res_fit (so_o h hp), so_rest h hp]
theorem so_sign (h : b.mag.n ≠ 0) (hp : (!decide (((ovS a b).z * (sgn b.z).z).natAbs < W512)) = false) (h1 : ¬ resZ (a.z - (resZ ((ovS a b).z * (sgn b.z).z)).z) = ⟨false, W 0⟩) : (resZ (a.z - (resZ ((ovS a b).z * (sgn b.z).z)).z)).neg = (sgn b.z).neg := by
  rw [so_res h hp] at h1 ⊢
  rcases (fl_spec (x := a.z) (b_ne h)).2.1 with h2 | h2
  · exact absurd (by rw [h2]; rfl) h1
  · exact decide_eq_decide.2 h2
theorem mag_z (m : Wd) : (⟨false, m⟩ : Sg).z = (m.n : Int) := rfl
theorem so_cmp (h : b.mag.n ≠ 0) (hp : (!decide (((ovS a b).z * (sgn b.z).z).natAbs < W512)) = false) : cmpZ (sgn (⟨false, (resZ (a.z - (resZ ((ovS a b).z * (sgn b.z).z)).z)).mag⟩ : Sg).z).z (sgn (⟨false, (sgn b.z).mag⟩ : Sg).z).z < 0 := by
  have h1 := (fl_spec (x := a.z) (b_ne h)).1
  have h2 := so_o h hp
  rw [so_rest h hp] at h2
  rw [so_res h hp, fix_z, fix_z, mag_z, mag_z, sgn_mag h2, sgn_mag b.z_lt, cmpZ_lt (by omega)]
  decide
end
end Go.Proofs.Ytalaffabcnccgaa
