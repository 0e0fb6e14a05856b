/- Chapter 06: the plain law. -/
import Derived.Test.YtalaffabcnccgaaR6
import Derived.Test.YtalaffabcnccgaaRw
import Derived.Test.YtalaffabcnccgaaSv0
namespace Go.Proofs.Ytalaffabcnccgaa
open Go.RowKit
open R (In64 InU64 lo64 nth)

theorem fit_pow {k n : Nat} (hk : k ≤ 512) (h : n < 2 ^ k) : n < W512 := by
  obtain ⟨N, hN, e⟩ := W512_pow
  rw [e]
  exact Nat.lt_of_lt_of_le h (Nat.pow_le_pow_right (by decide) (by omega))
/-- What it says that a fraction may be. -/
structure MayF (a : Rt) : Prop where
  num : a.num.z.natAbs < 2 ^ 120
  den : a.den.n < 2 ^ 120
  pos : 0 < a.den.n
  fix : a.num = sgn a.num.z
  gcd : Nat.gcd a.num.z.natAbs a.den.n = 1
  terms : termsB a = true
theorem len_lt {n : Nat} (h : ((bitLen n : Nat) : Int) ≤ 120) : n < 2 ^ 120 :=
  Nat.lt_of_lt_of_le (bitLen_spec n).1 (Nat.pow_le_pow_right (by decide) (by omega))
theorem mayF {a : Rt} (h : mayB a = true) : MayF a := by
  unfold mayB at h
  rw [Bool.and_eq_true, Bool.and_eq_true] at h
  obtain ⟨h1, h2, h3⟩ := h
  have h4 := h3
  unfold termsB at h4
  rw [Bool.and_eq_true, Bool.and_eq_true] at h4
  obtain ⟨h5, h6, h7⟩ := h4
  have h5 : a.den.n ≠ 0 := by simpa using h5
  have h6 := of_decide_eq_true h6
  have h7 : gcdW a.num.mag a.den = W 1 := of_decide_eq_true h7
  have h8 := congrArg Wd.n h7
  rw [gcdW_n, W_n (wsmall (by decide))] at h8
  exact ⟨by rw [Sg.abs]; exact len_lt (of_decide_eq_true h1), len_lt (of_decide_eq_true h2), by omega, h6, by rw [Sg.abs]; exact h8, h3⟩
section
variable {a b c : Rt}
theorem prod_fit {m n : Nat} (hm : m < 2 ^ 120) (hn : n < 2 ^ 120) : m * n < 2 ^ 240 := by
  have h1 : m * n ≤ 2 ^ 120 * n := Nat.mul_le_mul_right _ (Nat.le_of_lt hm)
  have h2 : 2 ^ 120 * n < 2 ^ 120 * 2 ^ 120 := Nat.mul_lt_mul_of_pos_left hn (Nat.two_pow_pos _)
  rw [← Nat.pow_add] at h2
  omega
theorem cross_fit (ha : MayF a) (hb : MayF b) : (crossZ a b).natAbs < W512 := by
  unfold crossZ
  rw [Int.natAbs_mul, Int.natAbs_natCast]
  exact fit_pow (by decide) (prod_fit ha.num hb.den)
theorem cross_z (ha : MayF a) (hb : MayF b) : (resZ (crossZ a b)).z = crossZ a b := by
  rw [res_fit (cross_fit ha hb), sgn_z (cross_fit ha hb)]
theorem den_fit (ha : MayF a) (hb : MayF b) : a.den.n * b.den.n < W512 := fit_pow (by decide) (prod_fit ha.den hb.den)
theorem cmp_cross (ha : MayF a) (hb : MayF b) : cmpR a b = cmpZ (crossZ a b) (crossZ b a) := by
  unfold cmpR
  rw [cross_z ha hb, cross_z hb ha]
theorem cmpZ_zero {x y : Int} : cmpZ x y = 0 ↔ x = y := by
  unfold cmpZ
  constructor
  · intro h; split at h
    · omega
    · split at h <;> omega
  · rintro rfl; exact cmpZ_self _
theorem cmp_same (ha : MayF a) (hb : MayF b) : cmpR a b = 0 ↔ a = b := by
  rw [cmp_cross ha hb, cmpZ_zero]
  constructor
  · intro h
    unfold crossZ at h
    have h1 : a.num.z.natAbs * b.den.n = b.num.z.natAbs * a.den.n := by
      have := congrArg Int.natAbs h
      rwa [Int.natAbs_mul, Int.natAbs_mul, Int.natAbs_natCast, Int.natAbs_natCast] at this
    have h2 : a.den.n ∣ b.den.n := by
      refine Nat.Coprime.dvd_of_dvd_mul_left (m := a.num.z.natAbs) ?_ ⟨b.num.z.natAbs, by rw [h1, Nat.mul_comm]⟩
      rw [Nat.Coprime, Nat.gcd_comm]; exact ha.gcd
    have h3 : b.den.n ∣ a.den.n := by
      refine Nat.Coprime.dvd_of_dvd_mul_left (m := b.num.z.natAbs) ?_ ⟨a.num.z.natAbs, by rw [← h1, Nat.mul_comm]⟩
      rw [Nat.Coprime, Nat.gcd_comm]; exact hb.gcd
    have h4 : a.den.n = b.den.n := Nat.dvd_antisymm h2 h3
    have h5 : a.num.z = b.num.z := by
      rw [h4] at h
      exact Int.eq_of_mul_eq_mul_right (by have := hb.pos; omega) h
    refine Rt.ext_iff.2 ⟨?_, Wd.ext_ h4⟩
    rw [ha.fix, hb.fix, h5]
  · rintro rfl; rfl
theorem cmp_anti (ha : MayF a) (hb : MayF b) : cmpR a b = -cmpR b a := by
  rw [cmp_cross ha hb, cmp_cross hb ha]
  unfold cmpZ
  by_cases h1 : crossZ a b < crossZ b a
  · rw [if_pos h1, if_neg (by omega), if_neg (by omega)]
  · rw [if_neg h1]
    by_cases h2 : crossZ a b = crossZ b a
    · rw [if_pos h2, if_neg (by omega), if_pos h2.symm]; rfl
    · rw [if_neg h2, if_pos (by omega)]; rfl
theorem cmpZ_le {x y : Int} : cmpZ x y ≤ 0 ↔ x ≤ y := by
  unfold cmpZ
  by_cases h : x < y
  · rw [if_pos h]; omega
  · rw [if_neg h]; split <;> omega
theorem cmp_trans (ha : MayF a) (hb : MayF b) (hc : MayF c) (h1 : cmpR a b ≤ 0) (h2 : cmpR b c ≤ 0) : cmpR a c ≤ 0 := by
  rw [cmp_cross ha hb, cmpZ_le] at h1
  rw [cmp_cross hb hc, cmpZ_le] at h2
  rw [cmp_cross ha hc, cmpZ_le]
  unfold crossZ at *
  have p1 := ha.pos
  have p2 := hb.pos
  have p3 := hc.pos
  generalize a.num.z = x at *
  generalize b.num.z = y at *
  generalize c.num.z = z at *
  obtain ⟨da, hda⟩ : ∃ d : Int, d = (a.den.n : Int) := ⟨_, rfl⟩
  obtain ⟨db, hdb⟩ : ∃ d : Int, d = (b.den.n : Int) := ⟨_, rfl⟩
  obtain ⟨dc, hdc⟩ : ∃ d : Int, d = (c.den.n : Int) := ⟨_, rfl⟩
  rw [← hda, ← hdb] at h1
  rw [← hdb, ← hdc] at h2
  rw [← hda, ← hdc]
  have h3 := Int.mul_le_mul_of_nonneg_right h1 (show 0 ≤ dc by omega)
  have h4 := Int.mul_le_mul_of_nonneg_right h2 (show 0 ≤ da by omega)
  refine Int.le_of_mul_le_mul_right (a := db) ?_ (by omega)
  have e1 : x * db * dc = x * dc * db := Int.mul_right_comm _ _ _
  have e2 : y * da * dc = y * dc * da := Int.mul_right_comm _ _ _
  have e3 : z * db * da = z * da * db := Int.mul_right_comm _ _ _
  omega
theorem d_ne (ha : MayF a) : (⟨false, a.den⟩ : Sg).mag.n ≠ 0 := by have := ha.pos; show a.den.n ≠ 0; omega
theorem fl_of (ha : MayF a) : flS a = ovS a.num ⟨false, a.den⟩ ∧ flE a = 0 := by
  unfold flS flE
  rw [if_pos ha.terms, if_pos ha.terms]
  refine ⟨rfl, ?_⟩
  unfold eW
  exact if_neg (d_ne ha)
theorem fl_z (ha : MayF a) : (flS a).z = flrZ a.num.z (a.den.n : Int) := by rw [(fl_of ha).1, ov_z (d_ne ha)]; rfl
theorem fl_in (ha : MayF a) : flrZ a.num.z (a.den.n : Int) * (a.den.n : Int) ≤ a.num.z ∧ a.num.z < (flrZ a.num.z (a.den.n : Int) + 1) * (a.den.n : Int) ∧ (flrZ a.num.z (a.den.n : Int)).natAbs ≤ a.num.z.natAbs ∧ (flrZ a.num.z (a.den.n : Int) * (a.den.n : Int)).natAbs ≤ a.num.z.natAbs + a.den.n := by
  have hp := ha.pos
  have hd : (a.den.n : Int) ≠ 0 := by omega
  obtain ⟨h1, h2, h3, -⟩ := fl_spec (x := a.num.z) hd
  have h4 := fl_abs (x := a.num.z) hd
  rw [Int.add_mul, Int.one_mul]
  rw [Int.natAbs_natCast] at h1 h3
  refine ⟨?_, ?_, h4, h3⟩ <;> omega
theorem low_le (ha : MayF a) : ¬ 0 < cmpZ (resZ ((flS a).z * (⟨false, a.den⟩ : Sg).z)).z a.num.z := by
  obtain ⟨h1, h2, h3, h4⟩ := fl_in ha
  have hn := ha.num
  have hd := ha.den
  rw [fl_z ha, show (⟨false, a.den⟩ : Sg).z = (a.den.n : Int) from rfl]
  have hf : (flrZ a.num.z (a.den.n : Int) * (a.den.n : Int)).natAbs < W512 := fit_pow (k := 121) (by decide) (by omega)
  rw [res_fit hf, sgn_z hf]
  have := (cmpZ_le (x := flrZ a.num.z (a.den.n : Int) * (a.den.n : Int)) (y := a.num.z)).2 h1
  omega
theorem high_gt (ha : MayF a) : ¬ cmpZ (resZ ((resZ ((flS a).z + (sgn 1).z)).z * (⟨false, a.den⟩ : Sg).z)).z a.num.z ≤ 0 := by
  obtain ⟨h1, h2, h3, h4⟩ := fl_in ha
  have hn := ha.num
  have hd := ha.den
  rw [fl_z ha, show (⟨false, a.den⟩ : Sg).z = (a.den.n : Int) from rfl, lzz (by decide)]
  have hg : (flrZ a.num.z (a.den.n : Int) + 1).natAbs < W512 := fit_pow (k := 121) (by decide) (by omega)
  rw [res_fit hg, sgn_z hg]
  have hf : ((flrZ a.num.z (a.den.n : Int) + 1) * (a.den.n : Int)).natAbs < W512 := fit_pow (k := 122) (by decide) (by rw [Int.add_mul, Int.one_mul]; omega)
  rw [res_fit hf, sgn_z hf]
  intro h
  have := cmpZ_le.1 h
  omega
end
end Go.Proofs.Ytalaffabcnccgaa
