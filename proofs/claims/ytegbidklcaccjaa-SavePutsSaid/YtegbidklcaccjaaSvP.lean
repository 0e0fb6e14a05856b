/- Numbers as bytes: the plain law. -/
import Derived.Test.YtegbidklcaccjaaOpnB
import Derived.Laws.BitsLemmas
namespace Go.Proofs.Ytegbidklcaccjaa
open R (In64 InU64 lo64 nth)

/-- A number without sign, and back. -/
def zig (n : Int) : Int := if n < 0 then -2 * n - 1 else 2 * n
def unzig (u : Int) : Int := if u % 2 = 1 then -(u / 2) - 1 else u / 2
theorem unzig_zig (n : Int) : unzig (zig n) = n := by
  unfold unzig zig
  split <;> split <;> omega
theorem zig_in {n : Int} (h0 : -1152921504606846976 ≤ n) (h1 : n ≤ 1152921504606846976) : 0 ≤ zig n ∧ zig n ≤ 2305843009213693952 := by
  unfold zig
  split <;> omega
/-- Its bytes. -/
def numB (u : Int) : List Int := if 128 ≤ u then (128 + u % 128) :: numB (u / 128) else [u]
termination_by u.toNat
decreasing_by omega
theorem numB_hi {u : Int} (h : 128 ≤ u) : numB u = (128 + u % 128) :: numB (u / 128) := by rw [numB, if_pos h]
theorem numB_lo {u : Int} (h : ¬ 128 ≤ u) : numB u = [u] := by rw [numB, if_neg h]
/-- Which number bytes begin with, and how many they are. -/
def rdF : List Int → Nat → Int → Option (Int × Nat)
  | [], _, _ => none
  | c :: r, i, u =>
    if 9 ≤ i then none
    else if c < 128 then (if (0 < i ∧ c = 0) ∨ unzig (u + 128 ^ i * c) < -1152921504606846976 ∨ 1152921504606846976 < unzig (u + 128 ^ i * c) then none else some (unzig (u + 128 ^ i * c), i + 1))
    else rdF r (i + 1) (u + 128 ^ i * (c % 128))
theorem numB_len : ∀ (k : Nat) (u : Int), 0 ≤ u → u < 128 ^ (k + 1) → (numB u).length ≤ k + 1
  | 0, u, h0, h1 => by rw [numB_lo (by simp at h1; omega)]; simp
  | k + 1, u, h0, h1 => by
    by_cases h : 128 ≤ u
    · rw [numB_hi h, List.length_cons]
      have := numB_len k (u / 128) (by omega) (by rw [Int.pow_succ] at h1; omega)
      omega
    · rw [numB_lo h]; simp
theorem numB_pos (u : Int) : 0 < (numB u).length := by
  by_cases h : 128 ≤ u
  · rw [numB_hi h]; simp
  · rw [numB_lo h]; simp
theorem rd_num : ∀ (k : Nat) (v : Int) (i : Nat) (u : Int), 0 ≤ v → v < 128 ^ (k + 1) → i + k ≤ 8 → (0 < i → 0 < v) → -1152921504606846976 ≤ unzig (u + 128 ^ i * v) → unzig (u + 128 ^ i * v) ≤ 1152921504606846976 → rdF (numB v) i u = some (unzig (u + 128 ^ i * v), i + (numB v).length)
  | k, v, i, u, h0, h1, hi, hp, b0, b1 => by
    by_cases h : 128 ≤ v
    · cases k with
      | zero => simp at h1; omega
      | succ k =>
        have hv : v / 128 < 128 ^ (k + 1) := by rw [Int.pow_succ] at h1; omega
        have e : u + 128 ^ i * (v % 128) + 128 ^ (i + 1) * (v / 128) = u + 128 ^ i * v := by
          have e1 : v = 128 * (v / 128) + v % 128 := by omega
          have e2 : (128 : Int) ^ i * v = 128 ^ i * (128 * (v / 128)) + 128 ^ i * (v % 128) := by
            rw [← Int.mul_add, ← e1]
          rw [e2, Int.pow_succ, Int.mul_assoc]
          omega
        rw [numB_hi h, rdF, if_neg (by omega), if_neg (by omega), show (128 + v % 128) % 128 = v % 128 by omega, rd_num k (v / 128) (i + 1) (u + 128 ^ i * (v % 128)) (by omega) hv (by omega) (by omega) (by rw [e]; exact b0) (by rw [e]; exact b1), e, List.length_cons]
        congr 2
        omega
    · rw [numB_lo h, rdF, if_neg (by omega), if_pos (by omega), if_neg]
      · rfl
      · omega
/-- What is put is read. -/
theorem rd_zig {n : Int} (h0 : -1152921504606846976 ≤ n) (h1 : n ≤ 1152921504606846976) : rdF (numB (zig n)) 0 0 = some (n, (numB (zig n)).length) := by
  have hz := zig_in h0 h1
  have e : (0 : Int) + 128 ^ 0 * zig n = zig n := by simp
  have := rd_num 8 (zig n) 0 0 hz.1 (by omega) (by omega) (by omega) (by rw [e, unzig_zig]; exact h0) (by rw [e, unzig_zig]; exact h1)
  rwa [e, unzig_zig, Nat.zero_add] at this
theorem rd_step {L : List Int} {i : Nat} (u : Int) (h : i < L.length) : rdF (L.drop i) i u = if 9 ≤ i then none else if nth L i < 128 then (if (0 < i ∧ nth L i = 0) ∨ unzig (u + 128 ^ i * nth L i) < -1152921504606846976 ∨ 1152921504606846976 < unzig (u + 128 ^ i * nth L i) then none else some (unzig (u + 128 ^ i * nth L i), i + 1)) else rdF (L.drop (i + 1)) (i + 1) (u + 128 ^ i * (nth L i % 128)) := by
  rw [List.drop_eq_getElem_cons h, rdF, ← R.nth_eq h]
theorem rd_end {L : List Int} {i : Nat} (u : Int) (h : L.length ≤ i) : rdF (L.drop i) i u = none := by
  rw [List.drop_eq_nil_of_le h, rdF]
theorem rd_nine (L : List Int) (u : Int) : rdF L 9 u = none := by
  cases L with
  | nil => rfl
  | cons c r => rw [rdF, if_pos (by omega)]
def rdN (o : Option (Int × Nat)) : Int := match o with | none => 0 | some x => x.1
def rdU (o : Option (Int × Nat)) : Nat := match o with | none => 0 | some x => x.2
/-! ### bits -/
theorem u64_not {a : Int} (h0 : 0 ≤ a) (h1 : a ≤ 18446744073709551615) : bits .xor .u64 18446744073709551615 a = 18446744073709551615 - a := by
  obtain ⟨n, rfl⟩ := Int.eq_ofNat_of_zero_le h0
  show IntKind.u64.wrap ((BitVec.ofInt 64 18446744073709551615 ^^^ BitVec.ofInt 64 (n : Int)).toNat : Int) = _
  have e1 : BitVec.ofInt 64 18446744073709551615 = BitVec.allOnes 64 := by decide
  have e2 : (BitVec.ofInt 64 (n : Int)).toNat = n := by
    rw [BitVec.ofInt_natCast, BitVec.toNat_ofNat]
    exact Nat.mod_eq_of_lt (by omega)
  rw [e1, BitVec.allOnes_xor, BitVec.toNat_not, e2]
  simp [IntKind.wrap, IntKind.bits, IntKind.signed]
  omega
theorem i64_not0 {a : Int} (h0 : 0 ≤ a) (h1 : a ≤ 9223372036854775807) : bits .xor .i64 (-1) a = -a - 1 := by
  obtain ⟨n, rfl⟩ := Int.eq_ofNat_of_zero_le h0
  show IntKind.i64.wrap ((BitVec.ofInt 64 (-1) ^^^ BitVec.ofInt 64 (n : Int)).toNat : Int) = _
  have e1 : BitVec.ofInt 64 (-1) = BitVec.allOnes 64 := by decide
  have e2 : (BitVec.ofInt 64 (n : Int)).toNat = n := by
    rw [BitVec.ofInt_natCast, BitVec.toNat_ofNat]
    exact Nat.mod_eq_of_lt (by omega)
  rw [e1, BitVec.allOnes_xor, BitVec.toNat_not, e2]
  simp [IntKind.wrap, IntKind.bits, IntKind.signed]
  omega
theorem u8_and127 {x : Int} (h0 : 0 ≤ x) (h1 : x < 256) : bits .and .u8 x 127 = x % 128 := bits_mask .u8 8 (by decide) wraps_u8 7 (by decide) x h0 h1
theorem u8_low {x : Int} : ∃ a : Int, IntKind.u8.wrap x = a ∧ a = x % 256 := ⟨_, rfl, IntKind.wrap_u8 x⟩
theorem u8_or_hi {x : Int} (h0 : 0 ≤ x) (h1 : x < 256) : bits .or .u8 x 128 = 128 + x % 128 := by
  have key : ∀ a : Nat, a < 256 → bits .or .u8 (a : Int) 128 = 128 + (a : Int) % 128 := by decide +kernel
  obtain ⟨n, rfl⟩ := Int.eq_ofNat_of_zero_le h0
  exact key n (by omega)
theorem wraps_u64b (n : Int) (h0 : 0 ≤ n) (h1 : n < 2 ^ 64) : IntKind.u64.wrap n = n := by
  simp [IntKind.wrap, IntKind.bits, IntKind.signed]
  omega
theorem u64_and1 {x : Int} (h0 : 0 ≤ x) (h1 : x ≤ 18446744073709551615) : bits .and .u64 x 1 = x % 2 := bits_mask .u64 64 (by decide) wraps_u64b 1 (by decide) x h0 (by omega)
theorem u64_or_up (i : Nat) {y c : Int} (hi : i ≤ 8) (hy0 : 0 ≤ y) (hy : y < 128 ^ i) (hc0 : 0 ≤ c) (hc : c < 128) : bits .or .u64 y (c * 2 ^ (7 * i)) = y + 128 ^ i * c ∧ 0 ≤ y + 128 ^ i * c ∧ y + 128 ^ i * c < 128 ^ (i + 1) ∧ 0 ≤ c * 2 ^ (7 * i) ∧ c * 2 ^ (7 * i) ≤ 18446744073709551615 := by
  have ep : (2 : Int) ^ (7 * i) = 128 ^ i := by rw [Int.pow_mul]; rfl
  have hp : (0 : Int) < 128 ^ i := Int.pow_pos (by decide)
  have h8 : (128 : Int) ^ i ≤ 72057594037927936 := by
    have : ∀ j : Nat, j ≤ 8 → (128 : Int) ^ j ≤ 72057594037927936 := by decide
    exact this i hi
  have m0 : 0 ≤ c * 128 ^ i := Int.mul_nonneg hc0 (by omega)
  have m1 : c * 128 ^ i ≤ 127 * 128 ^ i := Int.mul_le_mul_of_nonneg_right (by omega) (by omega)
  have ec : 128 ^ i * c = c * 128 ^ i := Int.mul_comm _ _
  have es : (128 : Int) ^ (i + 1) = 128 ^ i * 128 := Int.pow_succ _ _
  have hj := bits_join .u64 64 (by decide) wraps_u64b (7 * i) (c * 2 ^ (7 * i)) y (by rw [ep]; exact m0) (Int.mul_emod_left _ _) (by rw [ep]; omega) hy0 (by rw [ep]; exact hy) (by omega)
  have hsw : bits .or .u64 y (c * 2 ^ (7 * i)) = bits .or .u64 (c * 2 ^ (7 * i)) y := by
    show IntKind.u64.wrap _ = IntKind.u64.wrap _
    rw [BitVec.or_comm]
  rw [hsw, hj, ep, ec]
  omega
end Go.Proofs.Ytegbidklcaccjaa
