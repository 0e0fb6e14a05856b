/- Plain laws on dividing: one digit of a quotient by trying, two words by one. No program is in sight here. -/
import Derived.Below
namespace Go.Proofs.Ytalaffabcnccgaa

/-- The digit that is sought. -/
def digQ (u x y : Nat) : Nat := (u * 4294967296 + x) / y
theorem digQ_lt {u x y : Nat} (hu : u < y) (hx : x < 4294967296) : digQ u x y < 4294967296 := by
  refine (Nat.div_lt_iff_lt_mul (by omega)).2 ?_
  have : (u + 1) * 4294967296 ≤ y * 4294967296 := Nat.mul_le_mul_right _ hu
  rw [Nat.mul_comm 4294967296 y]
  omega
theorem dig_split (q y : Nat) : q * y = q * (y / 4294967296) * 4294967296 + q * (y % 4294967296) := by
  conv => lhs; rw [← Nat.div_add_mod y 4294967296]
  rw [Nat.mul_add, Nat.mul_left_comm, Nat.mul_comm 4294967296]
/-- What the search holds to. -/
structure Seek (u x y q r : Nat) : Prop where
  sum : q * (y / 4294967296) + r = u
  ge : digQ u x y ≤ q
  le : q ≤ 4294967297
theorem seek_lt {u x y q r : Nat} (hy : 0 < y) (h : q * (y / 4294967296) + r = u) : digQ u x y < q ↔ r * 4294967296 + x < q * (y % 4294967296) := by
  unfold digQ
  rw [Nat.div_lt_iff_lt_mul hy, dig_split q y, ← h, Nat.add_mul]
  omega
theorem seek_start {u x y : Nat} (hu : u < y) (hx : x < 4294967296) (hy : 9223372036854775808 ≤ y) (hy2 : y < 18446744073709551616) :
    Seek u x y (u / (y / 4294967296)) (u % (y / 4294967296)) ∧ u % (y / 4294967296) < 4294967296 := by
  have h1 : 2147483648 ≤ y / 4294967296 := by omega
  have h2 := Nat.div_add_mod u (y / 4294967296)
  have h3 := Nat.mod_lt u (show 0 < y / 4294967296 by omega)
  have h4 : u / (y / 4294967296) * (y / 4294967296) + u % (y / 4294967296) = u := by rw [Nat.mul_comm]; exact h2
  refine ⟨⟨h4, ?_, ?_⟩, by omega⟩
  · refine (Nat.le_div_iff_mul_le (by omega)).2 ?_
    have h5 : digQ u x y * y ≤ u * 4294967296 + x := Nat.div_mul_le_self _ _
    rw [dig_split] at h5
    omega
  · have h5 : u / (y / 4294967296) < 4294967298 := by
      refine (Nat.div_lt_iff_lt_mul (by omega)).2 ?_
      have h6 := Nat.div_add_mod y 4294967296
      omega
    omega
theorem seek_down {u x y q r : Nat} (hu : u < y) (hx : x < 4294967296) (h : Seek u x y q r) (hc : 4294967296 ≤ q ∨ r * 4294967296 + x < q * (y % 4294967296)) :
    0 < q ∧ Seek u x y (q - 1) (r + y / 4294967296) := by
  have h1 := digQ_lt hu hx
  have h2 : digQ u x y < q := by
    rcases hc with h3 | h3
    · omega
    · exact (seek_lt (by omega) h.sum).2 h3
  obtain ⟨p, rfl⟩ : ∃ p, q = p + 1 := ⟨q - 1, by omega⟩
  refine ⟨by omega, ?_, by omega, by have := h.le; omega⟩
  have := h.sum
  rw [Nat.add_mul, Nat.one_mul] at this
  rw [Nat.add_sub_cancel]
  omega
theorem seek_end {u x y q r : Nat} (hu : u < y) (h : Seek u x y q r) (hc : ¬ r * 4294967296 + x < q * (y % 4294967296)) : q = digQ u x y := by
  have h1 := h.ge
  have h2 : ¬ digQ u x y < q := fun h3 => hc ((seek_lt (by omega) h.sum).1 h3)
  omega
theorem seek_break {u x y q r : Nat} (hu : u < y) (h : Seek u x y q r) (hq : q ≤ 4294967296) (hr : 4294967296 ≤ r) : q = digQ u x y := by
  refine seek_end hu h fun h1 => ?_
  have h2 := Nat.mul_le_mul hq (Nat.le_of_lt (Nat.mod_lt y (show 0 < 4294967296 by decide)))
  omega
theorem digQ_rest {u x y : Nat} (hy : 0 < y) : u * 4294967296 + x = digQ u x y * y + (u * 4294967296 + x) % y ∧ (u * 4294967296 + x) % y < y := by
  refine ⟨?_, Nat.mod_lt _ hy⟩
  have := Nat.div_add_mod (u * 4294967296 + x) y
  rw [Nat.mul_comm] at this
  exact this.symm
theorem two_aux {q0 q1 r1 r2 Y B x0 x1 u U : Nat} (h1 : u * B + x1 = q1 * Y + r1) (h3 : r1 * B + x0 = q0 * Y + r2) (hU : U = (u * B + x1) * B + x0) : r2 + Y * (q1 * B + q0) = U := by
  rw [hU, h1, Nat.add_mul, Nat.add_assoc, h3, Nat.mul_add, Nat.mul_comm q0 Y, Nat.mul_comm q1 Y, Nat.mul_assoc]
  omega
/-- Two digits are the quotient. -/
theorem two_digits {U Y u1 x1 x0 : Nat} (hY : 0 < Y) (hU : U = (u1 * 4294967296 + x1) * 4294967296 + x0) :
    digQ u1 x1 Y * 4294967296 + digQ ((u1 * 4294967296 + x1) % Y) x0 Y = U / Y ∧ ((u1 * 4294967296 + x1) % Y * 4294967296 + x0) % Y = U % Y := by
  obtain ⟨h1, h2⟩ := digQ_rest (u := u1) (x := x1) hY
  obtain ⟨h3, h4⟩ := digQ_rest (u := (u1 * 4294967296 + x1) % Y) (x := x0) hY
  have h5 : ((u1 * 4294967296 + x1) % Y * 4294967296 + x0) % Y + Y * (digQ u1 x1 Y * 4294967296 + digQ ((u1 * 4294967296 + x1) % Y) x0 Y) = U := two_aux h1 h3 hU
  have h6 := (Nat.div_mod_unique hY).2 ⟨h5, h4⟩
  exact ⟨h6.1.symm, h6.2.symm⟩
theorem scaled {N y s : Nat} : N * 2 ^ s / (y * 2 ^ s) = N / y ∧ N * 2 ^ s % (y * 2 ^ s) / 2 ^ s = N % y := by
  have hp := Nat.two_pow_pos s
  exact ⟨Nat.mul_div_mul_right _ _ hp, by rw [Nat.mul_mod_mul_right, Nat.mul_div_cancel _ hp]⟩
end Go.Proofs.Ytalaffabcnccgaa
