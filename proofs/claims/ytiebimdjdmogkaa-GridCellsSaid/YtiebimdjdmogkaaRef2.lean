/- The contracts of snicketref02: numbers as lists of digits of 16 bits. -/
import Derived.Test.YtiebimdjdmogkaaFacts
import Derived.Test.YtiebimdjdmogkaaNum
namespace Go.Proofs.Ytiebimdjdmogkaa
open Go.RowKit
open R (In64 InU64 lo64)

/-- Digits, as cells. -/
def digV (l : List Nat) : List Value := l.map fun d => Value.int .u64 ((d : Nat) : Int)
theorem digV_length (l : List Nat) : (digV l).length = l.length := by simp [digV]
theorem digV_append (a b : List Nat) : digV (a ++ b) = digV a ++ digV b := by simp [digV]
theorem digV_one (l : List Nat) : ∀ u ∈ digV l, u.oneCell' = true := fun u hu => by
  obtain ⟨d, _, rfl⟩ := List.mem_map.1 hu
  rfl
/-- A digit, by its place as the walk spells it. -/
theorem dig_at {w : World} {B : Nat} {A : Option Addr} {l : List Nat} (h : R.Cells w B A (digV l)) {i : Int} (h0 : 0 ≤ i) (h1 : i < l.length) :
    ∃ a, A = some a ∧ w.cell? (a.add (i.toNat * 1)) = some (.int .u64 ((l.getD i.toNat 0 : Nat) : Int)) := by
  have hlt : i.toNat < l.length := by omega
  obtain ⟨a, hA, _, hc⟩ := h.at_ (j := i.toNat) (by rw [digV_length]; exact hlt)
  refine ⟨a, hA, ?_⟩
  rw [Nat.mul_one, hc]
  simp [digV, List.getElem?_eq_getElem hlt]

/-- The number of the first digits behind a place, from the fourth one down. -/
def tw (l : List Nat) (a : Nat) : Nat → Nat
  | 0 => 0
  | m + 1 => tw l a m * 65536 + l.getD (a + (3 - m)) 0
theorem tw_lt {l : List Nat} (hd : Dig l) (a : Nat) : ∀ m, tw l a m < 65536 ^ m
  | 0 => by simp [tw]
  | m + 1 => by
    have := tw_lt hd a m
    have := hd.getD (a + (3 - m))
    simp only [tw, Nat.pow_succ]
    omega
theorem tw_bound {l : List Nat} (hd : Dig l) (a : Nat) {m : Nat} (hm : m < 4) : tw l a m * 65536 + 65535 < 18446744073709551616 := by
  have h := tw_lt hd a m
  have h2 : 65536 ^ m ≤ 65536 ^ 3 := Nat.pow_le_pow_right (by omega) (by omega)
  omega
theorem tw_four {l : List Nat} (hd : Dig l) (a : Nat) : tw l a 4 = dval l / 65536 ^ a % 18446744073709551616 := by
  rw [dval_word hd]
  show ((((0 * 65536 + l.getD (a + 3) 0) * 65536 + l.getD (a + 2) 0) * 65536 + l.getD (a + 1) 0) * 65536 + l.getD (a + 0) 0) = _
  simp only [Nat.add_zero]
  omega

/-- What adding has come to behind i rounds. -/
theorem plus_round {xs ys zs : List Nat} {i k : Nat} (hx : Dig xs) (hy : Dig ys) (hz : Dig zs) (hk : k ≤ 1) (hl : zs.length = i) (h : dval zs + 65536 ^ i * k = dval (xs.take i) + dval (ys.take i)) :
    Dig (zs ++ [(xs.getD i 0 + ys.getD i 0 + k) % 65536]) ∧ (xs.getD i 0 + ys.getD i 0 + k) / 65536 ≤ 1 ∧
    dval (zs ++ [(xs.getD i 0 + ys.getD i 0 + k) % 65536]) + 65536 ^ (i + 1) * ((xs.getD i 0 + ys.getD i 0 + k) / 65536) = dval (xs.take (i + 1)) + dval (ys.take (i + 1)) := by
  have h1 := hx.getD i
  have h2 := hy.getD i
  refine ⟨hz.append (Dig.cons (by omega) Dig.nil), by omega, ?_⟩
  rw [dval_append, dval_take_succ, dval_take_succ, hl]
  have h3 := Nat.div_add_mod (xs.getD i 0 + ys.getD i 0 + k) 65536
  generalize (xs.getD i 0 + ys.getD i 0 + k) / 65536 = q at *
  generalize (xs.getD i 0 + ys.getD i 0 + k) % 65536 = r at *
  simp only [dval, Nat.mul_zero, Nat.add_zero, Nat.pow_succ]
  have h4 : 65536 ^ i * (65536 * q + r) = 65536 ^ i * (xs.getD i 0 + ys.getD i 0 + k) := by rw [h3]
  grind

end Go.Proofs.Ytiebimdjdmogkaa
