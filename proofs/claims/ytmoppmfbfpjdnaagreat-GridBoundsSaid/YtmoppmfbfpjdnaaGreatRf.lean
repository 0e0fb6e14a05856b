/- Digits of 16 bits as lists; the contracts of snicketref02 for the driver. -/
import Derived.Test.YtmoppmfbfpjdnaaGreatVGo
import Derived.Test.YtmoppmfbfpjdnaaGreatRef2
namespace Go.Proofs.YtmoppmfbfpjdnaaGreat
open Go.RowKit
open R (In64 InU64 lo64 nth)

/-- Each number is a digit of 16 bits. -/
def DigI (L : List Int) : Prop := ∀ x ∈ L, 0 ≤ x ∧ x < 65536
/-- The number of digits. -/
def dv (L : List Int) : Nat := dval (L.map Int.toNat)
def dg (L : List Int) (i : Nat) : Nat := (L.map Int.toNat).getD i 0
theorem DigI.dig {L : List Int} (h : DigI L) : Dig (L.map Int.toNat) := fun x hx => by
  obtain ⟨y, hy, rfl⟩ := List.mem_map.1 hx
  have := h y hy
  omega
theorem DigI.cells {L : List Int} (h : DigI L) : L.flatMap R.cU = digV (L.map Int.toNat) := by
  induction L with
  | nil => rfl
  | cons x L ih =>
    have h1 := (h x (.head _)).1
    rw [List.flatMap_cons, ih fun y hy => h y (.tail _ hy)]
    simp [digV, R.cU, Int.toNat_of_nonneg h1]
theorem DigI.nil : DigI [] := fun _ h => by cases h
theorem DigI.append {a b : List Int} (ha : DigI a) (hb : DigI b) : DigI (a ++ b) := fun x hx => by
  rcases List.mem_append.1 hx with h | h
  · exact ha x h
  · exact hb x h
theorem DigI.one {x : Int} (h0 : 0 ≤ x) (h1 : x < 65536) : DigI [x] := fun y hy => by
  rw [List.mem_singleton.1 hy]; omega
theorem DigI.of_nat {l : List Nat} (h : Dig l) : DigI (l.map Int.ofNat) := fun x hx => by
  obtain ⟨y, hy, rfl⟩ := List.mem_map.1 hx
  have := h y hy
  exact ⟨Int.natCast_nonneg _, by show (y : Int) < _; omega⟩
theorem map_back (l : List Nat) : (l.map Int.ofNat).map Int.toNat = l := by
  rw [List.map_map]
  conv => rhs; rw [← List.map_id l]
  rfl
theorem dv_of_nat (l : List Nat) : dv (l.map Int.ofNat) = dval l := by unfold dv; rw [map_back]
theorem flat_of_nat (l : List Nat) : (l.map Int.ofNat).flatMap R.cU = digV l := by
  induction l with
  | nil => rfl
  | cons x l ih => rw [List.map_cons, List.flatMap_cons, ih]; rfl
theorem dg_lt {L : List Int} (h : DigI L) (i : Nat) : dg L i < 65536 := h.dig.getD i
theorem dg_nth {L : List Int} (h : DigI L) {i : Nat} (hi : i < L.length) : nth L i = (dg L i : Nat) := by
  have h1 := (h _ (R.nth_mem hi)).1
  unfold dg
  rw [List.getD_eq_getElem?_getD, List.getElem?_map, List.getElem?_eq_getElem hi]
  rw [R.nth_eq hi] at h1 ⊢
  simp [Int.toNat_of_nonneg h1]
theorem dg_out {L : List Int} {i : Nat} (hi : L.length ≤ i) : dg L i = 0 := by
  unfold dg
  rw [List.getD_eq_getElem?_getD, List.getElem?_eq_none (by simpa using hi)]
  rfl
theorem inp_cells {F : List Nat} {w : World} {A : Option Addr} {n : Nat} {cs : List Value} (h : R.Inp F w A n 1 cs) : R.Cells w w.heap.size A cs := by
  rcases cs with _ | ⟨v, cs⟩
  · exact R.Cells.nil
  · obtain ⟨a, rfl, h1, _, _⟩ := h.2 0 v rfl
    refine .inr ⟨a, rfl, h1, fun j u hj => ?_⟩
    obtain ⟨b, hb, _, _, h3⟩ := h.2 j u hj
    cases hb
    exact h3
section
variable {F : List Nat} {w : World} {A : Option Addr} {n : Nat} {L : List Int}
theorem dig_cells (h : R.Inp F w A n 1 (L.flatMap R.cU)) (hd : DigI L) : R.Cells w w.heap.size A (digV (L.map Int.toNat)) := by
  rw [← hd.cells]; exact inp_cells h
end
instance con_digit (A : Option Addr) (n c : Nat) (i : Int) : R.ConP Tryz.prog 85 #[.slice A n c, .int .i64 i] (List Int) (fun L w => R.Inp [] w A n 1 (L.flatMap R.cU) ∧ n = L.length ∧ DigI L ∧ 0 ≤ i) (fun L => .int .u64 (dg L i.toNat : Nat)) := ⟨fun L w ⟨h1, h2, h3, h4⟩ => by
  have := digit_any A (L.map Int.toNat) c i _ w (dig_cells h1 h3) h4
  rw [List.length_map, ← h2] at this
  exact this⟩
instance con_word (A : Option Addr) (n c : Nat) (i : Int) : R.ConP Tryz.prog 86 #[.slice A n c, .int .i64 i] (List Int) (fun L w => R.Inp [] w A n 1 (L.flatMap R.cU) ∧ n = L.length ∧ DigI L ∧ 0 ≤ i ∧ i ≤ 1000000) (fun L => .int .u64 (dv L / 65536 ^ i.toNat % 18446744073709551616 : Nat)) := ⟨fun L w ⟨h1, h2, h3, h4, h5⟩ => by
  have := word_any A (L.map Int.toNat) c i _ w (dig_cells h1 h3) h3.dig h4 h5
  rw [List.length_map, ← h2] at this
  exact this⟩
theorem less_i (A B : Option Addr) (n c m d : Nat) (xs ys : List Int) (w : World) (h1 : R.Inp [] w A n 1 (xs.flatMap R.cU)) (h2 : n = xs.length) (h3 : DigI xs) (h4 : n ≤ 1000000) (h5 : R.Inp [] w B m 1 (ys.flatMap R.cU)) (h6 : m = ys.length) (h7 : DigI ys) (h8 : m ≤ 1000000) :
    Calls Tryz.prog 60 #[.slice A n c, .slice B m d] w fun e w' => e = .returned (.bool (decide (dv xs < dv ys))) ∧ w = w' :=
  less_at A B (xs.map Int.toNat) (ys.map Int.toNat) n m c d _ w (by simp [h2]) (by simp [h6]) (dig_cells h1 h3) (dig_cells h5 h7) h3.dig h7.dig (by simp; omega) (by simp; omega)
def dig4I (a : Int) : List Int := (dig4 a.toNat).map Int.ofNat
theorem dig4I_dig {a : Int} (h : InU64 a) : DigI (dig4I a) := DigI.of_nat (dig4_dig (by unfold InU64 at h; omega))
theorem dig4I_dv (a : Int) : dv (dig4I a) = a.toNat := by
  unfold dig4I
  rw [dv_of_nat, dig4_val]
theorem dig4I_len (a : Int) : (dig4I a).length = 4 := rfl
instance con_digits (a : Int) : R.ConR Tryz.prog 57 #[.int .u64 a] Unit (fun _ _ => InU64 a) 42 1 (fun _ => 4) (fun _ => (dig4I a).flatMap R.cU) := ⟨fun _ w h => by
  refine (digits_any a h w).mono ?_
  rintro e w' ⟨A, c, he, ho, hb⟩
  refine ⟨A, c, he, hb, ?_⟩
  unfold dig4I
  rw [flat_of_nat]
  exact ho⟩
theorem plus_i (A B : Option Addr) (n c m d : Nat) (xs ys : List Int) (w : World) (h1 : R.Inp [] w A n 1 (xs.flatMap R.cU)) (h2 : n = xs.length) (h3 : DigI xs) (h4 : n ≤ 1000000) (h5 : R.Inp [] w B m 1 (ys.flatMap R.cU)) (h6 : m = ys.length) (h7 : DigI ys) (h8 : m ≤ 1000000) :
    Calls Tryz.prog 59 #[.slice A n c, .slice B m d] w fun e w' => ∃ A1 c1 n1 zs, e = .returned (.slice A1 n1 c1) ∧ R.Gives w w' A1 n1 c1 42 1 (zs.flatMap R.cU) ∧ n1 = zs.length ∧ DigI zs ∧ dv zs = dv xs + dv ys ∧ n1 ≤ max n m + 1 := by
  refine (plus_at A B (xs.map Int.toNat) (ys.map Int.toNat) n m c d w (by simp [h2]) (by simp [h6]) (dig_cells h1 h3) (dig_cells h5 h7) h3.dig h7.dig (by simp; omega) (by simp; omega)).mono ?_
  rintro e w' ⟨A1, c1, zs, he, ho, hd, hv, hl, hb⟩
  refine ⟨A1, c1, zs.length, zs.map Int.ofNat, he, ⟨hb, ?_⟩, by simp, DigI.of_nat hd, by rw [dv_of_nat]; exact hv, by simp at hl; omega⟩
  rw [flat_of_nat]
  exact ho
end Go.Proofs.YtmoppmfbfpjdnaaGreat
