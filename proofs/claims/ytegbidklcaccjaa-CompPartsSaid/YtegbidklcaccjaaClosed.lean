/- Package closed, without closing: what may be a set, which ways it closes, where a path hits one. -/
import Derived.Test.YtegbidklcaccjaaOpnB
import Derived.Test.YtegbidklcaccjaaFrame
namespace Go.Proofs.Ytegbidklcaccjaa
open Go.ChangeShapes Go.WideShapes Go.ChangeAt Go.RowKit
open R (In64 InU64 lo64 nth)

section
variable (A : Option Addr) (n c : Nat) (L : List Int) (e : Int) (w : World) (hA : R.Inp [] w A n 1 (L.flatMap R.cI)) (hn : n = L.length) (hb : n ≤ 1000000000)
include hA hn hb
end
/-- The numbers are a set of so many. -/
def okSet (L : List Int) (many : Int) : Prop := 0 ≤ many ∧ many ≤ 2000 ∧ (∀ x ∈ L, 0 ≤ x ∧ x < many) ∧ L.Pairwise (· < ·)
instance (L : List Int) (many : Int) : Decidable (okSet L many) := by unfold okSet; infer_instance
def prev (L : List Int) (k : Nat) : Int := if k = 0 then -1 else nth L (k - 1)
theorem prev_succ (L : List Int) (k : Nat) : prev L (k + 1) = nth L k := rfl
theorem pw_snoc {L : List Int} {k : Nat} (hk : k < L.length) (h : (L.take k).Pairwise (· < ·)) (hl : ∀ x ∈ L.take k, x ≤ prev L k) (hp : prev L k < nth L k) : (L.take (k + 1)).Pairwise (· < ·) ∧ ∀ x ∈ L.take (k + 1), x ≤ nth L k := by
  rw [take_snoc hk]
  refine ⟨List.pairwise_append.2 ⟨h, List.pairwise_singleton _ _, fun a ha b hb => ?_⟩, fun x hx => ?_⟩
  · simp at hb; subst hb
    have := hl a ha
    omega
  · rcases List.mem_append.1 hx with h1 | h1
    · have := hl x h1; omega
    · simp at h1; omega
theorem not_pw {L : List Int} {k : Nat} (hk : k < L.length) (h0 : 0 < k) (h : nth L k ≤ nth L (k - 1)) : ¬ L.Pairwise (· < ·) := fun hp => by
  have h1 := List.pairwise_iff_getElem.1 hp (k - 1) k (by omega) hk (by omega)
  rw [R.nth_eq hk, R.nth_eq (by omega : k - 1 < L.length)] at h
  omega
section
variable (A : Option Addr) (n c : Nat) (L : List Int) (many : Int) (w : World) (hA : R.Inp [] w A n 1 (L.flatMap R.cI)) (hn : n = L.length) (hb : n ≤ 1000000000)
include hA hn hb
end
/-- What a path hits. -/
def hits (L : List Int) (x : Int) : Bool := decide (0 ≤ x) && decide (x / 2 ∈ L)
/-- Which ways are closed. -/
def waysOf (L : List Int) (many : Int) : List Bool := (List.range (2 * many.toNat)).map fun k => decide ((k / 2 : Nat) ∈ L.map Int.toNat)
theorem ways_set (L : List Int) (many : Int) (k : Nat) (hk : k < L.length) (h : ∀ x ∈ L, 0 ≤ x ∧ x < many) : (((waysOf (L.take k) many).set (2 * (nth L k)).toNat true).set (2 * (nth L k) + 1).toNat true) = waysOf (L.take (k + 1)) many := by
  obtain ⟨h0, h1⟩ := h _ (R.nth_mem hk)
  refine List.ext_getElem (by simp [waysOf]) fun j hj1 hj2 => ?_
  simp only [waysOf, List.length_map, List.length_range] at hj2
  simp only [waysOf, List.getElem_set, List.getElem_map, List.getElem_range]
  rw [take_snoc hk]
  simp only [List.map_append, List.map_cons, List.map_nil, List.mem_append, List.mem_singleton]
  by_cases a1 : (2 * nth L k + 1).toNat = j
  · rw [if_pos a1]; symm; rw [decide_eq_true_eq]; right; omega
  · rw [if_neg a1]
    by_cases a2 : (2 * nth L k).toNat = j
    · rw [if_pos a2]; symm; rw [decide_eq_true_eq]; right; omega
    · rw [if_neg a2, decide_eq_decide]
      constructor
      · exact fun h => .inl h
      · rintro (h | h)
        · exact h
        · omega
end Go.Proofs.Ytegbidklcaccjaa
