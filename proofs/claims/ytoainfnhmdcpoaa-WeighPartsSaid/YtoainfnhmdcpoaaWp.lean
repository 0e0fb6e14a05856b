/- Chapter 14: the plain law. -/
import Derived.Test.YtoainfnhmdcpoaaWe
namespace Go.Proofs.Ytoainfnhmdcpoaa
open Go.RowKit
open R (In64 InU64 lo64 nth)

/-- Cuts' parts that may be. -/
def cutP (L : List P2) (i : Nat) : Prop := okP (nth L i) = true ∧ (0 < i → fallsB (nth L (i - 1)) (nth L i) = false)
def cutsP (L : List P2) : Prop := 2 ≤ L.length ∧ L.length ≤ 2000 ∧ (∀ i, i < L.length → cutP L i) ∧ (nth L 0).a = 0 ∧ (nth L (L.length - 1)).a = (nth L (L.length - 1)).b
noncomputable def cutsB (L : List P2) : Bool := @decide (cutsP L) (Classical.propDecidable _)
theorem cutsB_t {L : List P2} (h : cutsP L) : cutsB L = true := @decide_eq_true _ (Classical.propDecidable _) h
theorem cutsB_f {L : List P2} (h : ¬ cutsP L) : cutsB L = false := @decide_eq_false _ (Classical.propDecidable _) h
theorem cutsB_of {L : List P2} (h : cutsB L = true) : cutsP L := @of_decide_eq_true _ (Classical.propDecidable _) h
/-- The weight up to a cut; a piece's. -/
def uptoW (v : Int) (p : P2) : Int := v * p.a / p.b
def pieceW (v : Int) (L : List P2) (i : Nat) : Int := uptoW v (nth L (i + 1)) - uptoW v (nth L i)
def piecesW (v : Int) (L : List P2) : List Int := (List.range (L.length - 1)).map (pieceW v L)
theorem okW_of {v : Int} (h : okW v = true) : 0 ≤ v ∧ v ≤ 2147483648 := by
  unfold okW at h
  rw [Bool.and_eq_true] at h
  exact ⟨of_decide_eq_true h.1, of_decide_eq_true h.2⟩
theorem upto_in {v : Int} {p : P2} (hv : 0 ≤ v) (h : okP p = true) : 0 ≤ uptoW v p ∧ uptoW v p ≤ v := by
  obtain ⟨h1, h2, h3⟩ := okP_of h
  exact ⟨Int.ediv_nonneg (Int.mul_nonneg hv h2) (by omega), Int.ediv_le_of_le_mul (by omega) (Int.mul_le_mul_of_nonneg_left h3 hv)⟩
theorem upto_mono {v : Int} {p q : P2} (hv : 0 ≤ v) (hp : okP p = true) (hq : okP q = true) (h : fallsB p q = false) : uptoW v p ≤ uptoW v q := by
  obtain ⟨p1, p2, p3⟩ := okP_of hp
  obtain ⟨q1, q2, q3⟩ := okP_of hq
  have h : ¬ q.a * p.b < p.a * q.b := of_decide_eq_false h
  unfold uptoW
  rw [Int.le_ediv_iff_mul_le (by omega)]
  refine Int.le_of_mul_le_mul_right (a := p.b) ?_ (by omega)
  have e1 : v * p.a / p.b * p.b ≤ v * p.a := Int.ediv_mul_le _ (by omega)
  have e2 := Int.mul_le_mul_of_nonneg_right e1 (show 0 ≤ q.b by omega)
  have e3 := Int.mul_le_mul_of_nonneg_left (Int.not_lt.1 h) hv
  have e4 : v * p.a / p.b * q.b * p.b = v * p.a / p.b * p.b * q.b := Int.mul_right_comm _ _ _
  have e5 : v * p.a * q.b = v * (p.a * q.b) := Int.mul_assoc _ _ _
  have e6 : v * q.a * p.b = v * (q.a * p.b) := Int.mul_assoc _ _ _
  omega
theorem piece_in {v : Int} {L : List P2} (hv : 0 ≤ v) (h : cutsP L) {i : Nat} (hi : i + 1 < L.length) : 0 ≤ pieceW v L i ∧ pieceW v L i ≤ v := by
  have h1 := h.2.2.1 i (by omega)
  have h2 := h.2.2.1 (i + 1) hi
  have h3 := upto_mono hv h1.1 h2.1 (by have := h2.2 (by omega); rwa [Nat.add_sub_cancel] at this)
  have h4 := upto_in hv h1.1
  have h5 := upto_in hv h2.1
  unfold pieceW
  omega
theorem upto_first {v : Int} {L : List P2} (h : cutsP L) : uptoW v (nth L 0) = 0 := by
  unfold uptoW
  rw [h.2.2.2.1, Int.mul_zero, Int.zero_ediv]
theorem upto_last {v : Int} {L : List P2} (h : cutsP L) : uptoW v (nth L (L.length - 1)) = v := by
  have h1 := okP_of (h.2.2.1 (L.length - 1) (by have := h.1; omega)).1
  unfold uptoW
  rw [h.2.2.2.2]
  exact Int.mul_ediv_cancel v (by omega)
theorem sum_snoc (l : List Int) (x : Int) : (l ++ [x]).sum = l.sum + x := by
  rw [List.sum_append]
  simp
theorem pieces_sum {v : Int} {L : List P2} (k : Nat) : ((List.range k).map (pieceW v L)).sum = uptoW v (nth L k) - uptoW v (nth L 0) := by
  induction k with
  | zero => simp
  | succ k ih =>
    rw [List.range_succ, List.map_append, List.map_singleton, sum_snoc, ih]
    unfold pieceW
    omega
/-- Weights together. -/
def joinB (L : List Int) : Bool := decide (L.length ≤ 2000) && L.all okW
def joinS (L : List Int) : Int := if joinB L then L.sum else 0
theorem pieces_join {v : Int} {L : List P2} (hv : okW v = true) (h : cutsP L) : joinB (piecesW v L) = true ∧ joinS (piecesW v L) = v := by
  have hv2 := okW_of hv
  have h1 : joinB (piecesW v L) = true := by
    unfold joinB piecesW
    rw [Bool.and_eq_true]
    refine ⟨decide_eq_true (by rw [List.length_map, List.length_range]; have := h.2.1; omega), ?_⟩
    rw [List.all_eq_true]
    intro x hx
    obtain ⟨i, hi, rfl⟩ := List.mem_map.1 hx
    have := List.mem_range.1 hi
    have := piece_in hv2.1 h (i := i) (by omega)
    unfold okW
    rw [decide_eq_true (by omega), decide_eq_true (by omega)]
    rfl
  refine ⟨h1, ?_⟩
  unfold joinS
  rw [if_pos h1]
  unfold piecesW
  rw [pieces_sum, upto_last h, upto_first h]
  omega
end Go.Proofs.Ytoainfnhmdcpoaa
