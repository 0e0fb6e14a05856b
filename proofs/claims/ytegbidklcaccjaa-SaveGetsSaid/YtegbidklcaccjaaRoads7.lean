/- Package roads: the place of an id. -/
import Derived.Test.YtegbidklcaccjaaRoads6
import Derived.Test.YtegbidklcaccjaaClosed2
namespace Go.Proofs.Ytegbidklcaccjaa
open Go.RowKit
open R (In64 InU64 lo64 nth)
def ids (L : List Road) : List Int := L.map Road.rank
theorem ids_len (L : List Road) : (ids L).length = L.length := by simp [ids]
theorem ids_nth {L : List Road} {j : Nat} (hj : j < L.length) : nth (ids L) j = (nth L j).rank := by
  rw [R.nth_eq (by rw [ids_len]; exact hj), R.nth_eq hj]
  simp [ids]
theorem rises_lt {L : List Road} {n : Nat} (h : Rises L n) {i j : Nat} (hij : i < j) (hj : j < n) : (nth L i).rank < (nth L j).rank := by
  induction j with
  | zero => exact absurd hij (Nat.not_lt_zero _)
  | succ j ih =>
    have h1 := h j hj
    rcases Nat.lt_succ_iff_lt_or_eq.1 hij with h2 | rfl
    · exact Int.lt_trans (ih h2 (by omega)) h1
    · exact h1
theorem ids_sorted {L : List Road} (h : Rises L L.length) : (ids L).Pairwise (· < ·) := by
  rw [List.pairwise_iff_getElem]
  intro i j hi hj hij
  rw [ids_len] at hi hj
  rw [← R.nth_eq, ← R.nth_eq, ids_nth hi, ids_nth hj]
  exact rises_lt h hij hj
def cmpI (a b : Int) : Int := if a < b then -1 else if b < a then 1 else 0
end Go.Proofs.Ytegbidklcaccjaa
