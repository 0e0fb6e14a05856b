/- Package closed: searching, closing at the end; the laws' own example. -/
import Derived.Test.YtegbidklcaccjaaClosed
namespace Go.Proofs.Ytegbidklcaccjaa
open Go.ChangeShapes Go.WideShapes Go.ChangeAt Go.RowKit
open R (In64 InU64 lo64 nth)

theorem nanc_int (a : Int) (w : World) : Calls Try.prog 108 #[.int .i64 a] w fun e w' => e = .returned (.bool false) ∧ w = w' := by
  refine R.calls_of_WC (fn := Try.f108) Try.func108 rfl Try.ntmps108 (Nat.le_of_ble_eq_true rfl) ?_
  (refine R.step ?_; (repeat' (first | (with_reducible refine And.intro ?_ ?_) | (with_reducible intro _))); all_goals refine R.Lft.mk ?_)
  exact ⟨by simp, rfl⟩
instance con_nanc (a : Int) : R.ConP Try.prog 108 #[.int .i64 a] Unit (fun _ _ => True) (fun _ => .bool false) := ⟨fun _ w _ => nanc_int a w⟩
theorem less_int (a b : Int) (w : World) : Calls Try.prog 102 #[.int .i64 a, .int .i64 b] w fun e w' => e = .returned (.bool (decide (a < b))) ∧ w = w' := by
  refine R.calls_of_WC (fn := Try.f102) Try.func102 rfl Try.ntmps102 (Nat.le_of_ble_eq_true rfl) ?_
  (refine R.step ?_; (repeat' (first | (with_reducible refine And.intro ?_ ?_) | (with_reducible intro _))); all_goals refine R.Lft.mk ?_)
  exact ⟨rfl, rfl⟩
instance con_less (a b : Int) : R.ConP Try.prog 102 #[.int .i64 a, .int .i64 b] Unit (fun _ _ => True) (fun _ => .bool (decide (a < b))) := ⟨fun _ w _ => less_int a b w⟩
/-- Where a number belongs. -/
def posOf (L : List Int) (t : Int) : Nat := (L.filter fun x => decide (x < t)).length
theorem posOf_at {L : List Int} {t : Int} {i : Nat} (hi : i ≤ L.length) (h1 : ∀ j, j < i → nth L j < t) (h2 : ∀ j, i ≤ j → j < L.length → t ≤ nth L j) : posOf L t = i := by
  unfold posOf
  have e : L = L.take i ++ L.drop i := (List.take_append_drop i L).symm
  rw [e, List.filter_append, List.filter_eq_self.2, List.filter_eq_nil_iff.2]
  · simp; omega
  · intro x hx
    obtain ⟨j, hj, rfl⟩ := List.getElem_of_mem hx
    rw [List.length_drop] at hj
    have := h2 (i + j) (by omega) (by omega)
    rw [R.nth_eq (by omega)] at this
    simp
    omega
  · intro x hx
    obtain ⟨j, hj, rfl⟩ := List.getElem_of_mem hx
    rw [List.length_take] at hj
    have := h1 j (by omega)
    rw [R.nth_eq (by omega)] at this
    simp
    omega
theorem sorted_lt {L : List Int} (h : L.Pairwise (· < ·)) {i j : Nat} (hij : i < j) (hj : j < L.length) : nth L i < nth L j := by
  rw [R.nth_eq hj, R.nth_eq (by omega)]
  exact List.pairwise_iff_getElem.1 h i j (by omega) hj hij
theorem sorted_le {L : List Int} (h : L.Pairwise (· < ·)) {i j : Nat} (hij : i ≤ j) (hj : j < L.length) : nth L i ≤ nth L j := by
  rcases Nat.eq_or_lt_of_le hij with h1 | h1
  · rw [h1]; exact Int.le_refl _
  · exact Int.le_of_lt (sorted_lt h h1 hj)
end Go.Proofs.Ytegbidklcaccjaa
