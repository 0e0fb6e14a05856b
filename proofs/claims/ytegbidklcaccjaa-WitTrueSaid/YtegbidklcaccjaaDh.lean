/- Package dijk: a walk that costs least. -/
import Derived.Test.YtegbidklcaccjaaDc
namespace Go.Proofs.Ytegbidklcaccjaa
open Go.RowKit
open R (In64 InU64 lo64 nth)
theorem nth_rev {L : List Int} {q : Nat} (h : q < L.length) : nth L.reverse q = nth L (L.length - 1 - q) := by
  rw [R.nth_eq (by rw [List.length_reverse]; exact h), R.nth_eq (by omega), List.getElem_reverse]
section
variable {F : List Nat} {W w : World} {l : List R.Res} {A : Option Addr} {n c : Nat} {L : List Int}
theorem reverse_own (hM : R.Own F W w (.row A n c 3 1 (L.flatMap R.cI) :: l)) (hn : n = L.length) (hb : n ≤ 1000000) : Calls Try.prog 66 #[.slice A n c] w fun e w' => e = .returned (.tuple #[]) ∧ R.Own F W w' (.row A n c 3 1 (L.reverse.flatMap R.cI) :: l) := by
  rcases Nat.eq_zero_or_pos n with h0 | h0
  · have hL : L = [] := List.eq_nil_of_length_eq_zero (by omega)
    subst hL
    subst h0
    refine R.calls_of_WC (fn := Try.f66) Try.func66 rfl Try.ntmps66 (Nat.le_of_ble_eq_true rfl) ?_
    (refine R.stepH ?_; (repeat' (first | (with_reducible refine And.intro ?_ ?_) | (with_reducible intro _))); all_goals refine R.Lft.mk ?_)
    refine R.WC_loop (fun i : Unit => [(0, .slice A 0 c), (2, .int .i64 0), (3, .int .i64 (-1))])
      (fun i w1 => R.Own F W w1 (.row A 0 c 3 1 [] :: l)) (fun i => 0) ⟨(), ⟨rfl, rfl, rfl, trivial⟩, hM⟩ ?_
    clear hM
    rintro _ f w1 hM
    (refine R.stepH ?_; (repeat' (first | (with_reducible refine And.intro ?_ ?_) | (with_reducible intro _))); all_goals refine R.Lft.mk ?_)
    exact ⟨rfl, hM⟩
  obtain ⟨ga, cur, rfl, _⟩ := row_form (R.Own.ok hM _ (.head _)) h0
  refine R.calls_of_WC (fn := Try.f66) Try.func66 rfl Try.ntmps66 (Nat.le_of_ble_eq_true rfl) ?_
  (refine R.stepH ?_; (repeat' (first | (with_reducible refine And.intro ?_ ?_) | (with_reducible intro _))); all_goals refine R.Lft.mk ?_)
  refine R.WC_loop (fun i : Nat × List Int => [(0, .slice (some ⟨ga, 0, none⟩) n c), (2, .int .i64 (i.1 : Nat)), (3, .int .i64 ((n : Int) - 1 - (i.1 : Nat)))])
    (fun i w1 => i.1 ≤ n ∧ i.2.length = n ∧ (∀ q, q < n → nth i.2 q = if q < i.1 ∨ n - 1 - q < i.1 then nth L (n - 1 - q) else nth L q) ∧ R.Own F W w1 (.row (some ⟨ga, 0, none⟩) n c 3 1 (i.2.flatMap R.cI) :: l)) (fun i => n - i.1)
    ⟨(0, L), ⟨rfl, rfl, R.viaI rfl (by dsimp only; omega), trivial⟩, Nat.zero_le _, hn.symm, fun q hq => by rw [if_neg (by dsimp only; omega)], hM⟩ ?_
  clear hM
  rintro ⟨i, M⟩ f w1 ⟨hi, hMl, hall, hM⟩
  dsimp only at hi hMl hall hM ⊢
  by_cases hlt : (i : Int) < (n : Int) - 1 - (i : Nat)
  · have e1 : ((n : Int) - 1 - (i : Nat)).toNat = n - 1 - i := by omega
    (refine R.stepH ?_; (repeat' (first | (with_reducible refine And.intro ?_ ?_) | (with_reducible intro _))); all_goals refine R.Lft.mk ?_)
    (refine R.WC_planK 0 [(0, false), (1, false), (2, false), (3, false), (4, false), (5, false), (6, false), (7, false), (8, false), (9, false), (10, false), (11, false), (12, false), (13, true), (14, false), (15, true)] R.mixed (by decide +kernel) R.ohm ?_; simp only [List.take_zero])
    (refine R.stepH ?_; (repeat' (first | (with_reducible refine And.intro ?_ ?_) | (with_reducible intro _))); all_goals refine R.Lft.mk ?_)
    rename_i hM
    rw [e1] at hM
    refine ⟨(i + 1, (M.set i (nth M (n - 1 - i))).set (n - 1 - i) (nth M i)), ⟨rfl, R.viaI rfl (by dsimp only; omega), R.viaI rfl (by dsimp only; omega), trivial⟩, ⟨by dsimp only; omega, by dsimp only; rw [List.length_set, List.length_set]; exact hMl, fun q hq => ?_, hM⟩, by dsimp only; omega⟩
    dsimp only
    rw [nth_put (by rw [List.length_set]; omega), nth_put (by omega)]
    have h1 := hall i (by omega)
    have h2 := hall (n - 1 - i) (by omega)
    rw [if_neg (by omega)] at h1 h2
    by_cases c1 : n - 1 - i = q
    · rw [if_pos c1, h1, if_pos (by omega)]
      congr 1
      omega
    · rw [if_neg c1]
      by_cases c2 : i = q
      · rw [if_pos c2, h2, if_pos (by omega)]
        congr 1
        omega
      · rw [if_neg c2, hall q hq]
        by_cases c3 : q < i ∨ n - 1 - q < i
        · rw [if_pos c3, if_pos (by omega)]
        · rw [if_neg c3, if_neg (by omega)]
  · have hr : M = L.reverse := by
      refine List.ext_getElem (by rw [List.length_reverse]; omega) fun q h1 h2 => ?_
      rw [← R.nth_eq h1, ← R.nth_eq h2, nth_rev (by omega), hall q (by omega), hn]
      split
      · rfl
      · congr 1
        omega
    rw [hr] at hM
    (refine R.stepH ?_; (repeat' (first | (with_reducible refine And.intro ?_ ?_) | (with_reducible intro _))); all_goals refine R.Lft.mk ?_)
    exact ⟨rfl, hM⟩
end
end Go.Proofs.Ytegbidklcaccjaa
