/- Package closed: searching, closing at the end; the laws' own example. -/
import Derived.Test.YtmmfndmfibbhcaaClosed
namespace Go.Proofs.Ytmmfndmfibbhcaa
open Go.ChangeShapes Go.WideShapes Go.ChangeAt Go.RowKit
open R (In64 InU64 lo64 nth)

theorem nanc_int (a : Int) (w : World) : Calls Try.prog 131 #[.int .i64 a] w fun e w' => e = .returned (.bool false) ∧ w = w' := by
  refine R.calls_of_WC (fn := Try.f131) Try.func131 rfl Try.ntmps131 (Nat.le_of_ble_eq_true rfl) ?_
  (refine R.step ?_; (repeat' (first | (with_reducible refine And.intro ?_ ?_) | (with_reducible intro _))); all_goals refine R.Lft.mk ?_)
  exact ⟨by simp, rfl⟩
theorem nans_int (a : Int) (w : World) : Calls Try.prog 116 #[.int .i64 a] w fun e w' => e = .returned (.bool false) ∧ w = w' := by
  refine R.calls_of_WC (fn := Try.f116) Try.func116 rfl Try.ntmps116 (Nat.le_of_ble_eq_true rfl) ?_
  (refine R.step ?_; (repeat' (first | (with_reducible refine And.intro ?_ ?_) | (with_reducible intro _))); all_goals refine R.Lft.mk ?_)
  exact ⟨by simp, rfl⟩
instance con_nanc (a : Int) : R.ConP Try.prog 131 #[.int .i64 a] Unit (fun _ _ => True) (fun _ => .bool false) := ⟨fun _ w _ => nanc_int a w⟩
instance con_nans (a : Int) : R.ConP Try.prog 116 #[.int .i64 a] Unit (fun _ _ => True) (fun _ => .bool false) := ⟨fun _ w _ => nans_int a w⟩
theorem less_int (a b : Int) (w : World) : Calls Try.prog 115 #[.int .i64 a, .int .i64 b] w fun e w' => e = .returned (.bool (decide (a < b))) ∧ w = w' := by
  refine R.calls_of_WC (fn := Try.f115) Try.func115 rfl Try.ntmps115 (Nat.le_of_ble_eq_true rfl) ?_
  (refine R.step ?_; (repeat' (first | (with_reducible refine And.intro ?_ ?_) | (with_reducible intro _))); all_goals refine R.Lft.mk ?_)
  exact ⟨rfl, rfl⟩
instance con_less (a b : Int) : R.ConP Try.prog 115 #[.int .i64 a, .int .i64 b] Unit (fun _ _ => True) (fun _ => .bool (decide (a < b))) := ⟨fun _ w _ => less_int a b w⟩
/-- Where a number belongs. -/
def posOf (L : List Int) (t : Int) : Nat := (L.filter fun x => decide (x < t)).length
theorem posOf_at {L : List Int} {t : Int} {i : Nat} (hi : i ≤ L.length) (h1 : ∀ j, j < i → nth L j < t) (h2 : ∀ j, i ≤ j → j < L.length → t ≤ nth L j) : posOf L t = i := by
  unfold posOf
  have e : L = L.take i ++ L.drop i := (List.take_append_drop i L).symm
  rw [e, List.filter_append, List.filter_eq_self.2, List.filter_eq_nil_iff.2]
  · simp; omega
  · intro x hx
    obtain ⟨j, hj, rfl⟩ := List.getElem_of_mem hx
    rw [List.length_drop] at hj
    have := h2 (i + j) (by omega) (by omega)
    rw [R.nth_eq (by omega)] at this
    simp
    omega
  · intro x hx
    obtain ⟨j, hj, rfl⟩ := List.getElem_of_mem hx
    rw [List.length_take] at hj
    have := h1 j (by omega)
    rw [R.nth_eq (by omega)] at this
    simp
    omega
theorem sorted_lt {L : List Int} (h : L.Pairwise (· < ·)) {i j : Nat} (hij : i < j) (hj : j < L.length) : nth L i < nth L j := by
  rw [R.nth_eq hj, R.nth_eq (by omega)]
  exact List.pairwise_iff_getElem.1 h i j (by omega) hj hij
theorem sorted_le {L : List Int} (h : L.Pairwise (· < ·)) {i j : Nat} (hij : i ≤ j) (hj : j < L.length) : nth L i ≤ nth L j := by
  rcases Nat.eq_or_lt_of_le hij with h1 | h1
  · rw [h1]; exact Int.le_refl _
  · exact Int.le_of_lt (sorted_lt h h1 hj)
set_option maxHeartbeats 1000000 in
theorem search_int (A : Option Addr) (n c : Nat) (L : List Int) (t : Int) (w : World) (hA : R.Inp [] w A n 1 (L.flatMap R.cI)) (hn : n = L.length) (hb : n ≤ 1000000000) (hs : L.Pairwise (· < ·)) :
    Calls Try.prog 87 #[.slice A n c, .int .i64 t] w fun e w' => e = .returned (.tuple #[.int .i64 (posOf L t : Nat), .bool (decide (t ∈ L))]) ∧ w = w' := by
  have hM := R.Own.start [] w
  refine R.calls_of_WC (fn := Try.f87) Try.func87 rfl Try.ntmps87 (Nat.le_of_ble_eq_true rfl) ?_
  (refine R.step ?_; (repeat' (first | (with_reducible refine And.intro ?_ ?_) | (with_reducible intro _))); all_goals refine R.Lft.mk ?_)
  refine R.WC_loop (fun (i : Nat × Nat) => [(0, .slice A n c), (1, .int .i64 t), (4, .int .i64 0), (5, .bool false), (6, .int .i64 (n : Nat)), (7, .int .i64 (i.1 : Nat)), (8, .int .i64 (i.2 : Nat))])
    (fun i w1 => i.1 ≤ i.2 ∧ i.2 ≤ n ∧ w = w1 ∧ (∀ j, j < i.1 → nth L j < t) ∧ (∀ j, i.2 ≤ j → j < L.length → t ≤ nth L j)) (fun i => i.2 - i.1)
    ⟨(0, n), ⟨rfl, rfl, rfl, rfl, rfl, rfl, rfl, trivial⟩, by simp, by simp, rfl, by simp, by intro j h1 h2; simp at h1; omega⟩ ?_
  rintro ⟨i, j⟩ f w1 ⟨hij, hj, rfl, h1, h2⟩
  simp only at hij hj h1 h2 ⊢
  by_cases hlt : i < j
  · obtain ⟨h, hh⟩ : ∃ h : Nat, ((i : Int) + j) / 2 = h := ⟨(i + j) / 2, by omega⟩
    have hh1 : i ≤ h := by omega
    have hh2 : h < j := by omega
    have hth : ((h : Nat) : Int).toNat = h := Int.toNat_natCast h
    (refine R.step ?_; (repeat' (first | (with_reducible refine And.intro ?_ ?_) | (with_reducible intro _))); all_goals refine R.Lft.mk ?_)
    · rename_i hx
      rw [hh, hth] at hx
      exact ⟨(h + 1, j), ⟨rfl, rfl, rfl, rfl, rfl, R.viaI rfl (by simp only; omega), rfl, trivial⟩, ⟨by simp only; omega, hj, rfl, fun q hq => Int.lt_of_le_of_lt (sorted_le hs (by simp only at hq; omega) (by omega)) hx, h2⟩, by simp only; omega⟩
    · rename_i hx
      rw [hh, hth] at hx
      exact ⟨(i, h), ⟨rfl, rfl, rfl, rfl, rfl, rfl, R.viaI rfl (by simp only; omega), trivial⟩, ⟨by simp only; omega, by simp only; omega, rfl, h1, fun q hq hq2 => Int.le_trans (Int.not_lt.1 hx) (sorted_le hs hq hq2)⟩, by simp only; omega⟩
  · obtain rfl : i = j := by omega
    have hp := posOf_at (t := t) (by omega : i ≤ L.length) h1 h2
    have hmem : t ∈ L ↔ i < n ∧ nth L i = t := by
      constructor
      · intro hm
        obtain ⟨q, hq, hqt⟩ := List.getElem_of_mem hm
        rw [← R.nth_eq hq] at hqt
        have c1 : ¬ q < i := fun hqi => by have := h1 q hqi; omega
        have c2 : ¬ i < q := fun hqi => by
          have := sorted_lt hs hqi hq
          have := h2 i (Nat.le_refl _) (by omega)
          omega
        obtain rfl : q = i := by omega
        exact ⟨by omega, hqt⟩
      · rintro ⟨hi, hit⟩
        rw [← hit]
        exact R.nth_mem (by omega)
    rw [hp]
    by_cases hin : i < n
    · by_cases hit : nth L i = t
      · rw [decide_eq_true (hmem.2 ⟨hin, hit⟩)]
        (refine R.step ?_; (repeat' (first | (with_reducible refine And.intro ?_ ?_) | (with_reducible intro _))); all_goals refine R.Lft.mk ?_)
        exact ⟨rfl, rfl⟩
      · rw [decide_eq_false (fun hm => hit (hmem.1 hm).2)]
        (refine R.step ?_; (repeat' (first | (with_reducible refine And.intro ?_ ?_) | (with_reducible intro _))); all_goals refine R.Lft.mk ?_)
        exact ⟨rfl, rfl⟩
    · rw [decide_eq_false (fun hm => hin (hmem.1 hm).1)]
      (refine R.step ?_; (repeat' (first | (with_reducible refine And.intro ?_ ?_) | (with_reducible intro _))); all_goals refine R.Lft.mk ?_)
      exact ⟨rfl, rfl⟩
theorem clone_nil (w : World) : Calls Try.prog 89 #[.slice none 0 0] w fun e w' => e = .returned (.slice none 0 0) ∧ w = w' := by
  refine R.calls_of_WC (fn := Try.f89) Try.func89 rfl Try.ntmps89 (Nat.le_of_ble_eq_true rfl) ?_
  (refine R.step ?_; (repeat' (first | (with_reducible refine And.intro ?_ ?_) | (with_reducible intro _))); all_goals refine R.Lft.mk ?_)
  exact ⟨rfl, rfl⟩
/-- A copy; of nothing: nothing, or an empty row. -/
theorem clone_int (A : Option Addr) (n c : Nat) (L : List Int) (w : World) (hA : R.Inp [] w A n 1 (L.flatMap R.cI)) (hn : n = L.length) (hb : n ≤ 1000000000) :
    Calls Try.prog 89 #[.slice A n c] w fun e w' => ∃ A' c', e = .returned (.slice A' n c') ∧ R.Gives w w' A' n c' 3 1 (L.flatMap R.cI) := by
  have hM := R.Own.start [] w
  cases hA0 : A with
  | none =>
    subst hA0
    have hn0 : n = 0 := by
      rcases Nat.eq_zero_or_pos n with h | h
      · exact h
      · obtain ⟨a, ha⟩ := (hM.rdIn hA).some_ h (by omega)
        cases ha
    subst hn0
    have hL : L = [] := List.eq_nil_of_length_eq_zero hn.symm
    subst hL
    refine R.calls_of_WC (fn := Try.f89) Try.func89 rfl Try.ntmps89 (Nat.le_of_ble_eq_true rfl) ?_
    (refine R.step ?_; (repeat' (first | (with_reducible refine And.intro ?_ ?_) | (with_reducible intro _))); all_goals refine R.Lft.mk ?_)
    exact ⟨none, 0, rfl, (hM.nil _ _).gives⟩
  | some a =>
    subst hA0
    refine R.calls_of_WC (fn := Try.f89) Try.func89 rfl Try.ntmps89 (Nat.le_of_ble_eq_true rfl) ?_
    (refine R.step ?_; (repeat' (first | (with_reducible refine And.intro ?_ ?_) | (with_reducible intro _))); all_goals refine R.Lft.mk ?_)
    rename_i A1 c1 w1 hM1 A2 c2 w2 hM2
    exact ⟨A2, c2, by rw [Nat.zero_add], by simpa using hM2.gives⟩
/-- A number is laid at the end. -/
theorem insert_end (A B : Option Addr) (n c d : Nat) (L : List Int) (x : Int) (w : World) (hb : n ≤ 1000000) (hn : n = L.length) (F : List Nat) (W0 : World) (l : List R.Res) (hM : R.Own F W0 w (.row B 1 d 3 1 [.int .i64 x] :: .row A n c 3 1 (L.flatMap R.cI) :: l)) :
    Calls Try.prog 88 #[.slice A n c, .int .i64 (n : Nat), .slice B 1 d] w fun e w' => ∃ A' c', e = .returned (.slice A' (n + 1) c') ∧ R.Own F W0 w' (.row A' (n + 1) c' 3 1 ((L ++ [x]).flatMap R.cI) :: l) := by
  refine R.calls_of_WC (fn := Try.f88) Try.func88 rfl Try.ntmps88 (Nat.le_of_ble_eq_true rfl) ?_
  (refine R.step ?_; (repeat' (first | (with_reducible refine And.intro ?_ ?_) | (with_reducible intro _))); all_goals refine R.Lft.mk ?_)
  rename_i A1 c1 w1 hM1
  exact ⟨A1, c1, rfl, hM1⟩
theorem close_empty (w : World) : Calls Try.prog 50 #[.slice none 0 0, .int .i64 5, .int .i64 3] w fun e w' => ∃ A' c', e = .returned (.tuple #[.slice A' 1 c', .int .i64 0]) ∧ R.Gives w w' A' 1 c' 3 1 ([3].flatMap R.cI) := by
  have hM := R.Own.start [] w
  have hI : R.Inp [] w none 0 1 (([] : List Int).flatMap R.cI) := R.Inp.nil _ _ _ _
  have hok : okSet [] 5 := by decide
  refine R.calls_of_WC (fn := Try.f50) Try.func50 rfl Try.ntmps50 (Nat.le_of_ble_eq_true rfl) ?_
  (refine R.step ?_; (repeat' (first | (with_reducible refine And.intro ?_ ?_) | (with_reducible intro _))); all_goals refine R.Lft.mk ?_)
  refine R.WO_call2 rfl rfl R.vv R.vv ?_
  refine (check_any none 0 0 [] 5 _ hI rfl (by omega)).mono ?_
  rintro e w' ⟨rfl, rfl⟩
  refine ⟨_, rfl, ?_⟩
  rw [if_pos hok]
  (refine R.step ?_; (repeat' (first | (with_reducible refine And.intro ?_ ?_) | (with_reducible intro _))); all_goals refine R.Lft.mk ?_)
  refine R.WO_call2 rfl rfl R.vv R.vv ?_
  refine (search_int none 0 0 [] 3 _ hI rfl (by omega) hok.2.2.2).mono ?_
  rintro e w' ⟨rfl, rfl⟩
  refine ⟨_, rfl, ?_⟩
  rw [decide_eq_false (by simp : (3 : Int) ∉ [])]
  (refine R.step ?_; (repeat' (first | (with_reducible refine And.intro ?_ ?_) | (with_reducible intro _))); all_goals refine R.Lft.mk ?_)
  refine R.WO_call1 rfl rfl R.vv ?_
  refine (clone_nil _).mono ?_
  rintro e w' ⟨rfl, rfl⟩
  refine ⟨_, rfl, ?_⟩
  (refine R.step ?_; (repeat' (first | (with_reducible refine And.intro ?_ ?_) | (with_reducible intro _))); all_goals refine R.Lft.mk ?_)
  rename_i B d w1 hM1
  refine R.WO_call3 rfl rfl R.vv R.vv R.vv ?_
  refine (insert_end none B 0 0 d [] 3 _ (by omega) rfl [] w [] (hM1.nil _ _).swap).mono ?_
  rintro e w2 ⟨A1, c1, rfl, hM2⟩
  refine ⟨_, rfl, ?_⟩
  (refine R.step ?_; (repeat' (first | (with_reducible refine And.intro ?_ ?_) | (with_reducible intro _))); all_goals refine R.Lft.mk ?_)
  exact ⟨A1, c1, rfl, hM2.gives⟩
theorem awake28 (w : World) : Calls Try.prog 49 #[] w fun e w' => e = .returned (.bool true) ∧ Below w.heap.size w w' := by
  have hM := R.Own.start [] w
  refine R.calls_of_WC (fn := Try.f49) Try.func49 rfl Try.ntmps49 (Nat.le_of_ble_eq_true rfl) ?_
  (refine R.step ?_; (repeat' (first | (with_reducible refine And.intro ?_ ?_) | (with_reducible intro _))); all_goals refine R.Lft.mk ?_)
  refine R.WO_call3 rfl rfl R.vv R.vv R.vv ?_
  refine (close_empty _).mono ?_
  rintro e w1 ⟨A1, c1, rfl, hG⟩
  have hM := hM.give hG
  refine ⟨_, rfl, ?_⟩
  (refine R.step ?_; (repeat' (first | (with_reducible refine And.intro ?_ ?_) | (with_reducible intro _))); all_goals refine R.Lft.mk ?_)
  rename_i B d w2 hM
  refine R.WO_call2 rfl rfl R.vv R.vv ?_
  have e27 : ([2, 7] : List Int).flatMap R.cI = [.int .i64 2, .int .i64 7] := rfl
  have hI2 : R.Inp [] w2 B 2 1 (([2, 7] : List Int).flatMap R.cI) := by rw [e27]; exact hM.inp R.memb
  refine (hit_any A1 B 1 c1 2 d [3] [2, 7] _ (hM.inp R.memb) rfl (by omega) hI2 rfl (by omega) (by simp)).mono ?_
  rintro e w3 ⟨rfl, hb⟩
  have hM := hM.call hb
  refine ⟨_, rfl, ?_⟩
  rw [show ixOf (hits [3]) [2, 7] = 1 by decide]
  (refine R.step ?_; (repeat' (first | (with_reducible refine And.intro ?_ ?_) | (with_reducible intro _))); all_goals refine R.Lft.mk ?_)
  exact ⟨rfl, hM.below⟩
end Go.Proofs.Ytmmfndmfibbhcaa
