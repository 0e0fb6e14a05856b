/- Package roads: the place of an id. -/
import Derived.Test.YtmmfndmfibbhcaaRoads6
import Derived.Test.YtmmfndmfibbhcaaClosed2
namespace Go.Proofs.Ytmmfndmfibbhcaa
open Go.RowKit
open R (In64 InU64 lo64 nth)
def ids (L : List Road) : List Int := L.map Road.rank
theorem ids_len (L : List Road) : (ids L).length = L.length := by simp [ids]
theorem ids_nth {L : List Road} {j : Nat} (hj : j < L.length) : nth (ids L) j = (nth L j).rank := by
  rw [R.nth_eq (by rw [ids_len]; exact hj), R.nth_eq hj]
  simp [ids]
theorem rises_lt {L : List Road} {n : Nat} (h : Rises L n) {i j : Nat} (hij : i < j) (hj : j < n) : (nth L i).rank < (nth L j).rank := by
  induction j with
  | zero => exact absurd hij (Nat.not_lt_zero _)
  | succ j ih =>
    have h1 := h j hj
    rcases Nat.lt_succ_iff_lt_or_eq.1 hij with h2 | rfl
    · exact Int.lt_trans (ih h2 (by omega)) h1
    · exact h1
theorem ids_sorted {L : List Road} (h : Rises L L.length) : (ids L).Pairwise (· < ·) := by
  rw [List.pairwise_iff_getElem]
  intro i j hi hj hij
  rw [ids_len] at hi hj
  rw [← R.nth_eq, ← R.nth_eq, ids_nth hi, ids_nth hj]
  exact rises_lt h hij hj
def cmpI (a b : Int) : Int := if a < b then -1 else if b < a then 1 else 0
instance con_compare (a b : Int) : R.ConP Try.prog 122 #[.int .i64 a, .int .i64 b] Unit (fun _ _ => True) (fun _ => .int .i64 (cmpI a b)) := ⟨fun _ w _ => by
  refine R.calls_of_WC (fn := Try.f122) Try.func122 rfl Try.ntmps122 (Nat.le_of_ble_eq_true rfl) ?_
  (refine R.step ?_; (repeat' (first | (with_reducible refine And.intro ?_ ?_) | (with_reducible intro _))); all_goals refine R.Lft.mk ?_)
  all_goals exact ⟨by simp [cmpI, *], rfl⟩⟩
theorem at1_any (x : Road) (t : Int) (w : World) : Calls Try.prog 121 #[.agg (cRoad x).toArray, .int .i64 t] w fun e w' => e = .returned (.int .i64 (cmpI x.rank t)) ∧ Below w.heap.size w w' := by
  have hM := R.Own.start [] w
  refine R.calls_of_WC (fn := Try.f121) Try.func121 rfl Try.ntmps121 (Nat.le_of_ble_eq_true rfl) ?_
  (refine R.step ?_; (repeat' (first | (with_reducible refine And.intro ?_ ?_) | (with_reducible intro _))); all_goals refine R.Lft.mk ?_; (all_goals (try (exact ⟨rfl, R.Own.below (by assumption)⟩))))
set_option maxHeartbeats 1000000 in
theorem searchR (A : Option Addr) (n c : Nat) (L : List Road) (t : Int) (w : World) (hA : R.Inp [] w A n 4 (L.flatMap cRoad)) (hn : n = L.length) (hb : n ≤ 1000000000) (hr : Rises L L.length) :
    Calls Try.prog 120 #[.slice A n c, .int .i64 t, .func (.func 121) #[] #[]] w fun e w' => e = .returned (.tuple #[.int .i64 (posOf (ids L) t : Nat), .bool (decide (t ∈ ids L))]) ∧ Below w.heap.size w w' := by
  have hM := R.Own.start [] w
  have hs := ids_sorted hr
  have hil := ids_len L
  refine R.calls_of_WC (fn := Try.f120) Try.func120 rfl Try.ntmps120 (Nat.le_of_ble_eq_true rfl) ?_
  (refine R.step ?_; (repeat' (first | (with_reducible refine And.intro ?_ ?_) | (with_reducible intro _))); all_goals refine R.Lft.mk ?_)
  refine R.WC_loop (fun (i : Nat × Nat) => [(0, .slice A n c), (1, .int .i64 t), (2, .func (.func 121) #[] #[]), (6, .int .i64 0), (7, .bool false), (8, .int .i64 (n : Nat)), (9, .int .i64 (i.1 : Nat)), (10, .int .i64 (i.2 : Nat))])
    (fun i w1 => i.1 ≤ i.2 ∧ i.2 ≤ n ∧ R.Own [] w w1 [] ∧ (∀ j, j < i.1 → nth (ids L) j < t) ∧ (∀ j, i.2 ≤ j → j < (ids L).length → t ≤ nth (ids L) j)) (fun i => i.2 - i.1)
    ⟨(0, n), ⟨rfl, rfl, rfl, rfl, rfl, rfl, rfl, rfl, trivial⟩, by simp, by simp, hM, by simp, by intro j h1 h2; simp at h1; omega⟩ ?_
  clear hM
  rintro ⟨i, j⟩ f w1 ⟨hij, hj, hM, h1, h2⟩
  simp only at hij hj hM h1 h2 ⊢
  by_cases hlt : i < j
  · obtain ⟨h, hh⟩ : ∃ h : Nat, ((i : Int) + j) / 2 = h := ⟨(i + j) / 2, by omega⟩
    have hh1 : i ≤ h := by omega
    have hh2 : h < j := by omega
    have hth : ((h : Nat) : Int).toNat = h := Int.toNat_natCast h
    have hid := ids_nth (L := L) (j := h) (by omega)
    (refine R.step ?_; (repeat' (first | (with_reducible refine And.intro ?_ ?_) | (with_reducible intro _))); all_goals refine R.Lft.mk ?_)
    refine R.WO_callc2 rfl rfl R.vv R.vv ?_
    rw [hh, hth]
    refine (at1_any (nth L h) t _).mono ?_
    rintro _ w2 ⟨rfl, hb2⟩
    have hM := R.Own.call R.ohm hb2
    refine ⟨_, rfl, ?_⟩
    (refine R.step ?_; (repeat' (first | (with_reducible refine And.intro ?_ ?_) | (with_reducible intro _))); all_goals refine R.Lft.mk ?_)
    · rename_i hx
      have hx : (nth L h).rank < t := by
        unfold cmpI at hx
        split at hx
        · assumption
        · split at hx <;> omega
      exact ⟨(h + 1, j), ⟨rfl, rfl, rfl, rfl, rfl, rfl, R.viaI rfl (by simp only; omega), rfl, trivial⟩, ⟨by simp only; omega, hj, R.ohm, fun q hq => Int.lt_of_le_of_lt (sorted_le (i := q) (j := h) hs (by simp only at hq; omega) (by omega)) (by rw [hid]; exact hx), h2⟩, by simp only; omega⟩
    · rename_i hx
      have hx : t ≤ (nth L h).rank := by
        unfold cmpI at hx
        split at hx <;> omega
      exact ⟨(i, h), ⟨rfl, rfl, rfl, rfl, rfl, rfl, rfl, R.viaI rfl (by first | rfl | (simp only; omega)), trivial⟩, ⟨by simp only; omega, by simp only; omega, R.ohm, h1, fun q hq hq2 => Int.le_trans (by rw [← hid] at hx; exact hx) (sorted_le hs hq hq2)⟩, by simp only; omega⟩
  · obtain rfl : i = j := by omega
    have hp := posOf_at (t := t) (by omega : i ≤ (ids L).length) h1 h2
    have hmem : t ∈ ids L ↔ i < n ∧ nth (ids L) i = t := by
      constructor
      · intro hm
        obtain ⟨q, hq, hqt⟩ := List.getElem_of_mem hm
        rw [← R.nth_eq hq] at hqt
        have c1 : ¬ q < i := fun hqi => by have := h1 q hqi; omega
        have c2 : ¬ i < q := fun hqi => by
          have := sorted_lt hs hqi hq
          have := h2 i (Nat.le_refl _) (by omega)
          omega
        obtain rfl : q = i := by omega
        exact ⟨by omega, hqt⟩
      · rintro ⟨hi, hit⟩
        rw [← hit]
        exact R.nth_mem (by omega)
    rw [hp]
    by_cases hin : i < n
    · have hid := ids_nth (L := L) (j := i) (by omega)
      rw [hid] at hmem
      (refine R.step ?_; (repeat' (first | (with_reducible refine And.intro ?_ ?_) | (with_reducible intro _))); all_goals refine R.Lft.mk ?_)
      refine R.WO_callc2 rfl rfl R.vv R.vv ?_
      refine (at1_any (nth L i) t _).mono ?_
      rintro _ w2 ⟨rfl, hb2⟩
      have hM := R.Own.call R.ohm hb2
      refine ⟨_, rfl, ?_⟩
      have he : decide (cmpI (nth L i).rank t = 0) = decide (t ∈ ids L) := by
        by_cases hit : (nth L i).rank = t
        · rw [decide_eq_true (hmem.2 ⟨hin, hit⟩)]
          unfold cmpI
          rw [hit, if_neg (by omega), if_neg (by omega)]
          rfl
        · rw [decide_eq_false (fun hm => hit (hmem.1 hm).2)]
          refine decide_eq_false fun hc => ?_
          unfold cmpI at hc
          split at hc
          · cases hc
          · split at hc
            · cases hc
            · omega
      (refine R.step ?_; (repeat' (first | (with_reducible refine And.intro ?_ ?_) | (with_reducible intro _))); all_goals refine R.Lft.mk ?_)
      exact ⟨by rw [he], R.Own.below R.ohm⟩
    · rw [decide_eq_false (fun hm => hin (hmem.1 hm).1)]
      (refine R.step ?_; (repeat' (first | (with_reducible refine And.intro ?_ ?_) | (with_reducible intro _))); all_goals refine R.Lft.mk ?_; (all_goals (try (exact ⟨rfl, R.Own.below (by assumption)⟩))))
theorem at_any (A : Option Addr) (n c : Nat) (L : List Road) (t : Int) (w : World) (hA : R.Inp [] w A n 4 (L.flatMap cRoad)) (hn : n = L.length) (hb : n ≤ 1000000000) (hr : Rises L L.length) :
    Calls Try.prog 95 #[.slice A n c, .int .i64 t] w fun e w' => e = .returned (.tuple #[.int .i64 (posOf (ids L) t : Nat), .bool (decide (t ∈ ids L))]) ∧ Below w.heap.size w w' := by
  have hM := R.Own.start [] w
  refine R.calls_of_WC (fn := Try.f95) Try.func95 rfl Try.ntmps95 (Nat.le_of_ble_eq_true rfl) ?_
  (refine R.step ?_; (repeat' (first | (with_reducible refine And.intro ?_ ?_) | (with_reducible intro _))); all_goals refine R.Lft.mk ?_)
  refine R.WO_call3 rfl rfl R.vv R.vv R.vv ?_
  refine (searchR A n c L t w hA hn hb hr).mono ?_
  rintro _ w2 ⟨rfl, hb2⟩
  have hM := R.Own.call hM hb2
  refine ⟨_, rfl, ?_⟩
  (refine R.step ?_; (repeat' (first | (with_reducible refine And.intro ?_ ?_) | (with_reducible intro _))); all_goals refine R.Lft.mk ?_; (all_goals (try (exact ⟨rfl, R.Own.below (by assumption)⟩))))
/-- A copy; of nothing: nothing, or an empty row. -/
theorem clone_Pt (A : Option Addr) (n c : Nat) (L : List Pt) (w : World) (hA : R.Inp [] w A n 2 (L.flatMap cPt)) (hn : n = L.length) (hb : n ≤ 1000000000) :
    Calls Try.prog 125 #[.slice A n c] w fun e w' => ∃ A' c', e = .returned (.slice A' n c') ∧ R.Gives w w' A' n c' 112 2 (L.flatMap cPt) := by
  have hM := R.Own.start [] w
  cases hA0 : A with
  | none =>
    subst hA0
    have hn0 : n = 0 := by
      rcases Nat.eq_zero_or_pos n with h | h
      · exact h
      · obtain ⟨a, ha⟩ := (hM.rdIn hA).some_ h (by omega)
        cases ha
    subst hn0
    have hL : L = [] := List.eq_nil_of_length_eq_zero hn.symm
    subst hL
    refine R.calls_of_WC (fn := Try.f125) Try.func125 rfl Try.ntmps125 (Nat.le_of_ble_eq_true rfl) ?_
    (refine R.step ?_; (repeat' (first | (with_reducible refine And.intro ?_ ?_) | (with_reducible intro _))); all_goals refine R.Lft.mk ?_)
    exact ⟨none, 0, rfl, (hM.nil _ _).gives⟩
  | some a =>
    subst hA0
    refine R.calls_of_WC (fn := Try.f125) Try.func125 rfl Try.ntmps125 (Nat.le_of_ble_eq_true rfl) ?_
    (refine R.step ?_; (repeat' (first | (with_reducible refine And.intro ?_ ?_) | (with_reducible intro _))); all_goals refine R.Lft.mk ?_)
    rename_i A1 c1 w1 hM1 A2 c2 w2 hM2
    exact ⟨A2, c2, by rw [Nat.zero_add], by simpa using hM2.gives⟩
end Go.Proofs.Ytmmfndmfibbhcaa
