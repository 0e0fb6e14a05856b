/- The document's Add and Drop of roads. -/
import Derived.Test.YtmmfndmfibbhcaaRo
namespace Go.Proofs.Ytmmfndmfibbhcaa
open Go.RowKit
open R (In64 InU64 lo64 nth)
theorem filter_take {L : List Road} {p : Road → Bool} {k : Nat} (hk : k < L.length) : (L.take (k + 1)).filter p = (L.take k).filter p ++ (if p (nth L k) = true then [nth L k] else []) := by
  rw [take_snoc hk, List.filter_append]
  congr 1
  by_cases h : p (nth L k) = true
  · rw [if_pos h, List.filter_cons_of_pos h]; rfl
  · rw [if_neg h, List.filter_cons_of_neg h]; rfl
section
variable (A : Option Addr) (n c : Nat) (L : List Road) (t : Int) (w : World) (hA : R.Inp [] w A n 4 (L.flatMap cRoad)) (hn : n = L.length) (hb : n ≤ 100000) (hG : ∀ x ∈ L, GRoad w x) (hs : ∀ x ∈ L, x.p.n ≤ 1000000000 ∧ x.q.n ≤ 1000000000)
include hA hn hb hG hs
set_option maxHeartbeats 4000000 in
theorem drop11_any : Calls Try.prog 69 #[.slice A n c, .int .i64 t] w fun e w' => ∃ A1 c1 M, M = (if errDrop L t = 0 then dropL L t else []) ∧ e = .returned (.tuple #[.slice A1 M.length c1, .int .i64 (errDrop L t)]) ∧ R.Gives w w' A1 M.length c1 101 4 (M.flatMap cRoad) := by
  have hM := R.Own.start [] w
  refine R.calls_of_WC (fn := Try.f69) Try.func69 rfl Try.ntmps69 (Nat.le_of_ble_eq_true rfl) ?_
  (refine R.stepH ?_; (repeat' (first | (with_reducible refine And.intro ?_ ?_) | (with_reducible intro _))); all_goals refine R.Lft.mk ?_)
  refine R.WO_call1 rfl rfl R.vv ?_
  refine (all11_any A n c L _ (R.Own.inpIn R.ohm hA) hn (by omega) (fun z hz => GRoad.now R.ohm (hG z hz)) fun z hz => (hs z hz).2).mono ?_
  rintro _ w3 ⟨rfl, hb3⟩
  have hM := R.Own.call R.ohm hb3
  refine ⟨_, rfl, ?_⟩
  by_cases h1 : errAll L ≠ 0
  · have ha : errDrop L t = errAll L := by unfold errDrop; rw [if_pos h1]
    rw [ha]
    (refine R.stepH ?_; (repeat' (first | (with_reducible refine And.intro ?_ ?_) | (with_reducible intro _))); all_goals refine R.Lft.mk ?_)
    refine R.WO_call1 rfl rfl R.vv ?_
    refine (all11_any A n c L _ (R.Own.inpIn R.ohm hA) hn (by omega) (fun z hz => GRoad.now R.ohm (hG z hz)) fun z hz => (hs z hz).2).mono ?_
    rintro _ w4 ⟨rfl, hb4⟩
    have hM := R.Own.call R.ohm hb4
    refine ⟨_, rfl, ?_⟩
    (refine R.stepH ?_; (repeat' (first | (with_reducible refine And.intro ?_ ?_) | (with_reducible intro _))); all_goals refine R.Lft.mk ?_)
    exact ⟨none, 0, [], by rw [if_neg h1], rfl, (R.Own.nil R.ohm _ _).gives⟩
  have h1 := Decidable.not_not.1 h1
  obtain ⟨h200, hall, hr, h400⟩ := errAll_ok h1
  rw [h1]
  (refine R.stepH ?_; (repeat' (first | (with_reducible refine And.intro ?_ ?_) | (with_reducible intro _))); all_goals refine R.Lft.mk ?_)
  rename_i A0 c0 w4 hM
  refine R.WC_loop (fun s : Nat × Option Addr × Nat × List Road => [(0, .slice A n c), (1, .int .i64 t), (4, .slice none 0 0), (5, .int .i64 0), (6, .slice s.2.1 s.2.2.2.length s.2.2.1), (7, .int .i64 (s.1 : Nat))])
    (fun s w1 => s.1 ≤ n ∧ s.2.2.2 = (L.take s.1).filter (fun z => decide (z.rank ≠ t)) ∧ R.Own [] w w1 [.row s.2.1 s.2.2.2.length s.2.2.1 101 4 (s.2.2.2.flatMap cRoad)]) (fun s => n - s.1) ⟨(0, A0, c0, []), ⟨rfl, rfl, rfl, rfl, rfl, rfl, trivial⟩, Nat.zero_le _, rfl, hM⟩ ?_
  clear hM
  rintro ⟨k, A1, c1, M⟩ f w5 ⟨hk, hMe, hM⟩
  dsimp only at hk hMe hM ⊢
  have hMl : M.length ≤ k := by
    rw [hMe]
    exact Nat.le_trans (List.length_filter_le _ _) (by rw [List.length_take]; omega)
  by_cases hlt : k < n
  · have hft := filter_take (L := L) (p := fun z => decide (z.rank ≠ t)) (k := k) (by omega)
    by_cases hne : (nth L k).rank ≠ t
    · rw [if_pos (by simpa using hne), ← hMe] at hft
      (refine R.stepH ?_; (repeat' (first | (with_reducible refine And.intro ?_ ?_) | (with_reducible intro _))); all_goals refine R.Lft.mk ?_)
      rename_i A2 c2 _ hM
      exact ⟨(k + 1, A2, c2, M ++ [nth L k]), ⟨rfl, rfl, rfl, rfl, R.viaS rfl (by dsimp only; rw [List.length_append]; rfl), R.viaI rfl (by dsimp only; omega), trivial⟩, ⟨by dsimp only; omega, hft.symm, by dsimp only; rw [List.length_append]; exact hM⟩, by dsimp only; omega⟩
    · rw [if_neg (by simpa using hne), List.append_nil, ← hMe] at hft
      (refine R.stepH ?_; (repeat' (first | (with_reducible refine And.intro ?_ ?_) | (with_reducible intro _))); all_goals refine R.Lft.mk ?_)
      exact ⟨(k + 1, A1, c1, M), ⟨rfl, rfl, rfl, rfl, rfl, R.viaI rfl (by dsimp only; omega), trivial⟩, ⟨by dsimp only; omega, hft.symm, R.ohm⟩, by dsimp only; omega⟩
  have hMe : M = dropL L t := by rw [hMe, List.take_of_length_le (by omega)]; rfl
  by_cases h3 : t ∈ ids L
  · have ha : errDrop L t = 0 := by unfold errDrop; rw [if_neg (by omega), if_pos h3]
    obtain ⟨p1, p2, p3⟩ := del_pos (ids_sorted hr) h3
    have hlen : M.length ≠ L.length := by
      rw [hMe, ← p2, List.length_append, List.length_take, List.length_drop]
      omega
    rw [ha]
    (refine R.stepH ?_; (repeat' (first | (with_reducible refine And.intro ?_ ?_) | (with_reducible intro _))); all_goals refine R.Lft.mk ?_)
    exact ⟨A1, c1, M, by rw [if_pos rfl]; exact hMe, rfl, (R.ohm : R.Own [] w _ [.row A1 M.length c1 101 4 (M.flatMap cRoad)]).gives⟩
  · have ha : errDrop L t = 3 := by unfold errDrop; rw [if_neg (by omega), if_neg h3]
    have hlen : M.length = L.length := by
      rw [hMe]
      unfold dropL
      rw [List.filter_eq_self.2]
      intro z hz
      have : z.rank ≠ t := fun e => h3 (by rw [← e]; exact List.mem_map_of_mem hz)
      simpa using this
    rw [ha]
    (refine R.stepH ?_; (repeat' (first | (with_reducible refine And.intro ?_ ?_) | (with_reducible intro _))); all_goals refine R.Lft.mk ?_)
    exact ⟨none, 0, [], by rw [if_neg (by decide)], rfl, (R.Own.nil (R.Own.nul R.ohm) _ _).gives⟩
end
def preR (L : List Road) (t : Int) (k : Nat) : List Road := (L.take k).filter fun z => decide (z.rank < t)
def sufR (L : List Road) (t : Int) (k : Nat) : List Road := (L.take k).filter fun z => decide (t < z.rank)
theorem pre_lt {L : List Road} {t : Int} {k : Nat} (hk : k < L.length) (h : (nth L k).rank < t) : preR L t (k + 1) = preR L t k ++ [nth L k] ∧ sufR L t (k + 1) = sufR L t k := by
  unfold preR sufR
  rw [filter_take hk, filter_take hk, if_pos (by simpa using h), if_neg (by simp; omega), List.append_nil]
  exact ⟨rfl, rfl⟩
theorem pre_gt {L : List Road} {t : Int} {k : Nat} (hk : k < L.length) (h : t < (nth L k).rank) : preR L t (k + 1) = preR L t k ∧ sufR L t (k + 1) = sufR L t k ++ [nth L k] := by
  unfold preR sufR
  rw [filter_take hk, filter_take hk, if_neg (by simp; omega), if_pos (by simpa using h), List.append_nil]
  exact ⟨rfl, rfl⟩
def mvR (L : List Road) (x : Road) (k : Nat) (d : Bool) : List Road := if d = true then preR L x.rank k ++ x :: sufR L x.rank k else preR L x.rank k
theorem suf_nil {L : List Road} {t : Int} {k : Nat} (hk : k ≤ L.length) (h : ∀ j, j < k → (nth L j).rank < t) : sufR L t k = [] := by
  induction k with
  | zero => rfl
  | succ k ih => rw [(pre_lt (by omega) (h k (Nat.lt_succ_self k))).2, ih (by omega) fun j hj => h j (by omega)]
theorem pre_len (L : List Road) (t : Int) (k : Nat) : (preR L t k).length + (sufR L t k).length ≤ k := by
  induction k with
  | zero => exact Nat.le_refl _
  | succ k ih =>
    by_cases hk : k < L.length
    · rcases Int.lt_trichotomy (nth L k).rank t with h | h | h
      · rw [(pre_lt hk h).1, (pre_lt hk h).2, List.length_append, List.length_singleton]
        omega
      · unfold preR sufR at ih ⊢
        rw [filter_take hk, filter_take hk, if_neg (by simp; omega), if_neg (by simp; omega), List.append_nil, List.append_nil]
        omega
      · rw [(pre_gt hk h).1, (pre_gt hk h).2, List.length_append, List.length_singleton]
        omega
    · unfold preR sufR at ih ⊢
      rw [List.take_of_length_le (by omega)] at ih ⊢
      omega
section
variable (A : Option Addr) (n c : Nat) (L : List Road) (x : Road) (w : World) (hA : R.Inp [] w A n 4 (L.flatMap cRoad)) (hn : n = L.length) (hb : n ≤ 100000) (hG : ∀ x ∈ L, GRoad w x) (hx : GRoad w x) (hs : ∀ x ∈ L, x.p.n ≤ 1000000000 ∧ x.q.n ≤ 1000000000) (hsx : x.q.n ≤ 1000000000)
include hA hn hb hG hx hs hsx
set_option maxHeartbeats 4000000 in
theorem add11_any : Calls Try.prog 68 #[.slice A n c, .agg (cRoad x).toArray] w fun e w' => ∃ A1 c1 M, M = (if errAdd L x = 0 then insR L x else []) ∧ e = .returned (.tuple #[.slice A1 M.length c1, .int .i64 (errAdd L x)]) ∧ R.Gives w w' A1 M.length c1 101 4 (M.flatMap cRoad) := by
  have hM := R.Own.start [] w
  refine R.calls_of_WC (fn := Try.f68) Try.func68 rfl Try.ntmps68 (Nat.le_of_ble_eq_true rfl) ?_
  (refine R.stepH ?_; (repeat' (first | (with_reducible refine And.intro ?_ ?_) | (with_reducible intro _))); all_goals refine R.Lft.mk ?_)
  refine R.WO_call1 rfl rfl R.vv ?_
  refine (all11_any A n c L _ (R.Own.inpIn R.ohm hA) hn (by omega) (fun z hz => GRoad.now R.ohm (hG z hz)) fun z hz => (hs z hz).2).mono ?_
  rintro _ w3 ⟨rfl, hb3⟩
  have hM := R.Own.call R.ohm hb3
  refine ⟨_, rfl, ?_⟩
  by_cases h1 : errAll L ≠ 0
  · have ha : errAdd L x = errAll L := by unfold errAdd; rw [if_pos h1]
    rw [ha]
    (refine R.stepH ?_; (repeat' (first | (with_reducible refine And.intro ?_ ?_) | (with_reducible intro _))); all_goals refine R.Lft.mk ?_)
    refine R.WO_call1 rfl rfl R.vv ?_
    refine (all11_any A n c L _ (R.Own.inpIn R.ohm hA) hn (by omega) (fun z hz => GRoad.now R.ohm (hG z hz)) fun z hz => (hs z hz).2).mono ?_
    rintro _ w4 ⟨rfl, hb4⟩
    have hM := R.Own.call R.ohm hb4
    refine ⟨_, rfl, ?_⟩
    (refine R.stepH ?_; (repeat' (first | (with_reducible refine And.intro ?_ ?_) | (with_reducible intro _))); all_goals refine R.Lft.mk ?_)
    exact ⟨none, 0, [], by rw [if_neg h1], rfl, (R.Own.nil (R.Own.nul R.ohm) _ _).gives⟩
  have hne1 := h1
  have h1 := Decidable.not_not.1 h1
  obtain ⟨h200, hall, hr, h400⟩ := errAll_ok h1
  rw [h1]
  (refine R.stepH ?_; (repeat' (first | (with_reducible refine And.intro ?_ ?_) | (with_reducible intro _))); all_goals refine R.Lft.mk ?_)
  refine R.WO_call1 rfl rfl R.vv ?_
  refine (rcheck11_any x _ (GRoad.now R.ohm hx) hsx).mono ?_
  rintro _ w4 ⟨rfl, hb4⟩
  have hM := R.Own.call R.ohm hb4
  refine ⟨_, rfl, ?_⟩
  by_cases h2 : errR x ≠ 0
  · have ha : errAdd L x = errR x := by unfold errAdd; rw [if_neg hne1, if_pos h2]
    rw [ha]
    (refine R.stepH ?_; (repeat' (first | (with_reducible refine And.intro ?_ ?_) | (with_reducible intro _))); all_goals refine R.Lft.mk ?_)
    refine R.WO_call1 rfl rfl R.vv ?_
    refine (rcheck11_any x _ (GRoad.now R.ohm hx) hsx).mono ?_
    rintro _ w5 ⟨rfl, hb5⟩
    have hM := R.Own.call R.ohm hb5
    refine ⟨_, rfl, ?_⟩
    (refine R.stepH ?_; (repeat' (first | (with_reducible refine And.intro ?_ ?_) | (with_reducible intro _))); all_goals refine R.Lft.mk ?_)
    exact ⟨none, 0, [], by rw [if_neg h2], rfl, (R.Own.nil (R.Own.nul R.ohm) _ _).gives⟩
  have hne2 := h2
  have h2 := Decidable.not_not.1 h2
  rw [h2]
  (refine R.stepH ?_; (repeat' (first | (with_reducible refine And.intro ?_ ?_) | (with_reducible intro _))); all_goals refine R.Lft.mk ?_)
  rename_i bx _ _ _ _ _ A0 c0 w5 hM
  refine R.WC_loop (fun s : Nat × Option Addr × Nat × Bool => [(0, .slice A n c), (3, .pointer (some ⟨bx, 0, none⟩)), (4, .slice none 0 0), (5, .int .i64 0), (6, .slice s.2.1 (mvR L x s.1 s.2.2.2).length s.2.2.1), (7, .bool s.2.2.2), (8, .int .i64 (s.1 : Nat))])
    (fun s w1 => s.1 ≤ n ∧ (∀ j, j < s.1 → (nth L j).rank ≠ x.rank) ∧ (s.2.2.2 = false → ∀ j, j < s.1 → (nth L j).rank < x.rank) ∧ (s.2.2.2 = true → ∃ j, j < s.1 ∧ x.rank < (nth L j).rank) ∧ R.Own [] w w1 [.row s.2.1 (mvR L x s.1 s.2.2.2).length s.2.2.1 101 4 ((mvR L x s.1 s.2.2.2).flatMap cRoad), .blk bx 101 (cRoad x)]) (fun s => n - s.1)
    ⟨(0, A0, c0, false), ⟨rfl, rfl, rfl, rfl, rfl, rfl, rfl, trivial⟩, Nat.zero_le _, fun j hj => absurd hj (Nat.not_lt_zero _), fun _ j hj => absurd hj (Nat.not_lt_zero _), fun h => (by cases h), hM⟩ ?_
  clear hM
  rintro ⟨k, A1, c1, d⟩ f w6 ⟨hk, hnq, hd0, hd1, hM⟩
  dsimp only at hk hnq hd0 hd1 hM ⊢
  have hpl := pre_len L x.rank k
  by_cases hlt : k < n
  · by_cases heq : (nth L k).rank = x.rank
    · have ha : errAdd L x = 7 := by
        unfold errAdd
        rw [if_neg hne1, if_neg hne2, if_pos (by rw [← heq]; exact List.mem_map_of_mem (R.nth_mem (by omega)))]
      rw [ha]
      (refine R.stepH ?_; (repeat' (first | (with_reducible refine And.intro ?_ ?_) | (with_reducible intro _))); all_goals refine R.Lft.mk ?_)
      exact ⟨none, 0, [], by rw [if_neg (by decide)], rfl, (R.Own.nil (R.Own.nul R.ohm) _ _).gives⟩
    have hnq' : ∀ j, j < k + 1 → (nth L j).rank ≠ x.rank := fun j hj => by
      rcases Nat.lt_succ_iff_lt_or_eq.1 hj with h | rfl
      · exact hnq j h
      · exact heq
    cases d
    · have hs0 := suf_nil (t := x.rank) (by omega : k ≤ L.length) (hd0 rfl)
      have hmf : mvR L x k false = preR L x.rank k := rfl
      rw [hmf] at hM ⊢
      by_cases hgt : x.rank < (nth L k).rank
      · obtain ⟨p1, p2⟩ := pre_gt (by omega : k < L.length) hgt
        have hm2 : mvR L x (k + 1) true = preR L x.rank k ++ [x] ++ [nth L k] := by
          unfold mvR
          rw [if_pos rfl, p1, p2, hs0]
          simp
        (refine R.stepH ?_; (repeat' (first | (with_reducible refine And.intro ?_ ?_) | (with_reducible intro _))); all_goals refine R.Lft.mk ?_)
        rename_i A2 c2 _ hM
        exact ⟨(k + 1, A2, c2, true), ⟨rfl, rfl, rfl, rfl, R.viaS rfl (by dsimp only; rw [hm2]; simp), rfl, R.viaI rfl (by dsimp only; omega), trivial⟩, ⟨by dsimp only; omega, hnq', fun h => (by cases h), fun _ => ⟨k, Nat.lt_succ_self k, hgt⟩, by dsimp only; rw [hm2, List.length_append, List.length_append]; exact hM⟩, by dsimp only; omega⟩
      · obtain ⟨p1, p2⟩ := pre_lt (by omega : k < L.length) (by omega : (nth L k).rank < x.rank)
        have hm2 : mvR L x (k + 1) false = preR L x.rank k ++ [nth L k] := p1
        (refine R.stepH ?_; (repeat' (first | (with_reducible refine And.intro ?_ ?_) | (with_reducible intro _))); all_goals refine R.Lft.mk ?_)
        rename_i A2 c2 _ hM
        refine ⟨(k + 1, A2, c2, false), ⟨rfl, rfl, rfl, rfl, R.viaS rfl (by dsimp only; rw [hm2]; simp), rfl, R.viaI rfl (by dsimp only; omega), trivial⟩, ⟨by dsimp only; omega, hnq', fun _ j hj => ?_, fun h => (by cases h), by dsimp only; rw [hm2, List.length_append]; exact hM⟩, by dsimp only; omega⟩
        rcases Nat.lt_succ_iff_lt_or_eq.1 hj with h | rfl
        · exact hd0 rfl j h
        · omega
    · obtain ⟨j0, hj0, hj1⟩ := hd1 rfl
      have hgt : x.rank < (nth L k).rank := Int.lt_trans hj1 (rises_lt hr hj0 (by omega))
      obtain ⟨p1, p2⟩ := pre_gt (by omega : k < L.length) hgt
      have hm2 : mvR L x (k + 1) true = mvR L x k true ++ [nth L k] := by
        unfold mvR
        rw [if_pos rfl, if_pos rfl, p1, p2]
        simp
      have hml : (mvR L x k true).length ≤ k + 1 := by
        unfold mvR
        rw [if_pos rfl, List.length_append, List.length_cons]
        omega
      (refine R.stepH ?_; (repeat' (first | (with_reducible refine And.intro ?_ ?_) | (with_reducible intro _))); all_goals refine R.Lft.mk ?_)
      rename_i A2 c2 _ hM
      exact ⟨(k + 1, A2, c2, true), ⟨rfl, rfl, rfl, rfl, R.viaS rfl (by dsimp only; rw [hm2]; simp), rfl, R.viaI rfl (by dsimp only; omega), trivial⟩, ⟨by dsimp only; omega, hnq', fun h => (by cases h), fun _ => ⟨j0, by omega, hj1⟩, by dsimp only; rw [hm2, List.length_append]; exact hM⟩, by dsimp only; omega⟩
  have hni : x.rank ∉ ids L := fun hm => by
    obtain ⟨z, hz, he⟩ := List.mem_map.1 hm
    obtain ⟨j, hj, rfl⟩ := mem_nthR hz
    exact hnq j (by omega) he
  have ha : errAdd L x = errAll (insR L x) := by unfold errAdd; rw [if_neg hne1, if_neg hne2, if_neg hni]
  have hpe : preR L x.rank k = L.filter (fun z => decide (z.rank < x.rank)) := by unfold preR; rw [List.take_of_length_le (by omega)]
  have hse : sufR L x.rank k = L.filter (fun z => decide (x.rank < z.rank)) := by unfold sufR; rw [List.take_of_length_le (by omega)]
  have hil := insR_len hr hni
  have hGI : ∀ z ∈ insR L x, GRoad w z := fun z hz => by
    rcases insR_mem hz with rfl | h
    · exact hx
    · exact hG z h
  have hsI : ∀ z ∈ insR L x, z.q.n ≤ 1000000000 := fun z hz => by
    rcases insR_mem hz with rfl | h
    · exact hsx
    · exact (hs z h).2
  cases d
  · have hs0 := suf_nil (t := x.rank) (by omega : k ≤ L.length) (hd0 rfl)
    have hmf : mvR L x k false = preR L x.rank k := rfl
    have hmi : preR L x.rank k ++ [x] = insR L x := by
      unfold insR
      rw [← hpe, ← hse, hs0]
    have hml : (preR L x.rank k).length + 1 = (insR L x).length := by rw [← hmi, List.length_append]; rfl
    rw [hmf] at hM ⊢
    (refine R.stepH ?_; (repeat' (first | (with_reducible refine And.intro ?_ ?_) | (with_reducible intro _))); all_goals refine R.Lft.mk ?_)
    rename_i A2 c2 w7 hM
    rw [hmi, hml] at hM
    rw [hml]
    have hGI2 : ∀ z ∈ insR L x, GRoad w7 z := fun z hz => GRoad.now hM (hGI z hz)
    refine R.WO_call1 rfl rfl R.vv ?_
    refine (all11_any A2 (insR L x).length c2 (insR L x) w7 (R.Own.inp hM (.head _)) rfl (by omega) hGI2 hsI).mono ?_
    rintro _ w8 ⟨rfl, hb8⟩
    have hM := R.Own.call hM hb8
    refine ⟨_, rfl, ?_⟩
    rw [ha]
    by_cases h4 : errAll (insR L x) ≠ 0
    · (refine R.stepH ?_; (repeat' (first | (with_reducible refine And.intro ?_ ?_) | (with_reducible intro _))); all_goals refine R.Lft.mk ?_)
      refine R.WO_call1 rfl rfl R.vv ?_
      refine (all11_any A2 (insR L x).length c2 (insR L x) _ (R.Own.inp R.ohm (.head _)) rfl (by omega) (fun z hz => GRoad.now R.ohm (hGI z hz)) hsI).mono ?_
      rintro _ w9 ⟨rfl, hb9⟩
      have hM := R.Own.call R.ohm hb9
      refine ⟨_, rfl, ?_⟩
      (refine R.stepH ?_; (repeat' (first | (with_reducible refine And.intro ?_ ?_) | (with_reducible intro _))); all_goals refine R.Lft.mk ?_)
      exact ⟨none, 0, [], by rw [if_neg h4], rfl, (R.Own.nil (R.Own.nul R.ohm) _ _).gives⟩
    have h4 := Decidable.not_not.1 h4
    rw [h4]
    (refine R.stepH ?_; (repeat' (first | (with_reducible refine And.intro ?_ ?_) | (with_reducible intro _))); all_goals refine R.Lft.mk ?_)
    exact ⟨A2, c2, insR L x, by rw [if_pos rfl], rfl, R.Own.gives (R.Own.sub R.ohm (List.Sublist.cons_cons _ (List.nil_sublist _)))⟩
  · have hmi : mvR L x k true = insR L x := by
      unfold insR mvR
      rw [if_pos rfl, ← hpe, ← hse]
    rw [hmi] at hM ⊢
    (refine R.stepH ?_; (repeat' (first | (with_reducible refine And.intro ?_ ?_) | (with_reducible intro _))); all_goals refine R.Lft.mk ?_)
    have hGI2 : ∀ z ∈ insR L x, GRoad w6 z := fun z hz => GRoad.now hM (hGI z hz)
    refine R.WO_call1 rfl rfl R.vv ?_
    refine (all11_any A1 (insR L x).length c1 (insR L x) w6 (R.Own.inp hM (.head _)) rfl (by omega) hGI2 hsI).mono ?_
    rintro _ w8 ⟨rfl, hb8⟩
    have hM := R.Own.call hM hb8
    refine ⟨_, rfl, ?_⟩
    rw [ha]
    by_cases h4 : errAll (insR L x) ≠ 0
    · (refine R.stepH ?_; (repeat' (first | (with_reducible refine And.intro ?_ ?_) | (with_reducible intro _))); all_goals refine R.Lft.mk ?_)
      refine R.WO_call1 rfl rfl R.vv ?_
      refine (all11_any A1 (insR L x).length c1 (insR L x) _ (R.Own.inp R.ohm (.head _)) rfl (by omega) (fun z hz => GRoad.now R.ohm (hGI z hz)) hsI).mono ?_
      rintro _ w9 ⟨rfl, hb9⟩
      have hM := R.Own.call R.ohm hb9
      refine ⟨_, rfl, ?_⟩
      (refine R.stepH ?_; (repeat' (first | (with_reducible refine And.intro ?_ ?_) | (with_reducible intro _))); all_goals refine R.Lft.mk ?_)
      exact ⟨none, 0, [], by rw [if_neg h4], rfl, (R.Own.nil (R.Own.nul R.ohm) _ _).gives⟩
    have h4 := Decidable.not_not.1 h4
    rw [h4]
    (refine R.stepH ?_; (repeat' (first | (with_reducible refine And.intro ?_ ?_) | (with_reducible intro _))); all_goals refine R.Lft.mk ?_)
    exact ⟨A1, c1, insR L x, by rw [if_pos rfl], rfl, R.Own.gives (R.Own.sub R.ohm (List.Sublist.cons_cons _ (List.nil_sublist _)))⟩
end
end Go.Proofs.Ytmmfndmfibbhcaa
