/- Package roads: a road added. -/
import Derived.Test.YtmmfndmfibbhcaaRi
import Derived.Test.YtmmfndmfibbhcaaRoads9
namespace Go.Proofs.Ytmmfndmfibbhcaa
open Go.RowKit
open R (In64 InU64 lo64 nth)
def insR (L : List Road) (x : Road) : List Road := L.filter (fun z => decide (z.rank < x.rank)) ++ x :: L.filter (fun z => decide (x.rank < z.rank))
theorem cut_pos {L : List Road} {t : Int} (hs : (ids L).Pairwise (· < ·)) (ht : t ∉ ids L) : posOf (ids L) t ≤ L.length ∧ L.take (posOf (ids L) t) = L.filter (fun z => decide (z.rank < t)) ∧ L.drop (posOf (ids L) t) = L.filter (fun z => decide (t < z.rank)) := by
  induction L with
  | nil => exact ⟨Nat.le_refl _, rfl, rfl⟩
  | cons z l ih =>
    have hs2 : (∀ b ∈ ids l, z.rank < b) ∧ (ids l).Pairwise (· < ·) := List.pairwise_cons.1 hs
    have ht2 : t ≠ z.rank ∧ t ∉ ids l := by
      constructor
      · intro h
        exact ht (by rw [h]; exact .head _)
      · intro h
        exact ht (.tail _ h)
    obtain ⟨i1, i2, i3⟩ := ih hs2.2 ht2.2
    by_cases hz : z.rank < t
    · have e1 : posOf (ids (z :: l)) t = posOf (ids l) t + 1 := by
        unfold posOf ids
        rw [List.map_cons, List.filter_cons_of_pos (by simpa using hz), List.length_cons]
      rw [e1]
      refine ⟨by rw [List.length_cons]; omega, ?_, ?_⟩
      · rw [List.take_succ_cons, i2, List.filter_cons_of_pos (by simpa using hz)]
      · rw [List.drop_succ_cons, i3, List.filter_cons_of_neg (by simp; omega)]
    · have hgt : ∀ y ∈ l, t < y.rank := fun y hy => by
        have := hs2.1 y.rank (List.mem_map_of_mem hy)
        omega
      have e0 : posOf (ids (z :: l)) t = 0 := by
        unfold posOf ids
        rw [List.length_eq_zero_iff, List.filter_eq_nil_iff]
        intro a ha
        obtain ⟨y, hy, rfl⟩ := List.mem_map.1 ha
        rcases List.mem_cons.1 hy with rfl | hy
        · simpa using hz
        · have := hgt y hy
          simp
          omega
      rw [e0]
      refine ⟨Nat.zero_le _, ?_, ?_⟩
      · symm
        rw [List.take_zero, List.filter_eq_nil_iff]
        intro y hy
        rcases List.mem_cons.1 hy with rfl | hy
        · simpa using hz
        · have := hgt y hy
          simp
          omega
      · symm
        rw [List.drop_zero, List.filter_eq_self]
        intro y hy
        rcases List.mem_cons.1 hy with rfl | hy
        · simp
          omega
        · simpa using hgt y hy
theorem insR_at {L : List Road} {x : Road} (hs : Rises L L.length) (ht : x.rank ∉ ids L) : posOf (ids L) x.rank ≤ L.length ∧ L.take (posOf (ids L) x.rank) ++ x :: L.drop (posOf (ids L) x.rank) = insR L x := by
  obtain ⟨h1, h2, h3⟩ := cut_pos (ids_sorted hs) ht
  refine ⟨h1, ?_⟩
  unfold insR
  rw [h2, h3]
def okL (L : List Road) : Prop := ∀ z ∈ L, WL z
theorem firstErr_v {A B : List Road} (h : A.map vR = B.map vR) (hA : okL A) (hB : okL B) : firstErr A = firstErr B := by
  induction A generalizing B with
  | nil =>
    cases B with
    | nil => rfl
    | cons y m => cases h
  | cons x l ih =>
    cases B with
    | nil => cases h
    | cons y m =>
      rw [List.map_cons, List.map_cons] at h
      injection h with h1 h2
      unfold firstErr
      rw [errR_v h1 (hA x (.head _)) (hB y (.head _)), ih h2 (fun z hz => hA z (.tail _ hz)) (fun z hz => hB z (.tail _ hz))]
theorem lineN_v {A B : List Road} (h : A.map vR = B.map vR) (hA : okL A) (hB : okL B) : lineN A = lineN B := by
  induction A generalizing B with
  | nil =>
    cases B with
    | nil => rfl
    | cons y m => cases h
  | cons x l ih =>
    cases B with
    | nil => cases h
    | cons y m =>
      rw [List.map_cons, List.map_cons] at h
      injection h with h1 h2
      have hq : x.q.L = y.q.L := congrArg RV.ws h1
      unfold lineN
      rw [(hA x (.head _)).2, (hB y (.head _)).2, hq, ih h2 (fun z hz => hA z (.tail _ hz)) (fun z hz => hB z (.tail _ hz))]
theorem rises_v {A B : List Road} (h : A.map vR = B.map vR) {n : Nat} (hr : Rises A n) : Rises B n := fun j hj => by
  have h1 : (nth A j).rank = (nth B j).rank := congrArg RV.id ((nth_map h).2 j)
  have h2 : (nth A (j + 1)).rank = (nth B (j + 1)).rank := congrArg RV.id ((nth_map h).2 (j + 1))
  rw [← h1, ← h2]
  exact hr j hj
theorem errAll_v {A B : List Road} (h : A.map vR = B.map vR) (hA : okL A) (hB : okL B) : errAll A = errAll B := by
  have hl := (nth_map h).1
  have hr : Rises A A.length = Rises B B.length := by
    rw [← hl]
    exact propext ⟨rises_v h, rises_v h.symm⟩
  unfold errAll
  rw [hl, firstErr_v h hA hB, lineN_v h hA hB]
  rw [hl] at hr
  rw [hr]
/-- What is told of a road to be added. -/
noncomputable def errAdd (L : List Road) (x : Road) : Int := if errAll L ≠ 0 then errAll L else if errR x ≠ 0 then errR x else if x.rank ∈ ids L then 7 else errAll (insR L x)
theorem okL_of {w : World} {L : List Road} (hG : ∀ x ∈ L, GRoad w x) : okL L := fun z hz => ⟨(hG z hz).2.1.2.1, (hG z hz).2.2.1.2.1⟩
end Go.Proofs.Ytmmfndmfibbhcaa
