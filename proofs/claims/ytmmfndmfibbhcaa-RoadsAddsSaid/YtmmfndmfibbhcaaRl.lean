/- The law RoadsOrder: the walk. -/
import Derived.Test.YtmmfndmfibbhcaaRk
namespace Go.Proofs.Ytmmfndmfibbhcaa
open Go.ChangeShapes Go.WideShapes Go.ChangeAt Go.RowKit
open R (In64 InU64 lo64 nth)
theorem filter_v {A B : List Road} (p : Int → Bool) (h : A.map vR = B.map vR) : (A.filter fun z => p z.rank).map vR = (B.filter fun z => p z.rank).map vR := by
  have e : ∀ L : List Road, (L.filter fun z => p z.rank).map vR = (L.map vR).filter fun v => p v.id := fun L => by
    rw [List.filter_map]
    rfl
  rw [e, e, h]
theorem insR_v {A B : List Road} (h : A.map vR = B.map vR) (x : Road) : (insR A x).map vR = (insR B x).map vR := by
  unfold insR
  rw [List.map_append, List.map_append, List.map_cons, List.map_cons, filter_v (fun r => decide (r < x.rank)) h, filter_v (fun r => decide (x.rank < r)) h]
theorem ids_v {A B : List Road} (h : A.map vR = B.map vR) : ids A = ids B := by
  have e : ∀ L : List Road, ids L = (L.map vR).map RV.id := fun L => by
    rw [List.map_map]
    rfl
  rw [e, e, h]
theorem okL_ins {L : List Road} {x : Road} (h : okL L) (hx : WL x) : okL (insR L x) := fun z hz => by
  rcases insR_mem hz with rfl | h1
  · exact hx
  · exact h z h1
theorem errAdd_v {A B : List Road} (h : A.map vR = B.map vR) (hA : okL A) (hB : okL B) {x : Road} (hx : WL x) : errAdd A x = errAdd B x := by
  unfold errAdd
  rw [errAll_v h hA hB, ids_v h, errAll_v (insR_v h x) (okL_ins hA hx) (okL_ins hB hx)]
theorem insR_lt {L : List Road} {x y : Road} (h : x.rank < y.rank) : insR (insR L x) y = insR (insR L y) x := by
  have f1 : (L.filter fun z => decide (z.rank < x.rank)).filter (fun z => decide (z.rank < y.rank)) = L.filter fun z => decide (z.rank < x.rank) := by
    rw [List.filter_filter]
    exact List.filter_congr fun z _ => by by_cases h1 : z.rank < x.rank <;> by_cases h2 : z.rank < y.rank <;> simp [h1, h2]; omega
  have f2 : (L.filter fun z => decide (z.rank < x.rank)).filter (fun z => decide (y.rank < z.rank)) = [] := by
    rw [List.filter_filter, List.filter_eq_nil_iff]
    intro z _
    simp
    omega
  have f3 : (L.filter fun z => decide (x.rank < z.rank)).filter (fun z => decide (y.rank < z.rank)) = L.filter fun z => decide (y.rank < z.rank) := by
    rw [List.filter_filter]
    exact List.filter_congr fun z _ => by by_cases h1 : x.rank < z.rank <;> by_cases h2 : y.rank < z.rank <;> simp [h1, h2]; omega
  have f4 : (L.filter fun z => decide (z.rank < y.rank)).filter (fun z => decide (z.rank < x.rank)) = L.filter fun z => decide (z.rank < x.rank) := by
    rw [List.filter_filter]
    exact List.filter_congr fun z _ => by by_cases h1 : z.rank < x.rank <;> by_cases h2 : z.rank < y.rank <;> simp [h1, h2]; omega
  have f5 : (L.filter fun z => decide (y.rank < z.rank)).filter (fun z => decide (z.rank < x.rank)) = [] := by
    rw [List.filter_filter, List.filter_eq_nil_iff]
    intro z _
    simp
    omega
  have f6 : (L.filter fun z => decide (y.rank < z.rank)).filter (fun z => decide (x.rank < z.rank)) = L.filter fun z => decide (y.rank < z.rank) := by
    rw [List.filter_filter]
    exact List.filter_congr fun z _ => by by_cases h1 : x.rank < z.rank <;> by_cases h2 : y.rank < z.rank <;> simp [h1, h2]; omega
  have f7 : (L.filter fun z => decide (x.rank < z.rank)).filter (fun z => decide (z.rank < y.rank)) = (L.filter fun z => decide (z.rank < y.rank)).filter (fun z => decide (x.rank < z.rank)) := by
    rw [List.filter_filter, List.filter_filter]
    exact List.filter_congr fun z _ => Bool.and_comm _ _
  have g1 : (x :: L.filter fun z => decide (x.rank < z.rank)).filter (fun z => decide (z.rank < y.rank)) = x :: (L.filter fun z => decide (x.rank < z.rank)).filter (fun z => decide (z.rank < y.rank)) := List.filter_cons_of_pos (by simpa using h)
  have g2 : (x :: L.filter fun z => decide (x.rank < z.rank)).filter (fun z => decide (y.rank < z.rank)) = (L.filter fun z => decide (x.rank < z.rank)).filter (fun z => decide (y.rank < z.rank)) := List.filter_cons_of_neg (by simp; omega)
  have g3 : (y :: L.filter fun z => decide (y.rank < z.rank)).filter (fun z => decide (z.rank < x.rank)) = (L.filter fun z => decide (y.rank < z.rank)).filter (fun z => decide (z.rank < x.rank)) := List.filter_cons_of_neg (by simp; omega)
  have g4 : (y :: L.filter fun z => decide (y.rank < z.rank)).filter (fun z => decide (x.rank < z.rank)) = y :: (L.filter fun z => decide (y.rank < z.rank)).filter (fun z => decide (x.rank < z.rank)) := List.filter_cons_of_pos (by simpa using h)
  unfold insR
  rw [List.filter_append, List.filter_append, List.filter_append, List.filter_append, g1, g2, g3, g4, f1, f2, f3, f4, f5, f6, f7]
  simp
theorem insR_comm {L : List Road} {x y : Road} (h : x.rank ≠ y.rank) : insR (insR L x) y = insR (insR L y) x := by
  rcases Int.lt_or_gt_of_ne h with h | h
  · exact insR_lt h
  · exact (insR_lt h).symm
theorem ids_ins {L : List Road} {x : Road} {t : Int} (h : t ∈ ids (insR L x)) : t = x.rank ∨ t ∈ ids L := by
  obtain ⟨z, hz, rfl⟩ := List.mem_map.1 h
  rcases insR_mem hz with rfl | h1
  · exact .inl rfl
  · exact .inr (List.mem_map_of_mem h1)
theorem errAdd_ok {L : List Road} {x : Road} (h : errAdd L x = 0) : errAll L = 0 ∧ errR x = 0 ∧ x.rank ∉ ids L ∧ errAll (insR L x) = 0 := by
  unfold errAdd at h
  by_cases h1 : errAll L ≠ 0
  · rw [if_pos h1] at h
    exact absurd h h1
  rw [if_neg h1] at h
  by_cases h2 : errR x ≠ 0
  · rw [if_pos h2] at h
    exact absurd h h2
  rw [if_neg h2] at h
  by_cases h3 : x.rank ∈ ids L
  · rw [if_pos h3] at h
    cases h
  rw [if_neg h3] at h
  exact ⟨Decidable.not_not.1 h1, Decidable.not_not.1 h2, h3, h⟩
theorem errAdd_in {L : List Road} {x : Road} (h1 : errAll L = 0) (h2 : errR x = 0) (h3 : x.rank ∉ ids L) : errAdd L x = errAll (insR L x) := by
  unfold errAdd
  rw [if_neg (by omega), if_neg (by omega), if_neg h3]
theorem order_law {L : List Road} {x y : Road} (hx : errAdd L x = 0) (hy : errAdd L y = 0) (h : x.rank ≠ y.rank) : errAdd (insR L x) y = errAdd (insR L y) x := by
  obtain ⟨a1, a2, a3, a4⟩ := errAdd_ok hx
  obtain ⟨b1, b2, b3, b4⟩ := errAdd_ok hy
  rw [errAdd_in a4 b2 (fun hm => by rcases ids_ins hm with e | e; exact h e.symm; exact b3 e), errAdd_in b4 a2 (fun hm => by rcases ids_ins hm with e | e; exact h e; exact a3 e), insR_comm h]
theorem small_v {M N : List Road} {b : Nat} (hv : M.map vR = N.map vR) (hM : okL M) (hN : okL N) (hs : ∀ z ∈ N, z.p.n ≤ b ∧ z.q.n ≤ b) : ∀ z ∈ M, z.p.n ≤ b ∧ z.q.n ≤ b := fun z hz => by
  have : vR z ∈ N.map vR := by rw [← hv]; exact List.mem_map_of_mem hz
  obtain ⟨u, hu, he⟩ := List.mem_map.1 this
  have h1 : u.p.L = z.p.L := congrArg RV.pts he
  have h2 : u.q.L = z.q.L := congrArg RV.ws he
  have h3 := hs u hu
  rw [(hM z hz).1, (hM z hz).2, ← h1, ← h2, ← (hN u hu).1, ← (hN u hu).2]
  exact h3
end Go.Proofs.Ytmmfndmfibbhcaa
