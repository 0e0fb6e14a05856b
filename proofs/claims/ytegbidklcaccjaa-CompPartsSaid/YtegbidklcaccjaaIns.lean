/- slices.Insert and slices.Delete of numbers, over a row of the call's own. -/
import Derived.Test.YtegbidklcaccjaaClosed2
import Derived.Test.YtegbidklcaccjaaShelf
import Derived.Lib.OwnBridge
namespace Go.Proofs.Ytegbidklcaccjaa
open Go.ChangeShapes Go.WideShapes Go.ChangeAt Go.RowKit Go.Sort
open R (In64 InU64 lo64 nth)

theorem tA {T : Type} {a b : List T} {k : Nat} (h : a.length = k) (j : Nat) : (a ++ b).take (k + j) = a ++ b.take j := by
  subst h
  rw [List.take_append, List.take_of_length_le (by omega), Nat.add_sub_cancel_left]
theorem dA {T : Type} {a b : List T} {k : Nat} (h : a.length = k) (j : Nat) : (a ++ b).drop (k + j) = b.drop j := by
  subst h
  rw [List.drop_append, List.drop_eq_nil_of_le (by omega), Nat.add_sub_cancel_left, List.nil_append]
/-- Cells laid one behind the other into a block. -/
theorem setCells_blk (b : Nat) (t : TypeId) : ∀ (vs : List Value) (o : Nat) (w : World) (cur : Array Value), w.heap[b]? = some (.cells cur t (0, 0)) → o + vs.length ≤ cur.size →
    ∃ cur', (w.setCells b o vs).heap[b]? = some (.cells cur' t (0, 0)) ∧ cur'.size = cur.size ∧ cur'.toList = cur.toList.take o ++ (vs ++ cur.toList.drop (o + vs.length)) ∧ w.grownBy (w.setCells b o vs) (some b)
  | [], o, w, cur, h, _ => ⟨cur, h, rfl, by simp, ⟨rfl, rfl, rfl, Nat.le_refl _, fun _ _ _ => rfl⟩⟩
  | v :: r, o, w, cur, h, hl => by
    have hl' : o + 1 + r.length ≤ cur.size := by simp at hl; omega
    obtain ⟨c2, h1, h2, h3, h4⟩ := setCells_blk b t r (o + 1) (w.setCell ⟨b, o, none⟩ v) (cur.setIfInBounds o v) (heap_setCell_same w b o cur t v h) (by rw [Array.size_setIfInBounds]; exact hl')
    refine ⟨c2, h1, by rw [h2, Array.size_setIfInBounds], ?_, ⟨h4.os, h4.tape, h4.output, ?_, ?_⟩⟩
    · rw [h3, Array.toList_setIfInBounds, List.set_eq_take_append_cons_drop, if_pos (by rw [Array.length_toList]; omega)]
      have e0 : (cur.toList.take o).length = o := by rw [List.length_take, Array.length_toList]; omega
      rw [tA e0, show o + 1 + r.length = o + (1 + r.length) by omega, dA e0, show 1 + r.length = r.length + 1 by omega]
      simp only [List.take_succ_cons, List.take_zero, List.drop_succ_cons, List.drop_drop, List.length_cons, List.append_assoc, List.cons_append, List.nil_append]
      rw [show o + 1 + r.length = o + (r.length + 1) by omega]
    · exact Nat.le_trans (by simp) h4.size
    · intro k hk hne
      rw [show (w.setCells b o (v :: r)).heap[k]? = ((w.setCell ⟨b, o, none⟩ v).setCells b (o + 1) r).heap[k]? from rfl, h4.block k (by simpa using hk) hne]
      exact heap_setCell_other w ⟨b, o, none⟩ k v (fun e => hne (by rw [e]))
theorem ins_cells {C cs r1 : List Value} {i n : Nat} {x : Value} (h1 : C.take i = cs.take i) (hi : i ≤ n) (hn : n = cs.length) (hC : n + 1 ≤ C.length) :
    (((C.take (i + 1) ++ (cs.drop i ++ r1)).take i) ++ ([x] ++ (C.take (i + 1) ++ (cs.drop i ++ r1)).drop (i + 1))).take (n + 1) = cs.take i ++ x :: cs.drop i := by
  have e1 : (C.take (i + 1)).length = i + 1 := by rw [List.length_take]; omega
  have e3 : (C.take (i + 1) ++ (cs.drop i ++ r1)).take i = cs.take i := by
    rw [List.take_append_of_le_length (by omega), List.take_take, Nat.min_eq_left (by omega), h1]
  have e4 : (C.take (i + 1) ++ (cs.drop i ++ r1)).drop (i + 1) = cs.drop i ++ r1 := by
    have := dA (b := cs.drop i ++ r1) e1 0
    rwa [Nat.add_zero, List.drop_zero] at this
  have e2 : (cs.take i).length = i := by rw [List.length_take]; omega
  have e5 : (cs.drop i).length = n - i := by rw [List.length_drop]; omega
  rw [e3, e4, show n + 1 = i + ((n - i) + 1) by omega, tA e2, List.cons_append, List.take_succ_cons, List.nil_append]
  have := tA (b := r1) e5 0
  rw [Nat.add_zero, List.take_zero, List.append_nil] at this
  rw [this]
theorem row_form {w : World} {A : Option Addr} {n c sz : Nat} {e : TypeId} {cs : List Value} (h : w.ownsRow 0 e sz (.slice A n c) n cs) (hn : 0 < n) : ∃ g cur, A = some ⟨g, 0, none⟩ ∧ w.heap[g]? = some (.cells cur e (0, 0)) ∧ n ≤ c ∧ c ≤ maxLen ∧ cur.size = c * sz ∧ cur.toList.take (n * sz) = cs := by
  rcases h.2 with ⟨hv, h0⟩ | ⟨g, cap, cur, hv, _, h1, h2, h3, h4, h5⟩
  · omega
  · injection hv with a1 a2 a3
    subst a3
    exact ⟨g, cur, a1, h1, h2, h3, h4, h5⟩
theorem blk_cell {w : World} {g : Nat} {e : TypeId} {cur : Array Value} {cs : List Value} {n : Nat} (h : w.heap[g]? = some (.cells cur e (0, 0))) (hc : cur.toList.take n = cs) : ∀ j v, cs[j]? = some v → w.cell? ⟨g, 0 + j, none⟩ = some v := fun j v hj => by
  rw [← hc, List.getElem?_take] at hj
  split at hj
  · simp only [World.cell?, h, Nat.zero_add]
    simpa using hj
  · cases hj
theorem grownBy_trans {w1 w2 w3 : World} {row : Option Nat} (h1 : w1.grownBy w2 row) (h2 : w2.grownBy w3 row) : w1.grownBy w3 row :=
  ⟨h2.os.trans h1.os, h2.tape.trans h1.tape, h2.output.trans h1.output, Nat.le_trans h1.size h2.size, fun k hk hne => (h2.block k (Nat.lt_of_lt_of_le hk h1.size) hne).trans (h1.block k hk hne)⟩
theorem grownBy_new {w w1 w2 : World} {row : Option Nat} (h1 : w.grownBy w1 none) (h2 : w1.grownBy w2 (some w.heap.size)) : w.grownBy w2 row :=
  ⟨h2.os.trans h1.os, h2.tape.trans h1.tape, h2.output.trans h1.output, Nat.le_trans h1.size h2.size, fun k hk _ => (h2.block k (Nat.lt_of_lt_of_le hk h1.size) (fun e => by cases e; omega)).trans (h1.block k hk (by simp))⟩
theorem one_flat (L : List Int) : ∀ v ∈ L.flatMap R.cI, v.oneCell' = true := fun v hv => by
  obtain ⟨x, _, hx⟩ := List.mem_flatMap.1 hv
  exact R.encc_I.one x v hx
theorem flat_take (L : List Int) (i : Nat) : (L.flatMap R.cI).take i = (L.take i).flatMap R.cI := by
  have e : ∀ M : List Int, M.flatMap R.cI = M.map (Value.int .i64) := fun M => by induction M with
    | nil => rfl
    | cons x M ih => rw [List.flatMap_cons, ih]; rfl
  rw [e, e, List.map_take]
theorem flat_drop (L : List Int) (i : Nat) : (L.flatMap R.cI).drop i = (L.drop i).flatMap R.cI := by
  have e : ∀ M : List Int, M.flatMap R.cI = M.map (Value.int .i64) := fun M => by induction M with
    | nil => rfl
    | cons x M ih => rw [List.flatMap_cons, ih]; rfl
  rw [e, e, List.map_drop]
theorem flat_length (L : List Int) : (L.flatMap R.cI).length = L.length := by rw [R.flat_len (fun _ => rfl : ∀ x, (R.cI x).length = 1), Nat.mul_one]
end Go.Proofs.Ytegbidklcaccjaa
