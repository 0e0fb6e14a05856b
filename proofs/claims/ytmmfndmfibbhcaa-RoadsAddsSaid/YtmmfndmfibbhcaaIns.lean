/- slices.Insert and slices.Delete of numbers, over a row of the call's own. -/
import Derived.Test.YtmmfndmfibbhcaaClosed2
import Derived.Test.YtmmfndmfibbhcaaShelf
import Derived.Lib.OwnBridge
namespace Go.Proofs.Ytmmfndmfibbhcaa
open Go.ChangeShapes Go.WideShapes Go.ChangeAt Go.RowKit Go.Sort
open R (In64 InU64 lo64 nth)

theorem tA {T : Type} {a b : List T} {k : Nat} (h : a.length = k) (j : Nat) : (a ++ b).take (k + j) = a ++ b.take j := by
  subst h
  rw [List.take_append, List.take_of_length_le (by omega), Nat.add_sub_cancel_left]
theorem dA {T : Type} {a b : List T} {k : Nat} (h : a.length = k) (j : Nat) : (a ++ b).drop (k + j) = b.drop j := by
  subst h
  rw [List.drop_append, List.drop_eq_nil_of_le (by omega), Nat.add_sub_cancel_left, List.nil_append]
/-- Cells laid one behind the other into a block. -/
theorem setCells_blk (b : Nat) (t : TypeId) : ∀ (vs : List Value) (o : Nat) (w : World) (cur : Array Value), w.heap[b]? = some (.cells cur t (0, 0)) → o + vs.length ≤ cur.size →
    ∃ cur', (w.setCells b o vs).heap[b]? = some (.cells cur' t (0, 0)) ∧ cur'.size = cur.size ∧ cur'.toList = cur.toList.take o ++ (vs ++ cur.toList.drop (o + vs.length)) ∧ w.grownBy (w.setCells b o vs) (some b)
  | [], o, w, cur, h, _ => ⟨cur, h, rfl, by simp, ⟨rfl, rfl, rfl, Nat.le_refl _, fun _ _ _ => rfl⟩⟩
  | v :: r, o, w, cur, h, hl => by
    have hl' : o + 1 + r.length ≤ cur.size := by simp at hl; omega
    obtain ⟨c2, h1, h2, h3, h4⟩ := setCells_blk b t r (o + 1) (w.setCell ⟨b, o, none⟩ v) (cur.setIfInBounds o v) (heap_setCell_same w b o cur t v h) (by rw [Array.size_setIfInBounds]; exact hl')
    refine ⟨c2, h1, by rw [h2, Array.size_setIfInBounds], ?_, ⟨h4.os, h4.tape, h4.output, ?_, ?_⟩⟩
    · rw [h3, Array.toList_setIfInBounds, List.set_eq_take_append_cons_drop, if_pos (by rw [Array.length_toList]; omega)]
      have e0 : (cur.toList.take o).length = o := by rw [List.length_take, Array.length_toList]; omega
      rw [tA e0, show o + 1 + r.length = o + (1 + r.length) by omega, dA e0, show 1 + r.length = r.length + 1 by omega]
      simp only [List.take_succ_cons, List.take_zero, List.drop_succ_cons, List.drop_drop, List.length_cons, List.append_assoc, List.cons_append, List.nil_append]
      rw [show o + 1 + r.length = o + (r.length + 1) by omega]
    · exact Nat.le_trans (by simp) h4.size
    · intro k hk hne
      rw [show (w.setCells b o (v :: r)).heap[k]? = ((w.setCell ⟨b, o, none⟩ v).setCells b (o + 1) r).heap[k]? from rfl, h4.block k (by simpa using hk) hne]
      exact heap_setCell_other w ⟨b, o, none⟩ k v (fun e => hne (by rw [e]))
theorem ins_cells {C cs r1 : List Value} {i n : Nat} {x : Value} (h1 : C.take i = cs.take i) (hi : i ≤ n) (hn : n = cs.length) (hC : n + 1 ≤ C.length) :
    (((C.take (i + 1) ++ (cs.drop i ++ r1)).take i) ++ ([x] ++ (C.take (i + 1) ++ (cs.drop i ++ r1)).drop (i + 1))).take (n + 1) = cs.take i ++ x :: cs.drop i := by
  have e1 : (C.take (i + 1)).length = i + 1 := by rw [List.length_take]; omega
  have e3 : (C.take (i + 1) ++ (cs.drop i ++ r1)).take i = cs.take i := by
    rw [List.take_append_of_le_length (by omega), List.take_take, Nat.min_eq_left (by omega), h1]
  have e4 : (C.take (i + 1) ++ (cs.drop i ++ r1)).drop (i + 1) = cs.drop i ++ r1 := by
    have := dA (b := cs.drop i ++ r1) e1 0
    rwa [Nat.add_zero, List.drop_zero] at this
  have e2 : (cs.take i).length = i := by rw [List.length_take]; omega
  have e5 : (cs.drop i).length = n - i := by rw [List.length_drop]; omega
  rw [e3, e4, show n + 1 = i + ((n - i) + 1) by omega, tA e2, List.cons_append, List.take_succ_cons, List.nil_append]
  have := tA (b := r1) e5 0
  rw [Nat.add_zero, List.take_zero, List.append_nil] at this
  rw [this]
theorem row_form {w : World} {A : Option Addr} {n c sz : Nat} {e : TypeId} {cs : List Value} (h : w.ownsRow 0 e sz (.slice A n c) n cs) (hn : 0 < n) : ∃ g cur, A = some ⟨g, 0, none⟩ ∧ w.heap[g]? = some (.cells cur e (0, 0)) ∧ n ≤ c ∧ c ≤ maxLen ∧ cur.size = c * sz ∧ cur.toList.take (n * sz) = cs := by
  rcases h.2 with ⟨hv, h0⟩ | ⟨g, cap, cur, hv, _, h1, h2, h3, h4, h5⟩
  · omega
  · injection hv with a1 a2 a3
    subst a3
    exact ⟨g, cur, a1, h1, h2, h3, h4, h5⟩
theorem blk_cell {w : World} {g : Nat} {e : TypeId} {cur : Array Value} {cs : List Value} {n : Nat} (h : w.heap[g]? = some (.cells cur e (0, 0))) (hc : cur.toList.take n = cs) : ∀ j v, cs[j]? = some v → w.cell? ⟨g, 0 + j, none⟩ = some v := fun j v hj => by
  rw [← hc, List.getElem?_take] at hj
  split at hj
  · simp only [World.cell?, h, Nat.zero_add]
    simpa using hj
  · cases hj
theorem grownBy_trans {w1 w2 w3 : World} {row : Option Nat} (h1 : w1.grownBy w2 row) (h2 : w2.grownBy w3 row) : w1.grownBy w3 row :=
  ⟨h2.os.trans h1.os, h2.tape.trans h1.tape, h2.output.trans h1.output, Nat.le_trans h1.size h2.size, fun k hk hne => (h2.block k (Nat.lt_of_lt_of_le hk h1.size) hne).trans (h1.block k hk hne)⟩
theorem grownBy_new {w w1 w2 : World} {row : Option Nat} (h1 : w.grownBy w1 none) (h2 : w1.grownBy w2 (some w.heap.size)) : w.grownBy w2 row :=
  ⟨h2.os.trans h1.os, h2.tape.trans h1.tape, h2.output.trans h1.output, Nat.le_trans h1.size h2.size, fun k hk _ => (h2.block k (Nat.lt_of_lt_of_le hk h1.size) (fun e => by cases e; omega)).trans (h1.block k hk (by simp))⟩
theorem one_flat (L : List Int) : ∀ v ∈ L.flatMap R.cI, v.oneCell' = true := fun v hv => by
  obtain ⟨x, _, hx⟩ := List.mem_flatMap.1 hv
  exact R.encc_I.one x v hx
theorem flat_take (L : List Int) (i : Nat) : (L.flatMap R.cI).take i = (L.take i).flatMap R.cI := by
  have e : ∀ M : List Int, M.flatMap R.cI = M.map (Value.int .i64) := fun M => by induction M with
    | nil => rfl
    | cons x M ih => rw [List.flatMap_cons, ih]; rfl
  rw [e, e, List.map_take]
theorem flat_drop (L : List Int) (i : Nat) : (L.flatMap R.cI).drop i = (L.drop i).flatMap R.cI := by
  have e : ∀ M : List Int, M.flatMap R.cI = M.map (Value.int .i64) := fun M => by induction M with
    | nil => rfl
    | cons x M ih => rw [List.flatMap_cons, ih]; rfl
  rw [e, e, List.map_drop]
theorem flat_length (L : List Int) : (L.flatMap R.cI).length = L.length := by rw [R.flat_len (fun _ => rfl : ∀ x, (R.cI x).length = 1), Nat.mul_one]
theorem insert_own (A B : Option Addr) (n c d i : Nat) (L : List Int) (x : Int) (w : World) (hb : n ≤ 1000000) (hn : n = L.length) (hi : i ≤ n) (F : List Nat) (W0 : World) (l : List R.Res) (hM : R.Own F W0 w (.row B 1 d 3 1 [.int .i64 x] :: .row A n c 3 1 (L.flatMap R.cI) :: l)) :
    Calls Try.prog 88 #[.slice A n c, .int .i64 (i : Nat), .slice B 1 d] w fun e w' => ∃ A' c', e = .returned (.slice A' (n + 1) c') ∧ R.Own F W0 w' (.row A' (n + 1) c' 3 1 ((L.take i ++ x :: L.drop i).flatMap R.cI) :: l) := by
  rcases Nat.eq_or_lt_of_le hi with h | h
  · subst h
    rw [hn, List.take_length, List.drop_length, ← hn]
    exact insert_end A B i c d L x w hb hn F W0 l hM
  · have hrA : w.ownsRow 0 3 1 (.slice A n c) n (L.flatMap R.cI) := hM.ok _ (.tail _ (.head _))
    have hrB : w.ownsRow 0 3 1 (.slice B 1 d) 1 [.int .i64 x] := hM.ok _ (.head _)
    obtain ⟨g, cur, rfl, hg, hnc, hcm, hcs, hct⟩ := row_form hrA (by omega)
    obtain ⟨g2, cur2, rfl, hg2, hd1, hd2, hcs2, hct2⟩ := row_form hrB (by omega)
    rw [Nat.mul_one] at hcs hct hcs2 hct2
    have hne : g2 ≠ g := fun e => by
      have := hM.nodup
      simp [R.Res.key, R.blockOf, e] at this
    have hfl := flat_length L
    have hlt : g < w.heap.size := (Array.getElem?_eq_some_iff.1 hg).1
    have hfin : (L.flatMap R.cI).take i ++ Value.int .i64 x :: (L.flatMap R.cI).drop i = (L.take i ++ x :: L.drop i).flatMap R.cI := by
      rw [flat_take, flat_drop, List.flatMap_append, List.flatMap_cons]
      rfl
    have hct3 : cur.toList.take i = (L.flatMap R.cI).take i := by rw [← hct, List.take_take, Nat.min_eq_left (by omega)]
    have hfl2 : (L.take i ++ x :: L.drop i).length = n + 1 := by simp; omega
    by_cases hroom : n + 1 ≤ c
    · refine (Any2.slices_Insert_int_shift lay_ins g 0 n c i g2 0 1 d (L.flatMap R.cI) [.int .i64 x] w h (by omega) hroom (by unfold maxLen at hcm; omega) hne (by omega) rfl (blk_cell hg hct)
        (fun j hj => by simp only [World.cell?, hg, Nat.zero_add]; rw [Array.getElem?_eq_getElem (by omega)]; rfl) (fun j hj => by simp [World.frozen?, hg]) (blk_cell hg2 hct2) (one_flat L) (by simp [Value.oneCell']) 3 3 cur2.size cur.size
        (by simp only [World.shape?, hg2]) (by simp only [World.shape?, hg]) (by omega) (by simp [World.frozen?, hg2]) (by simp [World.frozen?, hg2])).mono ?_
      rintro e w' ⟨rfl, rfl⟩
      obtain ⟨c1, a1, a2, a3, a4⟩ := setCells_blk g 3 ((L.flatMap R.cI).drop i) (0 + (i + 1)) w.drew cur hg (by rw [List.length_drop]; omega)
      obtain ⟨c2, b1, b2, b3, b4⟩ := setCells_blk g 3 [.int .i64 x] (0 + i) _ c1 a1 (by rw [a2]; simp; omega)
      refine ⟨_, _, rfl, ?_⟩
      refine (R.Own.upd hM (.tail .head) (r' := .row (some ⟨g, 0, none⟩) (n + 1) c 3 1 ((L.take i ++ x :: L.drop i).flatMap R.cI)) (grownBy_trans (w2 := w.drew.setCells g (0 + (i + 1)) ((L.flatMap R.cI).drop i)) ⟨a4.os, a4.tape, a4.output, a4.size, a4.block⟩ b4) ⟨by rw [flat_length, hfl2, Nat.mul_one], .inr ⟨g, c, c2, rfl, Nat.zero_le _, b1, hroom, hcm, by rw [b2, a2, hcs, Nat.mul_one], ?_⟩⟩ (.inl rfl)).tl
      rw [Nat.mul_one, b3, a3, Nat.zero_add, Nat.zero_add, ← hfin]
      exact ins_cells hct3 hi (by omega) (by rw [Array.length_toList]; omega)
    · refine (Any2.slices_Insert_int_grow lay_ins g 0 n c i g2 0 1 d (L.flatMap R.cI) [.int .i64 x] w h (by omega) hnc (by omega) (by omega) (by omega) rfl (blk_cell hg hct) (blk_cell hg2 hct2) (one_flat L) (by simp [Value.oneCell'])).mono ?_
      rintro e w' ⟨rfl, rfl⟩
      rw [show ren_ins.t 3 = 3 from rfl]
      have hG1 : n + 1 ≤ grownCap w (n + 1) c 3 := grownCap_ge w _ _ _
      have hG2 : grownCap w (n + 1) c 3 ≤ maxLen := grownCap_le_maxLen w _ _ _ (by unfold maxLen; omega)
      generalize grownCap w (n + 1) c 3 = G at hG1 hG2 ⊢
      obtain ⟨C, hC⟩ : ∃ C, C = ((L.flatMap R.cI).take i).toArray ++ Builtin.zeroCells (Value.int .i64 0).cells (n + 1 - i) ++ Builtin.zeroCells (Value.int .i64 0).cells (G - (n + 1)) := ⟨_, rfl⟩
      rw [← hC]
      have hCs : C.size = G := by
        rw [hC, Array.size_append, Array.size_append, List.size_toArray, List.length_take, hfl, size_zeroCells, size_zeroCells]
        simp only [Value.cells, List.size_toArray, List.length_singleton, Nat.mul_one]
        omega
      have hCt : C.toList.take i = (L.flatMap R.cI).take i := by
        rw [hC, Array.toList_append, Array.toList_append, List.append_assoc, List.take_append, show ((L.flatMap R.cI).take i).toArray.toList = (L.flatMap R.cI).take i from rfl, List.take_of_length_le (by rw [List.length_take]; omega), show i - ((L.flatMap R.cI).take i).length = 0 by rw [List.length_take]; omega, List.take_zero, List.append_nil]
      clear hC
      have h0 : w.grownBy (w.alloc (.cells C 3)).drew none := ⟨rfl, rfl, rfl, by simp [World.drew], fun k hk _ => heap_alloc_old w _ hk⟩
      have h1 : (w.alloc (.cells C 3)).drew.heap[w.heap.size]? = some (.cells C 3 (0, 0)) := heap_alloc_new w _
      obtain ⟨c1, a1, a2, a3, a4⟩ := setCells_blk w.heap.size 3 [.int .i64 x] i _ C h1 (by rw [hCs]; simp; omega)
      obtain ⟨c2, b1, b2, b3, b4⟩ := setCells_blk w.heap.size 3 ((L.flatMap R.cI).drop i) (i + 1) ((w.alloc (.cells C 3)).drew.setCells w.heap.size i [.int .i64 x]).drew c1 a1 (by rw [List.length_drop, a2, hCs]; omega)
      refine ⟨_, _, rfl, ?_⟩
      refine (R.Own.upd hM (.tail .head) (r' := .row (some ⟨w.heap.size, 0, none⟩) (n + 1) G 3 1 ((L.take i ++ x :: L.drop i).flatMap R.cI)) (grownBy_new h0 (grownBy_trans a4 (w2 := ((w.alloc (.cells C 3)).drew.setCells w.heap.size i [.int .i64 x])) ⟨b4.os, b4.tape, b4.output, b4.size, b4.block⟩)) ⟨by rw [flat_length, hfl2, Nat.mul_one], .inr ⟨w.heap.size, G, c2, rfl, Nat.zero_le _, b1, hG1, hG2, by rw [b2, a2, hCs, Nat.mul_one], ?_⟩⟩ (.inr fun k e => by cases e; exact Nat.le_refl _)).tl
      rw [Nat.mul_one, b3, a3, ← hfin]
      have e1 : (C.toList.take i).length = i := by rw [List.length_take, Array.length_toList]; omega
      rw [hCt] at e1 ⊢
      have e5 : ((L.flatMap R.cI).drop i).length = n - i := by rw [List.length_drop]; omega
      rw [tA e1, List.append_assoc, show n + 1 = i + ((n - i) + 1) by omega, tA e1]
      simp only [List.cons_append, List.nil_append, List.take_succ_cons, List.take_zero]
      refine congrArg _ (congrArg _ ?_)
      have := fun X : List Value => tA (b := X) e5 0
      simp only [Nat.add_zero, List.take_zero, List.append_nil] at this
      exact this _
theorem delete_own (A : Option Addr) (n c i : Nat) (L : List Int) (w : World) (hb : n ≤ 1000000) (hn : n = L.length) (hi : i < n) (F : List Nat) (W0 : World) (l : List R.Res) (hM : R.Own F W0 w (.row A n c 3 1 (L.flatMap R.cI) :: l)) :
    Calls Try.prog 92 #[.slice A n c, .int .i64 (i : Nat), .int .i64 ((i : Nat) + 1)] w fun e w' => ∃ A' c', e = .returned (.slice A' (n - 1) c') ∧ R.Own F W0 w' (.row A' (n - 1) c' 3 1 ((L.take i ++ L.drop (i + 1)).flatMap R.cI) :: l) := by
  have hrA : w.ownsRow 0 3 1 (.slice A n c) n (L.flatMap R.cI) := hM.ok _ (.head _)
  obtain ⟨g, cur, rfl, hg, hnc, hcm, hcs, hct⟩ := row_form hrA (by omega)
  have e : ∀ M : List Int, M.flatMap R.cI = M.map (Value.int .i64) := fun M => by induction M with
    | nil => rfl
    | cons x M ih => rw [List.flatMap_cons, ih]; rfl
  rw [e] at hrA hct
  obtain ⟨g', cap', h1, _, h2, h3, h4, h5, h6⟩ := Lib.holds_of_ownsRow hrA (by simp)
  obtain ⟨rfl, rfl⟩ : g' = g ∧ cap' = c := by
    injection h1 with a1 a2 a3
    injection a1 with a1
    injection a1 with a1
    exact ⟨a1.symm, a3.symm⟩
  subst hn
  refine (Any.slices_Delete_int lay_del g' 0 cap' i (i + 1) L w h6 h3 (by unfold maxLen at h4; omega) (by omega) (by omega)).mono ?_
  rintro en w' ⟨rfl, q, rfl⟩
  refine ⟨_, _, by rw [show i + 1 - i = 1 by omega], ?_⟩
  have hl : (L.take i ++ L.drop (i + 1) ++ List.replicate (i + 1 - i) (0 : Int)).length = L.length := by simp; omega
  refine R.Own.upd hM .head ⟨rfl, rfl, rfl, by simp [putRow, mapBlock, Sort.ahead], fun k hk hne => ?_⟩ ?_ (.inl rfl)
  · have : g' ≠ k := fun e => hne (by rw [e]; rfl)
    simp [putRow, mapBlock, Sort.ahead, Array.getElem?_modify, this]
  · have := Lib.ownsRow_putRow (q := q) (k := L.length - 1) hrA hl (by omega)
    have e7 := tA (a := L.take i ++ L.drop (i + 1)) (b := List.replicate (i + 1 - i) (0 : Int)) (k := L.length - 1) (by rw [List.length_append, List.length_take, List.length_drop]; omega) 0
    rw [Nat.add_zero, List.take_zero, List.append_nil] at e7
    rw [e7, ← e] at this
    exact this
end Go.Proofs.Ytmmfndmfibbhcaa
