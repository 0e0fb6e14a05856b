/- Slices written out, appended to, made, cut; calls by their contracts; the driver's joints. -/
import Derived.Test.YtmoppmfbfpjdnaaGreatOwn
namespace Go.Proofs.YtmoppmfbfpjdnaaGreat.R
open Go.RowKit

theorem foldl_set (off : Nat) : ∀ (xs : List Value) (k : Nat) (cs : Array Value), off + k + xs.length ≤ cs.size →
    ((xs.zipIdx k).foldl (fun cs (c, j) => cs.setIfInBounds (off + j) c) cs).toList = cs.toList.take (off + k) ++ xs ++ cs.toList.drop (off + k + xs.length)
  | [], k, cs, _ => by simp
  | x :: xs, k, cs, h => by
    simp only [List.length_cons] at h
    simp only [List.zipIdx_cons, List.foldl_cons]
    rw [foldl_set off xs (k + 1) _ (by simp; omega)]
    have hl : off + k < cs.toList.length := by simp; omega
    rw [Array.toList_setIfInBounds, ← Nat.add_assoc, List.take_succ_eq_append_getElem (by simpa using hl), List.take_set_of_le (Nat.le_refl _), List.getElem_set_self, List.drop_set_of_lt (by omega)]
    simp [Nat.add_assoc, Nat.add_comm 1]
def idx : List Value → Nat → List (Nat × Value)
  | [], _ => []
  | v :: l, k => (k, v) :: idx l (k + 1)
theorem fill_all (sz : Nat) : ∀ (vs : List Value) (k : Nat) (cs : Array Value), (∀ v ∈ vs, v.cells.size = sz) → cs.size = (k + vs.length) * sz →
    ∃ out, Instr.fill (fun i => some (i * sz, sz)) cs (idx vs k) = some out ∧ out.toList = cs.toList.take (k * sz) ++ vs.flatMap (·.cells.toList)
  | [], k, cs, _, h => ⟨cs, rfl, by simp at h; simpa [← h] using (List.take_of_length_le (l := cs.toList) (i := cs.size) (by simp)).symm⟩
  | v :: vs, k, cs, hv, h => by
    have h0 := hv v (.head _)
    have hk : (k + (v :: vs).length) * sz = k * sz + sz + vs.length * sz := by rw [List.length_cons]; simp only [Nat.add_mul, Nat.one_mul]; try omega
    have hbig : ¬ (v.cells.size ≠ sz ∨ k * sz + v.cells.size > cs.size) := by rw [h0, h, hk]; omega
    have hf := foldl_set (k * sz) v.cells.toList 0 cs (by rw [h, hk]; simp [h0]; try omega)
    have hc : (v.cells.zipIdx.foldl (fun cs (c, j) => cs.setIfInBounds (k * sz + j) c) cs) = (v.cells.toList.zipIdx 0).foldl (fun cs (c, j) => cs.setIfInBounds (k * sz + j) c) cs := by
      rw [← Array.foldl_toList, Array.toList_zipIdx]
    obtain ⟨out, ho, hl⟩ := fill_all sz vs (k + 1) (v.cells.zipIdx.foldl (fun cs (c, j) => cs.setIfInBounds (k * sz + j) c) cs) (fun u hu => hv u (.tail _ hu)) (by
      have : (v.cells.zipIdx.foldl (fun cs (c, j) => cs.setIfInBounds (k * sz + j) c) cs).size = cs.size := by
        have h1 := congrArg List.length hf
        rw [hc]
        simp [h0] at h1
        simp
        omega
      rw [this, h, hk]
      simp [Nat.add_mul])
    refine ⟨out, ?_, ?_⟩
    · simp only [idx, Instr.fill]
      simp only [h0, ne_eq, not_true, decide_false, Bool.false_or]
      rw [if_neg (by simp; rw [h, hk]; omega)]
      exact ho
    · rw [hl, hc, hf]
      have e1 : (cs.toList.take (k * sz + 0) ++ v.cells.toList ++ cs.toList.drop (k * sz + 0 + v.cells.toList.length)).take ((k + 1) * sz) = cs.toList.take (k * sz) ++ v.cells.toList := by
        rw [List.take_left']
        · simp
        · have : cs.toList.length = cs.size := by simp
          rw [List.length_append, List.length_take, Nat.succ_mul, Nat.add_zero, Array.length_toList, Array.length_toList, h0, h, hk]
          omega
      rw [e1, List.flatMap_cons, List.append_assoc]
theorem cells_len {sz : Nat} : ∀ (vs : List Value), (∀ v ∈ vs, v.cells.size = sz) → (vs.flatMap (·.cells.toList)).length = vs.length * sz
  | [], _ => by simp
  | v :: vs, hv => by
    rw [List.flatMap_cons, List.length_append, cells_len vs (fun u hu => hv u (.tail _ hu)), Array.length_toList, hv v (.head _), List.length_cons, Nat.succ_mul, Nat.add_comm]
section
variable {P : Program} {C : CallH} {o : Oper} {f : Fr} {F : List Nat} {W w : World} {K : Value → World → Prop} {l l' l'' : List Res} {g j : Nat} {t u e : TypeId} {x y i : Operand} {cs ds news : List Value} {A A' : Option Addr} {n c c' sz off m k bytes : Nat} {v z : Value}
theorem WO_bsL {parts : Array (Nat × Operand)} (vs : List Value) (hop : o.op = .buildSlice t n parts) [SliceT P t e sz] [ZeroT P e z] [EL : ElemT P e z sz bytes]
    (hps : parts.toList.map (fun x => (x.1, ev f x.2)) = idx vs 0) (hn : vs.length = n) (hb : n * sz ≤ 16777216) (hv : ∀ v ∈ vs, v.cells.size = sz)
    (hM : Own F W w l) (hk : ∀ A c w', Own F W w' (.row A n c e sz (vs.flatMap (·.cells.toList)) :: l) → K (.slice A n c) w') : WO P C o f w K := by
  have h0 := EL.p
  have hz := EL.c
  have hsz : (if n * sz = 0 then (Array.range (n * sz)).map (fun i => (#[] : Array Value)[i % 0]!) else (Array.range (n * sz)).map fun i => z.cells[i % z.cells.size]!).size = n * sz := by split <;> simp
  obtain ⟨out, ho, hl⟩ := fill_all sz vs 0 _ hv (by rw [hsz, Nat.zero_add, hn])
  have hps' : parts.map (fun x => (x.1, ev f x.2)) = (idx vs 0).toArray := by
    apply Array.ext'
    simpa using hps
  have hl' : out.toList = vs.flatMap (·.cells.toList) := by simpa using hl
  refine WO_bsO hop hps' hb (by simpa using ho) ?_ h0 hM (fun A c w' hM' => hk A c w' (by rw [← hl']; exact hM'))
  rw [← Array.length_toList, hl', ← hn]
  exact cells_len vs hv
theorem WO_bsN0 (hop : o.op = .buildSlice t 0 #[]) [SliceT P t e sz] [ZeroT P e z] [ElemT P e z sz bytes]  (hb : 0 * sz ≤ 16777216) (hM : Own F W w l)   (hk : ∀ A c w', Own F W w' (.row A 0 c e sz ([]) :: l) → K (.slice A 0 c) w') : WO P C o f w K :=
  WO_bsL [] hop (by simp [idx]) rfl hb (by simp) hM (by simpa using hk)
theorem WO_bsN1 {x0 : Operand} {v0 : Value} {d0 : List Value} (hop : o.op = .buildSlice t 1 #[(0, x0)]) [SliceT P t e sz] [ZeroT P e z] [ElemT P e z sz bytes] (h0 : ev f x0 = v0) (hb : 1 * sz ≤ 16777216) (hM : Own F W w l) (c0 : v0.cells = d0.toArray) (l0 : d0.length = sz) (hk : ∀ A c w', Own F W w' (.row A 1 c e sz (d0) :: l) → K (.slice A 1 c) w') : WO P C o f w K :=
  WO_bsL [v0] hop (by simp [idx, h0]) rfl hb (by simp [c0, l0]) hM (by simpa [c0] using hk)
theorem WO_bsN2 {x0 x1 : Operand} {v0 v1 : Value} {d0 d1 : List Value} (hop : o.op = .buildSlice t 2 #[(0, x0), (1, x1)]) [SliceT P t e sz] [ZeroT P e z] [ElemT P e z sz bytes] (h0 : ev f x0 = v0) (h1 : ev f x1 = v1) (hb : 2 * sz ≤ 16777216) (hM : Own F W w l) (c0 : v0.cells = d0.toArray) (c1 : v1.cells = d1.toArray) (l0 : d0.length = sz) (l1 : d1.length = sz) (hk : ∀ A c w', Own F W w' (.row A 2 c e sz (d0 ++ (d1 ++ [])) :: l) → K (.slice A 2 c) w') : WO P C o f w K :=
  WO_bsL [v0, v1] hop (by simp [idx, h0, h1]) rfl hb (by simp [c0, l0, c1, l1]) hM (by simpa [c0, c1] using hk)
theorem WO_bsN3 {x0 x1 x2 : Operand} {v0 v1 v2 : Value} {d0 d1 d2 : List Value} (hop : o.op = .buildSlice t 3 #[(0, x0), (1, x1), (2, x2)]) [SliceT P t e sz] [ZeroT P e z] [ElemT P e z sz bytes] (h0 : ev f x0 = v0) (h1 : ev f x1 = v1) (h2 : ev f x2 = v2) (hb : 3 * sz ≤ 16777216) (hM : Own F W w l) (c0 : v0.cells = d0.toArray) (c1 : v1.cells = d1.toArray) (c2 : v2.cells = d2.toArray) (l0 : d0.length = sz) (l1 : d1.length = sz) (l2 : d2.length = sz) (hk : ∀ A c w', Own F W w' (.row A 3 c e sz (d0 ++ (d1 ++ (d2 ++ []))) :: l) → K (.slice A 3 c) w') : WO P C o f w K :=
  WO_bsL [v0, v1, v2] hop (by simp [idx, h0, h1, h2]) rfl hb (by simp [c0, l0, c1, l1, c2, l2]) hM (by simpa [c0, c1, c2] using hk)
theorem WO_bsN4 {x0 x1 x2 x3 : Operand} {v0 v1 v2 v3 : Value} {d0 d1 d2 d3 : List Value} (hop : o.op = .buildSlice t 4 #[(0, x0), (1, x1), (2, x2), (3, x3)]) [SliceT P t e sz] [ZeroT P e z] [ElemT P e z sz bytes] (h0 : ev f x0 = v0) (h1 : ev f x1 = v1) (h2 : ev f x2 = v2) (h3 : ev f x3 = v3) (hb : 4 * sz ≤ 16777216) (hM : Own F W w l) (c0 : v0.cells = d0.toArray) (c1 : v1.cells = d1.toArray) (c2 : v2.cells = d2.toArray) (c3 : v3.cells = d3.toArray) (l0 : d0.length = sz) (l1 : d1.length = sz) (l2 : d2.length = sz) (l3 : d3.length = sz) (hk : ∀ A c w', Own F W w' (.row A 4 c e sz (d0 ++ (d1 ++ (d2 ++ (d3 ++ [])))) :: l) → K (.slice A 4 c) w') : WO P C o f w K :=
  WO_bsL [v0, v1, v2, v3] hop (by simp [idx, h0, h1, h2, h3]) rfl hb (by simp [c0, l0, c1, l1, c2, l2, c3, l3]) hM (by simpa [c0, c1, c2, c3] using hk)
theorem WO_bsN5 {x0 x1 x2 x3 x4 : Operand} {v0 v1 v2 v3 v4 : Value} {d0 d1 d2 d3 d4 : List Value} (hop : o.op = .buildSlice t 5 #[(0, x0), (1, x1), (2, x2), (3, x3), (4, x4)]) [SliceT P t e sz] [ZeroT P e z] [ElemT P e z sz bytes] (h0 : ev f x0 = v0) (h1 : ev f x1 = v1) (h2 : ev f x2 = v2) (h3 : ev f x3 = v3) (h4 : ev f x4 = v4) (hb : 5 * sz ≤ 16777216) (hM : Own F W w l) (c0 : v0.cells = d0.toArray) (c1 : v1.cells = d1.toArray) (c2 : v2.cells = d2.toArray) (c3 : v3.cells = d3.toArray) (c4 : v4.cells = d4.toArray) (l0 : d0.length = sz) (l1 : d1.length = sz) (l2 : d2.length = sz) (l3 : d3.length = sz) (l4 : d4.length = sz) (hk : ∀ A c w', Own F W w' (.row A 5 c e sz (d0 ++ (d1 ++ (d2 ++ (d3 ++ (d4 ++ []))))) :: l) → K (.slice A 5 c) w') : WO P C o f w K :=
  WO_bsL [v0, v1, v2, v3, v4] hop (by simp [idx, h0, h1, h2, h3, h4]) rfl hb (by simp [c0, l0, c1, l1, c2, l2, c3, l3, c4, l4]) hM (by simpa [c0, c1, c2, c3, c4] using hk)
theorem WO_bsN6 {x0 x1 x2 x3 x4 x5 : Operand} {v0 v1 v2 v3 v4 v5 : Value} {d0 d1 d2 d3 d4 d5 : List Value} (hop : o.op = .buildSlice t 6 #[(0, x0), (1, x1), (2, x2), (3, x3), (4, x4), (5, x5)]) [SliceT P t e sz] [ZeroT P e z] [ElemT P e z sz bytes] (h0 : ev f x0 = v0) (h1 : ev f x1 = v1) (h2 : ev f x2 = v2) (h3 : ev f x3 = v3) (h4 : ev f x4 = v4) (h5 : ev f x5 = v5) (hb : 6 * sz ≤ 16777216) (hM : Own F W w l) (c0 : v0.cells = d0.toArray) (c1 : v1.cells = d1.toArray) (c2 : v2.cells = d2.toArray) (c3 : v3.cells = d3.toArray) (c4 : v4.cells = d4.toArray) (c5 : v5.cells = d5.toArray) (l0 : d0.length = sz) (l1 : d1.length = sz) (l2 : d2.length = sz) (l3 : d3.length = sz) (l4 : d4.length = sz) (l5 : d5.length = sz) (hk : ∀ A c w', Own F W w' (.row A 6 c e sz (d0 ++ (d1 ++ (d2 ++ (d3 ++ (d4 ++ (d5 ++ [])))))) :: l) → K (.slice A 6 c) w') : WO P C o f w K :=
  WO_bsL [v0, v1, v2, v3, v4, v5] hop (by simp [idx, h0, h1, h2, h3, h4, h5]) rfl hb (by simp [c0, l0, c1, l1, c2, l2, c3, l3, c4, l4, c5, l5]) hM (by simpa [c0, c1, c2, c3, c4, c5] using hk)
theorem WO_bsN7 {x0 x1 x2 x3 x4 x5 x6 : Operand} {v0 v1 v2 v3 v4 v5 v6 : Value} {d0 d1 d2 d3 d4 d5 d6 : List Value} (hop : o.op = .buildSlice t 7 #[(0, x0), (1, x1), (2, x2), (3, x3), (4, x4), (5, x5), (6, x6)]) [SliceT P t e sz] [ZeroT P e z] [ElemT P e z sz bytes] (h0 : ev f x0 = v0) (h1 : ev f x1 = v1) (h2 : ev f x2 = v2) (h3 : ev f x3 = v3) (h4 : ev f x4 = v4) (h5 : ev f x5 = v5) (h6 : ev f x6 = v6) (hb : 7 * sz ≤ 16777216) (hM : Own F W w l) (c0 : v0.cells = d0.toArray) (c1 : v1.cells = d1.toArray) (c2 : v2.cells = d2.toArray) (c3 : v3.cells = d3.toArray) (c4 : v4.cells = d4.toArray) (c5 : v5.cells = d5.toArray) (c6 : v6.cells = d6.toArray) (l0 : d0.length = sz) (l1 : d1.length = sz) (l2 : d2.length = sz) (l3 : d3.length = sz) (l4 : d4.length = sz) (l5 : d5.length = sz) (l6 : d6.length = sz) (hk : ∀ A c w', Own F W w' (.row A 7 c e sz (d0 ++ (d1 ++ (d2 ++ (d3 ++ (d4 ++ (d5 ++ (d6 ++ []))))))) :: l) → K (.slice A 7 c) w') : WO P C o f w K :=
  WO_bsL [v0, v1, v2, v3, v4, v5, v6] hop (by simp [idx, h0, h1, h2, h3, h4, h5, h6]) rfl hb (by simp [c0, l0, c1, l1, c2, l2, c3, l3, c4, l4, c5, l5, c6, l6]) hM (by simpa [c0, c1, c2, c3, c4, c5, c6] using hk)
theorem WO_bsN8 {x0 x1 x2 x3 x4 x5 x6 x7 : Operand} {v0 v1 v2 v3 v4 v5 v6 v7 : Value} {d0 d1 d2 d3 d4 d5 d6 d7 : List Value} (hop : o.op = .buildSlice t 8 #[(0, x0), (1, x1), (2, x2), (3, x3), (4, x4), (5, x5), (6, x6), (7, x7)]) [SliceT P t e sz] [ZeroT P e z] [ElemT P e z sz bytes] (h0 : ev f x0 = v0) (h1 : ev f x1 = v1) (h2 : ev f x2 = v2) (h3 : ev f x3 = v3) (h4 : ev f x4 = v4) (h5 : ev f x5 = v5) (h6 : ev f x6 = v6) (h7 : ev f x7 = v7) (hb : 8 * sz ≤ 16777216) (hM : Own F W w l) (c0 : v0.cells = d0.toArray) (c1 : v1.cells = d1.toArray) (c2 : v2.cells = d2.toArray) (c3 : v3.cells = d3.toArray) (c4 : v4.cells = d4.toArray) (c5 : v5.cells = d5.toArray) (c6 : v6.cells = d6.toArray) (c7 : v7.cells = d7.toArray) (l0 : d0.length = sz) (l1 : d1.length = sz) (l2 : d2.length = sz) (l3 : d3.length = sz) (l4 : d4.length = sz) (l5 : d5.length = sz) (l6 : d6.length = sz) (l7 : d7.length = sz) (hk : ∀ A c w', Own F W w' (.row A 8 c e sz (d0 ++ (d1 ++ (d2 ++ (d3 ++ (d4 ++ (d5 ++ (d6 ++ (d7 ++ [])))))))) :: l) → K (.slice A 8 c) w') : WO P C o f w K :=
  WO_bsL [v0, v1, v2, v3, v4, v5, v6, v7] hop (by simp [idx, h0, h1, h2, h3, h4, h5, h6, h7]) rfl hb (by simp [c0, l0, c1, l1, c2, l2, c3, l3, c4, l4, c5, l5, c6, l6, c7, l7]) hM (by simpa [c0, c1, c2, c3, c4, c5, c6, c7] using hk)
theorem WO_bsN9 {x0 x1 x2 x3 x4 x5 x6 x7 x8 : Operand} {v0 v1 v2 v3 v4 v5 v6 v7 v8 : Value} {d0 d1 d2 d3 d4 d5 d6 d7 d8 : List Value} (hop : o.op = .buildSlice t 9 #[(0, x0), (1, x1), (2, x2), (3, x3), (4, x4), (5, x5), (6, x6), (7, x7), (8, x8)]) [SliceT P t e sz] [ZeroT P e z] [ElemT P e z sz bytes] (h0 : ev f x0 = v0) (h1 : ev f x1 = v1) (h2 : ev f x2 = v2) (h3 : ev f x3 = v3) (h4 : ev f x4 = v4) (h5 : ev f x5 = v5) (h6 : ev f x6 = v6) (h7 : ev f x7 = v7) (h8 : ev f x8 = v8) (hb : 9 * sz ≤ 16777216) (hM : Own F W w l) (c0 : v0.cells = d0.toArray) (c1 : v1.cells = d1.toArray) (c2 : v2.cells = d2.toArray) (c3 : v3.cells = d3.toArray) (c4 : v4.cells = d4.toArray) (c5 : v5.cells = d5.toArray) (c6 : v6.cells = d6.toArray) (c7 : v7.cells = d7.toArray) (c8 : v8.cells = d8.toArray) (l0 : d0.length = sz) (l1 : d1.length = sz) (l2 : d2.length = sz) (l3 : d3.length = sz) (l4 : d4.length = sz) (l5 : d5.length = sz) (l6 : d6.length = sz) (l7 : d7.length = sz) (l8 : d8.length = sz) (hk : ∀ A c w', Own F W w' (.row A 9 c e sz (d0 ++ (d1 ++ (d2 ++ (d3 ++ (d4 ++ (d5 ++ (d6 ++ (d7 ++ (d8 ++ []))))))))) :: l) → K (.slice A 9 c) w') : WO P C o f w K :=
  WO_bsL [v0, v1, v2, v3, v4, v5, v6, v7, v8] hop (by simp [idx, h0, h1, h2, h3, h4, h5, h6, h7, h8]) rfl hb (by simp [c0, l0, c1, l1, c2, l2, c3, l3, c4, l4, c5, l5, c6, l6, c7, l7, c8, l8]) hM (by simpa [c0, c1, c2, c3, c4, c5, c6, c7, c8] using hk)
theorem WO_bsN10 {x0 x1 x2 x3 x4 x5 x6 x7 x8 x9 : Operand} {v0 v1 v2 v3 v4 v5 v6 v7 v8 v9 : Value} {d0 d1 d2 d3 d4 d5 d6 d7 d8 d9 : List Value} (hop : o.op = .buildSlice t 10 #[(0, x0), (1, x1), (2, x2), (3, x3), (4, x4), (5, x5), (6, x6), (7, x7), (8, x8), (9, x9)]) [SliceT P t e sz] [ZeroT P e z] [ElemT P e z sz bytes] (h0 : ev f x0 = v0) (h1 : ev f x1 = v1) (h2 : ev f x2 = v2) (h3 : ev f x3 = v3) (h4 : ev f x4 = v4) (h5 : ev f x5 = v5) (h6 : ev f x6 = v6) (h7 : ev f x7 = v7) (h8 : ev f x8 = v8) (h9 : ev f x9 = v9) (hb : 10 * sz ≤ 16777216) (hM : Own F W w l) (c0 : v0.cells = d0.toArray) (c1 : v1.cells = d1.toArray) (c2 : v2.cells = d2.toArray) (c3 : v3.cells = d3.toArray) (c4 : v4.cells = d4.toArray) (c5 : v5.cells = d5.toArray) (c6 : v6.cells = d6.toArray) (c7 : v7.cells = d7.toArray) (c8 : v8.cells = d8.toArray) (c9 : v9.cells = d9.toArray) (l0 : d0.length = sz) (l1 : d1.length = sz) (l2 : d2.length = sz) (l3 : d3.length = sz) (l4 : d4.length = sz) (l5 : d5.length = sz) (l6 : d6.length = sz) (l7 : d7.length = sz) (l8 : d8.length = sz) (l9 : d9.length = sz) (hk : ∀ A c w', Own F W w' (.row A 10 c e sz (d0 ++ (d1 ++ (d2 ++ (d3 ++ (d4 ++ (d5 ++ (d6 ++ (d7 ++ (d8 ++ (d9 ++ [])))))))))) :: l) → K (.slice A 10 c) w') : WO P C o f w K :=
  WO_bsL [v0, v1, v2, v3, v4, v5, v6, v7, v8, v9] hop (by simp [idx, h0, h1, h2, h3, h4, h5, h6, h7, h8, h9]) rfl hb (by simp [c0, l0, c1, l1, c2, l2, c3, l3, c4, l4, c5, l5, c6, l6, c7, l7, c8, l8, c9, l9]) hM (by simpa [c0, c1, c2, c3, c4, c5, c6, c7, c8, c9] using hk)
theorem WO_bsN11 {x0 x1 x2 x3 x4 x5 x6 x7 x8 x9 x10 : Operand} {v0 v1 v2 v3 v4 v5 v6 v7 v8 v9 v10 : Value} {d0 d1 d2 d3 d4 d5 d6 d7 d8 d9 d10 : List Value} (hop : o.op = .buildSlice t 11 #[(0, x0), (1, x1), (2, x2), (3, x3), (4, x4), (5, x5), (6, x6), (7, x7), (8, x8), (9, x9), (10, x10)]) [SliceT P t e sz] [ZeroT P e z] [ElemT P e z sz bytes] (h0 : ev f x0 = v0) (h1 : ev f x1 = v1) (h2 : ev f x2 = v2) (h3 : ev f x3 = v3) (h4 : ev f x4 = v4) (h5 : ev f x5 = v5) (h6 : ev f x6 = v6) (h7 : ev f x7 = v7) (h8 : ev f x8 = v8) (h9 : ev f x9 = v9) (h10 : ev f x10 = v10) (hb : 11 * sz ≤ 16777216) (hM : Own F W w l) (c0 : v0.cells = d0.toArray) (c1 : v1.cells = d1.toArray) (c2 : v2.cells = d2.toArray) (c3 : v3.cells = d3.toArray) (c4 : v4.cells = d4.toArray) (c5 : v5.cells = d5.toArray) (c6 : v6.cells = d6.toArray) (c7 : v7.cells = d7.toArray) (c8 : v8.cells = d8.toArray) (c9 : v9.cells = d9.toArray) (c10 : v10.cells = d10.toArray) (l0 : d0.length = sz) (l1 : d1.length = sz) (l2 : d2.length = sz) (l3 : d3.length = sz) (l4 : d4.length = sz) (l5 : d5.length = sz) (l6 : d6.length = sz) (l7 : d7.length = sz) (l8 : d8.length = sz) (l9 : d9.length = sz) (l10 : d10.length = sz) (hk : ∀ A c w', Own F W w' (.row A 11 c e sz (d0 ++ (d1 ++ (d2 ++ (d3 ++ (d4 ++ (d5 ++ (d6 ++ (d7 ++ (d8 ++ (d9 ++ (d10 ++ []))))))))))) :: l) → K (.slice A 11 c) w') : WO P C o f w K :=
  WO_bsL [v0, v1, v2, v3, v4, v5, v6, v7, v8, v9, v10] hop (by simp [idx, h0, h1, h2, h3, h4, h5, h6, h7, h8, h9, h10]) rfl hb (by simp [c0, l0, c1, l1, c2, l2, c3, l3, c4, l4, c5, l5, c6, l6, c7, l7, c8, l8, c9, l9, c10, l10]) hM (by simpa [c0, c1, c2, c3, c4, c5, c6, c7, c8, c9, c10] using hk)
theorem WO_bsN12 {x0 x1 x2 x3 x4 x5 x6 x7 x8 x9 x10 x11 : Operand} {v0 v1 v2 v3 v4 v5 v6 v7 v8 v9 v10 v11 : Value} {d0 d1 d2 d3 d4 d5 d6 d7 d8 d9 d10 d11 : List Value} (hop : o.op = .buildSlice t 12 #[(0, x0), (1, x1), (2, x2), (3, x3), (4, x4), (5, x5), (6, x6), (7, x7), (8, x8), (9, x9), (10, x10), (11, x11)]) [SliceT P t e sz] [ZeroT P e z] [ElemT P e z sz bytes] (h0 : ev f x0 = v0) (h1 : ev f x1 = v1) (h2 : ev f x2 = v2) (h3 : ev f x3 = v3) (h4 : ev f x4 = v4) (h5 : ev f x5 = v5) (h6 : ev f x6 = v6) (h7 : ev f x7 = v7) (h8 : ev f x8 = v8) (h9 : ev f x9 = v9) (h10 : ev f x10 = v10) (h11 : ev f x11 = v11) (hb : 12 * sz ≤ 16777216) (hM : Own F W w l) (c0 : v0.cells = d0.toArray) (c1 : v1.cells = d1.toArray) (c2 : v2.cells = d2.toArray) (c3 : v3.cells = d3.toArray) (c4 : v4.cells = d4.toArray) (c5 : v5.cells = d5.toArray) (c6 : v6.cells = d6.toArray) (c7 : v7.cells = d7.toArray) (c8 : v8.cells = d8.toArray) (c9 : v9.cells = d9.toArray) (c10 : v10.cells = d10.toArray) (c11 : v11.cells = d11.toArray) (l0 : d0.length = sz) (l1 : d1.length = sz) (l2 : d2.length = sz) (l3 : d3.length = sz) (l4 : d4.length = sz) (l5 : d5.length = sz) (l6 : d6.length = sz) (l7 : d7.length = sz) (l8 : d8.length = sz) (l9 : d9.length = sz) (l10 : d10.length = sz) (l11 : d11.length = sz) (hk : ∀ A c w', Own F W w' (.row A 12 c e sz (d0 ++ (d1 ++ (d2 ++ (d3 ++ (d4 ++ (d5 ++ (d6 ++ (d7 ++ (d8 ++ (d9 ++ (d10 ++ (d11 ++ [])))))))))))) :: l) → K (.slice A 12 c) w') : WO P C o f w K :=
  WO_bsL [v0, v1, v2, v3, v4, v5, v6, v7, v8, v9, v10, v11] hop (by simp [idx, h0, h1, h2, h3, h4, h5, h6, h7, h8, h9, h10, h11]) rfl hb (by simp [c0, l0, c1, l1, c2, l2, c3, l3, c4, l4, c5, l5, c6, l6, c7, l7, c8, l8, c9, l9, c10, l10, c11, l11]) hM (by simpa [c0, c1, c2, c3, c4, c5, c6, c7, c8, c9, c10, c11] using hk)

instance iss_app {T : Type} (enc : T → List Value) (a b : List Value) (L M : List T) [ha : Iss enc a L] [hb : Iss enc b M] : Iss enc (a ++ b) (L ++ M) := ⟨by rw [ha.h, hb.h, List.flatMap_append]⟩
/-- append onto a row of the call's own. -/
theorem WO_appO {T : Type} {enc : T → List Value} {L M : List T} {l' : Option Addr → Nat → List Res} (hop : o.op = .call { callee := .builtin .append, args := #[x, y], argTypes := #[t, t] }) [SliceT P t e sz] [ElemT P e z sz bytes] [E : EncT P e T enc sz]
    (hx : ev f x = .slice A n c) (hy : ev f y = .slice A' m c') (hM : Own F W w l) (hu : ∀ A1 c1, Upd l (.row A n c e sz cs) (.row A1 (n + m) c1 e sz ((L ++ M).flatMap enc)) (l' A1 c1)) (hL : Iss enc cs L) (hr : Rd w A' m sz news) (hN : Iss enc news M)
    (h63 : n + m ≤ 9223372036854775807) (hby : (n + m) * bytes ≤ 140737488355328)
    (hk : ∀ A1 c1 w', Own F W w' (l' A1 c1) → K (.slice A1 (n + m) c1) w') : WO P C o f w K := by
  have hown : w.ownsRow 0 e sz (.slice A n c) n cs := hM.ok _ (hu none 0).old
  have EL : ElemT P e z sz bytes := inferInstance
  have hS : SliceT P t e sz := inferInstance
  have key : ∃ v' w', (Builtin.append_ #[t, t] o.type #[.slice A n c, .slice A' m c']).run P w = .ok v' w' ∧ w'.ownsRow 0 e sz v' (n + m) (cs ++ news) ∧ w.grownBy w' (blockOf A) ∧ (v'.ownBlock = blockOf A ∨ v'.ownBlock = some w.heap.size) := by
    obtain ⟨i0, hi0, hz0, hz1, hz2⟩ := info_parts EL.h
    rw [← ownBlock_slice A n c]
    rcases Nat.eq_zero_or_pos m with hm | hm
    · subst hm
      have hnil : news = [] := List.eq_nil_of_length_eq_zero (by rw [hr.1]; simp)
      subst hnil
      cases A' with
      | some a =>
        obtain ⟨v', w', hrun, h2, h3, _, h5⟩ := run_append_own_at (P := P) w 0 t o.type e i0 z sz bytes hS.h hi0 hz0 hz1 hz2 EL.c EL.p _ n cs hown a 0 c' [] (by simp) (by simp) (by simp) (by unfold maxLen; omega) hby (Nat.zero_le _)
        exact ⟨v', w', hrun, h2, h3, h5⟩
      | none =>
        refine ⟨.slice A n c, w, ?_, by simpa using hown, World.grownBy.refl w _, .inl rfl⟩
        rcases hown.2 with ⟨hv, _⟩ | ⟨g, cap, cur, hv, _, _, hnc, _⟩
        · rw [hv]
          simp [Builtin.append_, run_underlying hS.h, sizeOf, typeInfo, hi0, Builtin.lenOf, Builtin.firstCells]
        · rw [hv]
          simp [Builtin.append_, run_underlying hS.h, sizeOf, typeInfo, hi0, Builtin.lenOf, Builtin.firstCells, hnc, storeCells]
    · obtain ⟨a, rfl⟩ := hr.some_ hm EL.p
      obtain ⟨v', w', hrun, h2, h3, _, h5⟩ := run_append_own_at (P := P) w 0 t o.type e i0 z sz bytes hS.h hi0 hz0 hz1 hz2 EL.c EL.p _ n cs hown a m c' news hr.1 (fun j u hj => by
        obtain ⟨a', ha', hc'⟩ := hr.2 j u hj
        cases ha'
        exact hc') (fun u hu => by
        rw [hN.h] at hu
        obtain ⟨x, _, hx'⟩ := List.mem_flatMap.1 hu
        exact E.one x u hx') (by unfold maxLen; omega) hby (Nat.zero_le _)
      exact ⟨v', w', hrun, h2, h3, h5⟩
  obtain ⟨v', w', hrun, hown', hg, hplace⟩ := key
  have hform : ∃ A1 c1, v' = .slice A1 (n + m) c1 := by
    rcases hown'.2 with ⟨hv, hx⟩ | ⟨g, cap, cur, hv, _⟩
    · exact ⟨none, 0, by rw [hx]; exact hv⟩
    · exact ⟨_, _, hv⟩
  obtain ⟨A1, c1, rfl⟩ := hform
  rw [ownBlock_slice] at hplace
  rw [hL.h, hN.h, ← List.flatMap_append] at hown'
  refine WO_eff ?_ (hk A1 c1 w' (hM.upd (hu A1 c1) hg hown' ?_))
  · simp [execOp, hop, resolve, invoke, builtin, hx, hy, hrun, Result.andThen]
  · rcases hplace with h | h
    · exact .inl h
    · exact .inr fun k he => by rw [show (Res.row A1 (n + m) c1 e sz ((L ++ M).flatMap enc)).key = blockOf A1 from rfl, h] at he; cases he; exact Nat.le_refl _
/-- .. of a slice that was just written out, and is let go. -/
theorem WO_appT {T : Type} {enc : T → List Value} {L M : List T} {l' : Option Addr → Nat → List Res} (hop : o.op = .call { callee := .builtin .append, args := #[x, y], argTypes := #[t, t] }) [SliceT P t e sz] [ElemT P e z sz bytes] [EncT P e T enc sz]
    (hx : ev f x = .slice A n c) (hy : ev f y = .slice A' m c') (hM : Own F W w (.row A' m c' e sz news :: l)) (hu : ∀ A1 c1, Upd l (.row A n c e sz cs) (.row A1 (n + m) c1 e sz ((L ++ M).flatMap enc)) (l' A1 c1)) (hL : Iss enc cs L) (hN : Iss enc news M)
    (h63 : n + m ≤ 9223372036854775807) (hby : (n + m) * bytes ≤ 140737488355328)
    (hk : ∀ A1 c1 w', Own F W w' (l' A1 c1) → K (.slice A1 (n + m) c1) w') : WO P C o f w K :=
  WO_appO (l' := fun A1 c1 => .row A' m c' e sz news :: l' A1 c1) hop hx hy hM (fun A1 c1 => .tail (hu A1 c1)) hL (hM.rd (.head _)) hN h63 hby (fun A1 c1 w' h => hk A1 c1 w' h.tl)
/-- .. onto nothing. -/
theorem WO_appZ {T : Type} {enc : T → List Value} {M : List T} (hop : o.op = .call { callee := .builtin .append, args := #[x, y], argTypes := #[t, t] }) [SliceT P t e sz] [ElemT P e z sz bytes] [EncT P e T enc sz]
    (hx : ev f x = .slice none 0 0) (hy : ev f y = .slice A' m c') (hM : Own F W w l) (hr : Rd w A' m sz news) (hN : Iss enc news M)
    (h63 : m ≤ 9223372036854775807) (hby : m * bytes ≤ 140737488355328)
    (hk : ∀ A1 c1 w', Own F W w' (.row A1 m c1 e sz (M.flatMap enc) :: l) → K (.slice A1 m c1) w') : WO P C o f w K :=
  WO_appO (L := []) (l' := fun A1 c1 => .row A1 (0 + m) c1 e sz (M.flatMap enc) :: l) hop hx hy (hM.nil e sz) (fun A1 c1 => by simpa using Upd.head) ⟨rfl⟩ hr hN (by omega) (by simpa using hby) (fun A1 c1 w' h => by simpa using hk A1 c1 w' (by simpa using h))
/-- make([]T, n), of elements of one cell. -/
theorem WO_makeO {T : Type} {enc : T → List Value} {z0 : T} {k k' : IntKind} {j : Int} {jn : Nat} (hop : o.op = .makeSlice t x y) [SliceT P t e 1] [ElemT P e z 1 bytes] [EncT P e T enc 1] (hz : [z] = enc z0) (hx : ev f x = .int k j) (hy : ev f y = .int k' j) (h0 : 0 ≤ j) [hj : ToN j jn] (hb : bytes * j.toNat ≤ 281474976710656) (h63 : j ≤ 9223372036854775807)
    (hM : Own F W w l) (hk : ∀ A w', Own F W w' (.row A jn jn e 1 ((List.replicate jn z0).flatMap enc) :: l) → K (.slice A jn jn) w') : WO P C o f w K := by
  have hjn0 := hj.h
  subst hjn0
  have EL : ElemT P e z 1 bytes := inferInstance
  have hS : SliceT P t e 1 := inferInstance
  have E : EncT P e T enc 1 := inferInstance
  obtain ⟨i0, hi0, hz0, hz1, hz2⟩ := info_parts EL.h
  have hjn : ((j.toNat : Nat) : Int) = j := Int.toNat_of_nonneg h0
  obtain ⟨w', hrun, hown, hg⟩ := run_make_full (P := P) w 0 t e i0 z 1 hS.h hi0 hz0 hz1 k k' j.toNat (by rw [hz2]; exact hb) (by unfold maxLen; omega) (Nat.zero_le _)
  rw [hjn] at hrun
  refine WO_eff (w' := w') ?_ (hk (some ⟨w.heap.size, 0, none⟩) w' (hM.add hg ?_ ?_))
  · simp [execOp, hop, hx, hy, hrun, Result.andThen]
  · have hc : z.cells = #[z] := by
      have h1 := E.one z0 z (by rw [← hz]; simp)
      cases z <;> first | rfl | (simp [Value.oneCell'] at h1)
    rw [hc, Nat.mul_one, toList_madeCells_one] at hown
    have : (List.replicate j.toNat z0).flatMap enc = List.replicate j.toNat z := by
      induction j.toNat with
      | zero => rfl
      | succ m ih => rw [List.replicate_succ, List.flatMap_cons, ih, ← hz]; rfl
    rw [this]
    exact hown
  · intro q e
    cases e
    exact Nat.le_refl _
theorem row_base {w : World} {B : Nat} {e : TypeId} {sz n : Nat} {v : Value} {cs : List Value} (h : w.ownsRow B e sz v n cs) : w.ownsRow 0 e sz v n cs :=
  ⟨h.1, h.2.imp id fun ⟨g, cap, cur, h1, _, h2⟩ => ⟨g, cap, cur, h1, Nat.zero_le _, h2⟩⟩
/-! ### contracts, found by the callee's number -/
class ConP (P : Program) (g : FuncId) (args : Array Value) (T : outParam Type) (pre : outParam (T → World → Prop)) (v : outParam (T → Value)) : Prop where
  h : ∀ t w, pre t w → Calls P g args w fun e w' => e = .returned (v t) ∧ w = w'
class ConB (P : Program) (g : FuncId) (args : Array Value) (T : outParam Type) (pre : outParam (T → World → Prop)) (v : outParam (T → Value)) : Prop where
  h : ∀ t w, pre t w → Calls P g args w fun e w' => e = .returned (v t) ∧ Below w.heap.size w w'
/-- What a call hands back: a new row. -/
def Gives (w w' : World) (A : Option Addr) (n c : Nat) (e : TypeId) (sz : Nat) (cs : List Value) : Prop := Below w.heap.size w w' ∧ w'.ownsRow w.heap.size e sz (.slice A n c) n cs
class ConR (P : Program) (g : FuncId) (args : Array Value) (T : outParam Type) (pre : outParam (T → World → Prop)) (e : outParam TypeId) (sz : outParam Nat) (n : outParam (T → Nat)) (cs : outParam (T → List Value)) : Prop where
  h : ∀ t w, pre t w → Calls P g args w fun en w' => ∃ A c, en = .returned (.slice A (n t) c) ∧ Gives w w' A (n t) c e sz (cs t)
theorem Own.give (h : Own F W w l) {w' : World} (hg : Gives w w' A n c e sz cs) : Own F W w' (.row A n c e sz cs :: l) :=
  h.add (grown_of_below hg.1) (row_base hg.2) (fun k hk => (hg.2.lt k (by rw [ownBlock_slice]; exact hk)).1)
/-- Out of the call's own things: what is handed back. -/
theorem Own.gives (h : Own [] W w (.row A n c e sz cs :: l)) : Gives W w A n c e sz cs := by
  refine ⟨h.below, ?_⟩
  have h1 : w.ownsRow 0 e sz (.slice A n c) n cs := h.ok _ (.head _)
  refine ⟨h1.1, ?_⟩
  rcases h1.2 with h2 | ⟨g, cap, cur, hv, hb, hr⟩
  · exact .inl h2
  · refine .inr ⟨g, cap, cur, hv, ?_, hr⟩
    injection hv with hA
    rcases h.own _ (.head _) g (by rw [show (Res.row A n c e sz cs).key = blockOf A from rfl, hA]; rfl) with h3 | h3
    · exact h3
    · cases h3
section
variable {G : FuncId} {args : Array Value} {T : Type} {pre : T → World → Prop} {val : T → Value} {nn : T → Nat} {ccs : T → List Value}
theorem callT_P [h : ConP P G args T pre val] (t : T) (hp : pre t w) (hk : K (val t) w) : callT P G args w K :=
  (h.h t w hp).mono fun _ _ ⟨he, hw⟩ => ⟨_, he, hw ▸ hk⟩
theorem callS_P [h : ConP P G args T pre val] (t : T) (hp : pre t w) (hk : K (val t) w) : callS P w G args w K :=
  ⟨rfl, _, (h.h t w hp).mono fun _ _ ⟨he, hw⟩ => ⟨he, hw.symm⟩, hk⟩
theorem callT_B [h : ConB P G args T pre val] (t : T) (hM : Own F W w l) (hp : pre t w) (hk : ∀ w', Own F W w' l → K (val t) w') : callT P G args w K :=
  (h.h t w hp).mono fun _ _ ⟨he, hw⟩ => ⟨_, he, hk _ (hM.call hw)⟩
theorem callT_R [h : ConR P G args T pre e sz nn ccs] (t : T) (hM : Own F W w l) (hp : pre t w) (hk : ∀ A c w', Own F W w' (.row A (nn t) c e sz (ccs t) :: l) → K (.slice A (nn t) c) w') : callT P G args w K :=
  (h.h t w hp).mono fun _ _ ⟨_, _, he, hw⟩ => ⟨_, he, hk _ _ _ (hM.give hw)⟩
end
end
theorem wanted_undef {n : Nat} {f : Fr} {ops : Array Oper} {o : Oper} {a : Act} {j d : Nat} {b : Bool} (ha : Is n a f) (hg : o.guard = some (j, b)) (hj : (ops[j]?).bind (·.dst) = some d) (hv : f d = undef) : Region.wanted o (yielded ops a.tmps) = false := by
  have h1 := ha.get d
  rw [hv] at h1
  simp only [Region.wanted, hg, yielded, hj, Option.bind_some]
  cases hx : a.tmps[d]? with
  | none => cases b <;> rfl
  | some u =>
    have : u = undef := by simp [hx] at h1; exact h1
    subst this
    cases b <;> rfl
/-! ### joints of the driver: what it leaves is told in one proposition -/
structure Lft (A : Prop) : Prop where out : A
structure Two (A B : Prop) : Prop where
  l : A
  r : B
theorem go {G L : Prop} (k : L) (h : Lft L → G) : G := h ⟨k⟩
theorem lft {A : Prop} (h : Lft (Lft A)) : A := h.out.out
theorem pushAll {α : Sort _} {A G : α → Prop} (hk : Lft (∀ x, A x)) (h : ∀ x, Lft (A x) → G x) : ∀ x, G x := fun x => h x ⟨hk.out x⟩
theorem pushTwo {A B G H : Prop} (hk : Lft (A ∧ B)) (h1 : Lft A → G) (h2 : Lft B → H) : Two G H := ⟨h1 ⟨hk.out.1⟩, h2 ⟨hk.out.2⟩⟩
section
variable {P : Program} {n : Nat} {Q : Exit → Fr → World → Prop} {f : Fr} {w : World} {ops : Array Oper} {o : Oper} {rest : List Oper} {x y : Code} {c : Operand} {p : Prop} [Decidable p] {t : Bool} {j d : Nat} {b : Bool} {K : Fr → Prop}
theorem WC_cond_dec2 (hc : ev f c = .bool (decide p)) (h : Two (p → WC P n Q x f w) (¬p → WC P n Q y f w)) : WC P n Q (.cond c x y) f w := WC_cond_dec hc h.l h.r
theorem WC_cond2 (hc : ev f c = .bool t) (h : Two (t = true → WC P n Q x f w) (t = false → WC P n Q y f w)) : WC P n Q (.cond c x y) f w := WC_cond hc h.l h.r
theorem WL_split_dec2 (hg : o.guard = some (j, b)) (hj : (ops[j]?).bind (·.dst) = some d) (hv : f d = .bool (decide p))
    (h : Two (p → WL P ops n Q (o :: rest) (upd f d (.bool true)) w) (¬p → WL P ops n Q (o :: rest) (upd f d (.bool false)) w)) : WL P ops n Q (o :: rest) f w := WL_split_dec hg hj hv h.l h.r
theorem WL_split2 (hg : o.guard = some (j, b)) (hj : (ops[j]?).bind (·.dst) = some d) (hv : f d = .bool t)
    (h : Two (t = true → WL P ops n Q (o :: rest) (upd f d (.bool true)) w) (t = false → WL P ops n Q (o :: rest) (upd f d (.bool false)) w)) : WL P ops n Q (o :: rest) f w := WL_split hg hj hv h.l h.r
theorem WS_split_dec2 (hg : o.guard = some (j, b)) (hj : (ops[j]?).bind (·.dst) = some d) (hv : f d = .bool (decide p))
    (h : Two (p → WS P ops n w K (o :: rest) (upd f d (.bool true))) (¬p → WS P ops n w K (o :: rest) (upd f d (.bool false)))) : WS P ops n w K (o :: rest) f := WS_split_dec hg hj hv h.l h.r
theorem WS_split2 (hg : o.guard = some (j, b)) (hj : (ops[j]?).bind (·.dst) = some d) (hv : f d = .bool t)
    (h : Two (t = true → WS P ops n w K (o :: rest) (upd f d (.bool true))) (t = false → WS P ops n w K (o :: rest) (upd f d (.bool false)))) : WS P ops n w K (o :: rest) f := WS_split hg hj hv h.l h.r
/-- Quiet, and no call of a function. -/
def quietOp2 : Op → Bool
  | .call { callee := .builtin b, .. } => quietOp (.call { callee := .builtin b, args := #[], argTypes := #[] })
  | .call _ => false
  | o => quietOp o
theorem WC_stillO {F : List Nat} {W : World} {L : List Res} {id : Nat} {l : List Oper} (hm : P.follows .mixedOrders = true) (hB : Region.lexB .any l.toArray = true) (hM : Own F W w L)
    (h : ∀ w1, Own F W w1 L → WS P l.toArray n w1 (fun f' => Q .normal f' w1) l f) : WC P n Q (.region id l.toArray true) f w := by
  have h1 := h _ hM.drew
  unfold WS at h1
  unfold WC
  intro a ha
  exact wp_region_still hm hB (h1 a ha)
theorem WC_stillA {F : List Nat} {W : World} {L : List Res} {id : Nat} {l : List Oper} (hm : P.follows .mixedOrders = true) (_hq : (l.all fun o => quietOp2 o.op) = true) (hB : Region.lexB .any l.toArray = true) (hM : Own F W w L)
    (h : ∀ w1, Own F W w1 L → WS P l.toArray n w1 (fun f' => Q .normal f' w1) l f) : WC P n Q (.region id l.toArray true) f w := WC_stillO hm hB hM h
theorem WC_tailO {F : List Nat} {W : World} {L : List Res} {id : Nat} {l : List Oper} (m : Nat) (hm : P.follows .mixedOrders = true) (_hq : ((l.take m).all fun o => quietOp2 o.op) = true) (hB : Region.lexTailB .any l.toArray m = true) (hM : Own F W w L)
    (h : ∀ w1, Own F W w1 L → WS P l.toArray n w1 (fun f' => WL P l.toArray n Q (l.drop m) f' w1) (l.take m) f) : WC P n Q (.region id l.toArray true) f w :=
  WC_tail m hm hB (h _ hM.drew)
/-- The text's order as a plan. -/
def textPlan : Nat → List Oper → List (Nat × Bool)
  | _, [] => []
  | i, o :: l => (i, !quietOp2 o.op) :: textPlan (i + 1) l
theorem WC_planT {F : List Nat} {W : World} {L : List Res} {id : Nat} {l : List Oper} (hm : P.follows .mixedOrders = true) (hB : planOk l.toArray (textPlan 0 l) = true) (hM : Own F W w L)
    (h : ∀ w1, Own F W w1 L → WH P l.toArray n (fun w2 => Own F W w2 []) (fun f' w' => Q .normal f' w') (textPlan 0 l) f w1) : WC P n Q (.region id l.toArray true) f w :=
  WC_plan _ _ hm hB hM.drew.nul (h _ hM.drew)
/-- .. where all that is done is calls: the call's own things stay. 'quietOp3' is a name for that. -/
def quietOp3 (o : Oper) : Bool := quietOp o.op
theorem WC_planC {F : List Nat} {W : World} {L : List Res} {id : Nat} {l : List Oper} (hm : P.follows .mixedOrders = true) (_hq : (l.all quietOp3) = true) (hB : planOk l.toArray (textPlan 0 l) = true) (hM : Own F W w L)
    (h : ∀ w1, Own F W w1 L → WH P l.toArray n (fun w2 => Own F W w2 L) (fun f' w' => Q .normal f' w') (textPlan 0 l) f w1) : WC P n Q (.region id l.toArray true) f w :=
  WC_plan _ _ hm hB hM.drew (h _ hM.drew)
theorem WC_planO {F : List Nat} {W : World} {L : List Res} {id : Nat} {l : List Oper} (pl : List (Nat × Bool)) (hm : P.follows .mixedOrders = true) (hB : planOk l.toArray pl = true) (hM : Own F W w L)
    (h : ∀ w1, Own F W w1 L → WH P l.toArray n (fun w2 => Own F W w2 L) (fun f' w' => Q .normal f' w') pl f w1) : WC P n Q (.region id l.toArray true) f w :=
  WC_plan _ _ hm hB hM.drew (h _ hM.drew)
theorem WL_skipU {e : Nat} (hg : o.guard = some (j, b)) (hj : (ops[j]?).bind (·.dst) = some d) (hv : f d = undef) (h0 : o.dst = some e) (hd : Nat.blt e n = true) (h : WL P ops n Q rest (upd f e undef) w) : WL P ops n Q (o :: rest) f w := by
  unfold WL at h ⊢
  intro a ha
  refine wpList_step fun K hK => ?_
  rw [wanted_undef ha hg hj hv]
  simp only [Bool.false_eq_true, if_false]
  have h2 := h _ (ha.put (some e) undef hd)
  rw [← h0] at h2
  exact hK _ _ h2
theorem WS_skipU {e : Nat} (hg : o.guard = some (j, b)) (hj : (ops[j]?).bind (·.dst) = some d) (hv : f d = undef) (h0 : o.dst = some e) (hd : Nat.blt e n = true) (h : WS P ops n w K rest (upd f e undef)) : WS P ops n w K (o :: rest) f := by
  unfold WS at h ⊢
  intro a ha
  refine wpStill_step fun K' hK => ?_
  rw [wanted_undef ha hg hj hv]
  simp only [Bool.false_eq_true, if_false]
  have h2 := h _ (ha.put (some e) undef hd)
  rw [← h0] at h2
  exact hK _ h2
variable {S : World → Prop} {KK : Fr → World → Prop} {pl : List (Nat × Bool)} {i : Nat} {q : Bool} {o' : Option Nat} {op : Op} {ty : TypeId} {ps : String} {af : Array Edge}
theorem WH_split_dec2 (hi : ops[i]? = some ⟨o', op, ty, ps, af, some (j, b)⟩) (hj : (ops[j]?).bind (·.dst) = some d) (hv : f d = .bool (decide p))
    (h : Two (p → WH P ops n S KK ((i, q) :: pl) (upd f d (.bool true)) w) (¬p → WH P ops n S KK ((i, q) :: pl) (upd f d (.bool false)) w)) : WH P ops n S KK ((i, q) :: pl) f w := WH_split_dec hi hj hv h.l h.r
theorem WH_split2 (hi : ops[i]? = some ⟨o', op, ty, ps, af, some (j, b)⟩) (hj : (ops[j]?).bind (·.dst) = some d) (hv : f d = .bool t)
    (h : Two (t = true → WH P ops n S KK ((i, q) :: pl) (upd f d (.bool true)) w) (t = false → WH P ops n S KK ((i, q) :: pl) (upd f d (.bool false)) w)) : WH P ops n S KK ((i, q) :: pl) f w := WH_split hi hj hv h.l h.r
theorem WH_q0 {v : Value} {d : Nat} (hi : ops[i]? = some ⟨some d, op, ty, ps, af, none⟩) (hd : Nat.blt d n = true) (h : ∀ w', S w' → WO P callN ⟨some d, op, ty, ps, af, none⟩ f w' fun v' w'' => v' = v ∧ w'' = w') (hv : notTup v = true)
    (hk : WH P ops n S KK pl (upd f d v) w) : WH P ops n S KK ((i, false) :: pl) f w := WH_q hi hd h hv fun _ => hk
theorem WH_qt0 {v : Value} {d e : Nat} (hi : ops[i]? = some ⟨some d, op, ty, ps, af, some (j, b)⟩) (hj : (ops[j]?).bind (·.dst) = some e) (hc : f e = .bool b) (hd : Nat.blt d n = true) (h : ∀ w', S w' → WO P callN ⟨some d, op, ty, ps, af, some (j, b)⟩ f w' fun v' w'' => v' = v ∧ w'' = w') (hv : notTup v = true)
    (hk : WH P ops n S KK pl (upd f d v) w) : WH P ops n S KK ((i, false) :: pl) f w := WH_qt hi hj hc hd h hv fun _ => hk
theorem WH_qs0 {d e : Nat} {c : Bool} (hi : ops[i]? = some ⟨some d, op, ty, ps, af, some (j, b)⟩) (hj : (ops[j]?).bind (·.dst) = some e) (hv : f e = .bool c) (hc : (c == b) = false) (hd : Nat.blt d n = true)
    (hk : WH P ops n S KK pl (upd f d undef) w) : WH P ops n S KK ((i, false) :: pl) f w := WH_qs hi hj hv hc hd fun _ => hk
theorem WH_e0 {d : Nat} (hi : ops[i]? = some ⟨some d, op, ty, ps, af, none⟩) (hd : Nat.blt d n = true) (h : WO P (callT P) ⟨some d, op, ty, ps, af, none⟩ f w fun v w' => S w' ∧ WH P ops n S KK pl (upd f d v) w') : WH P ops n S KK ((i, true) :: pl) f w := WH_e hi hd fun _ => h
theorem WH_en0 (hi : ops[i]? = some ⟨none, op, ty, ps, af, none⟩) (h : WO P (callT P) ⟨none, op, ty, ps, af, none⟩ f w fun _ w' => S w' ∧ WH P ops n S KK pl f w') : WH P ops n S KK ((i, true) :: pl) f w := WH_en hi fun _ => h
theorem WH_et0 {d e : Nat} (hi : ops[i]? = some ⟨some d, op, ty, ps, af, some (j, b)⟩) (hj : (ops[j]?).bind (·.dst) = some e) (hc : f e = .bool b) (hd : Nat.blt d n = true) (h : WO P (callT P) ⟨some d, op, ty, ps, af, some (j, b)⟩ f w fun v w' => S w' ∧ WH P ops n S KK pl (upd f d v) w') : WH P ops n S KK ((i, true) :: pl) f w := WH_et hi hj hc hd fun _ => h
theorem WH_es0 {d e : Nat} {c : Bool} (hi : ops[i]? = some ⟨some d, op, ty, ps, af, some (j, b)⟩) (hj : (ops[j]?).bind (·.dst) = some e) (hv : f e = .bool c) (hc : (c == b) = false) (hd : Nat.blt d n = true)
    (hk : WH P ops n S KK pl (upd f d undef) w) : WH P ops n S KK ((i, true) :: pl) f w := WH_es hi hj hv hc hd fun _ => hk
theorem WH_qU {d e : Nat} (hi : ops[i]? = some ⟨some d, op, ty, ps, af, some (j, b)⟩) (hj : (ops[j]?).bind (·.dst) = some e) (hv : f e = undef) (hd : Nat.blt d n = true)
    (hk : WH P ops n S KK pl (upd f d undef) w) : WH P ops n S KK ((i, false) :: pl) f w :=
  WH_qq hi hd (fun _ ha => .inr ⟨wanted_undef ha rfl hj hv, rfl⟩) fun _ => hk
theorem WH_eU {d e : Nat} (hi : ops[i]? = some ⟨some d, op, ty, ps, af, some (j, b)⟩) (hj : (ops[j]?).bind (·.dst) = some e) (hv : f e = undef) (hd : Nat.blt d n = true)
    (hk : WH P ops n S KK pl (upd f d undef) w) : WH P ops n S KK ((i, true) :: pl) f w := by
  unfold WH at hk ⊢
  intro a listed ha hs hp hS
  simp only [planB, Bool.and_eq_true, if_true, beq_iff_eq] at hp
  refine wpAnyH_all hp.1 (by simp) fun x hx => ?_
  obtain rfl : x = i := by simpa using hx
  have hw : Region.wanted (⟨some d, op, ty, ps, af, some (j, b)⟩ : Oper) (yielded ops a.tmps) = false := wanted_undef ha rfl hj hv
  unfold wpOp
  simp only [hi, hw, Bool.false_eq_true, if_false]
  exact ⟨hS, hk _ _ (ha.put (some d) undef hd) hs hp.2 hS⟩
theorem shape_OW {F : List Nat} {W w : World} {A : Prop} (h1 : Own F W w []) (h : A) : Own F W w [] ∧ A := ⟨h1, h⟩
theorem shape_OL {F : List Nat} {W w : World} {l : List Res} {A : Prop} (h1 : Own F W w l) (h : A) : Own F W w l ∧ A := ⟨h1, h⟩
theorem shape_SW {A : Prop} (h1 : S w) (h : A) : S w ∧ A := ⟨h1, h⟩
end
section
variable {P : Program} {fn : Func} {RR : Ending → World → Prop} {e : Exit} {f : Fr} {F : List Nat} {W w : World} {l : List Res} {g g2 p q r : Nat} {t t2 u u2 : TypeId} {cs ds : List Value} {m k : Nat} {v : Value} (he : e = .ret ∨ e = .normal)
include he
theorem retO {H : Own F W w l} (h : fn.results = #[.cell p t]) (hp : f p = .pointer (some ⟨g, 0, none⟩)) [KindT P t true] [SzT P t m] (hm : .blk g u cs ∈ l) (hn : cs.length = m) (hr : RR (.returned (.agg cs.toArray)) w) : retQ P fn RR e f w :=
  retC he h hp hn (H.rowAt hm) hr
theorem retOT {H : Own F W w l} (h : fn.results = #[.cell p t, .tmp q]) (hp : f p = .pointer (some ⟨g, 0, none⟩)) (hq : f q = v) [KindT P t true] [SzT P t m] (hm : .blk g u cs ∈ l) (hn : cs.length = m) (hr : RR (.returned (.tuple #[.agg cs.toArray, v])) w) : retQ P fn RR e f w :=
  retCT he h hp hq hn (H.rowAt hm) hr
theorem retOO {H : Own F W w l} (h : fn.results = #[.cell p t, .cell q t2]) (hp : f p = .pointer (some ⟨g, 0, none⟩)) (hq : f q = .pointer (some ⟨g2, 0, none⟩)) [KindT P t true] [SzT P t m] [KindT P t2 true] [SzT P t2 k] (hm : .blk g u cs ∈ l) (hm2 : .blk g2 u2 ds ∈ l) (hn : cs.length = m) (hn2 : ds.length = k) (hr : RR (.returned (.tuple #[.agg cs.toArray, .agg ds.toArray])) w) : retQ P fn RR e f w :=
  retCC he h hp hq hn hn2 (H.rowAt hm) (H.rowAt hm2) hr
theorem retOOT {H : Own F W w l} (h : fn.results = #[.cell p t, .cell q t2, .tmp r]) (hp : f p = .pointer (some ⟨g, 0, none⟩)) (hq : f q = .pointer (some ⟨g2, 0, none⟩)) (hv : f r = v) [KindT P t true] [SzT P t m] [KindT P t2 true] [SzT P t2 k] (hm : .blk g u cs ∈ l) (hm2 : .blk g2 u2 ds ∈ l) (hn : cs.length = m) (hn2 : ds.length = k) (hr : RR (.returned (.tuple #[.agg cs.toArray, .agg ds.toArray, v])) w) : retQ P fn RR e f w :=
  retCCT he h hp hq hv hn hn2 (H.rowAt hm) (H.rowAt hm2) hr
end
end Go.Proofs.YtmoppmfbfpjdnaaGreat.R
