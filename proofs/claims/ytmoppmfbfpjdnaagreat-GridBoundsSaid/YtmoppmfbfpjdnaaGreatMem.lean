/- Slices in memory: cells that are only read; rows that the call owns; append, make, build, in the engine's form. -/
import Derived.Test.YtmoppmfbfpjdnaaGreatEng
import Derived.Maps.AppendAt
import Derived.Laws.OwnMore
import Derived.OwnWalk
namespace Go.Proofs.YtmoppmfbfpjdnaaGreat.R
open Go.RowKit

theorem add_block (a : Addr) (n : Nat) : (a.add n).block = a.block := by unfold Addr.add; split <;> rfl
theorem add_twice (a : Addr) (i j : Nat) : (a.add i).add j = a.add (i + j) := by
  unfold Addr.add
  by_cases hi : i = 0 <;> by_cases hj : j = 0 <;> simp [hi, hj, Nat.add_assoc]

/-- The cells that lie from an address on, below block B; of nothing nothing is asked. -/
def Cells (w : World) (B : Nat) (A : Option Addr) (cs : List Value) : Prop :=
  cs = [] ∨ ∃ a, A = some a ∧ a.block < B ∧ ∀ j v, cs[j]? = some v → w.cell? (a.add j) = some v

section
variable {w w' : World} {B B' : Nat} {A : Option Addr} {cs : List Value}
theorem Cells.nil : Cells w B A [] := .inl rfl
theorem Cells.ext (h : Cells w B A cs) (hb : Below B' w w') (hB : B ≤ B') : Cells w' B A cs := by
  rcases h with h | ⟨a, hA, ha, hc⟩
  · exact .inl h
  · exact .inr ⟨a, hA, ha, fun j v hj => (hb.cell (by rw [add_block]; omega)).trans (hc j v hj)⟩
theorem Cells.more (h : Cells w B A cs) (hB : B ≤ B') : Cells w B' A cs := by
  rcases h with h | ⟨a, hA, ha, hc⟩
  · exact .inl h
  · exact .inr ⟨a, hA, by omega, hc⟩
theorem Cells.drew (h : Cells w B A cs) : Cells w.drew B A cs := h
theorem Cells.at_ (h : Cells w B A cs) {j : Nat} (hj : j < cs.length) : ∃ a, A = some a ∧ a.block < B ∧ w.cell? (a.add j) = some cs[j] := by
  rcases h with h | ⟨a, hA, ha, hc⟩
  · subst h; simp at hj
  · exact ⟨a, hA, ha, hc j _ (List.getElem?_eq_getElem hj)⟩
theorem Cells.cut (h : Cells w B A cs) (k : Nat) : Cells w B (A.map (·.add k)) (cs.drop k) := by
  rcases h with h | ⟨a, hA, ha, hc⟩
  · exact .inl (by rw [h]; simp)
  · subst hA
    exact .inr ⟨a.add k, rfl, by rw [add_block]; exact ha, fun j v hj => by rw [add_twice]; exact hc _ v (by rw [← hj, List.getElem?_drop])⟩
theorem Cells.take (h : Cells w B A cs) (k : Nat) : Cells w B A (cs.take k) := by
  rcases h with h | ⟨a, hA, ha, hc⟩
  · exact .inl (by rw [h]; simp)
  · refine .inr ⟨a, hA, ha, fun j v hj => hc j v ?_⟩
    rw [List.getElem?_take] at hj
    split at hj
    · exact hj
    · cases hj
theorem Cells.of_own {base : Nat} {e : TypeId} {size n c : Nat} (h : w.ownsRow base e size (.slice A n c) n cs) : Cells w w.heap.size A cs := by
  rcases h.2 with ⟨hv, hn⟩ | ⟨g, cap, cur, hv, _, hh, _⟩
  · subst hn
    exact .inl (List.eq_nil_of_length_eq_zero (by simpa using h.1))
  · have hA : A = some ⟨g, 0, none⟩ := by injection hv
    subst hA
    refine .inr ⟨_, rfl, ?_, h.cells (g := g) rfl⟩
    rcases Nat.lt_or_ge g w.heap.size with hlt | hge
    · exact hlt
    · rw [Array.getElem?_eq_none hge] at hh; cases hh
end

theorem Cells.new (w : World) (cs : Array Value) (e : TypeId) (B : Nat) (hB : w.heap.size < B) : Cells (w.alloc (.cells cs e)) B (some ⟨w.heap.size, 0, none⟩) cs.toList := by
  refine .inr ⟨_, rfl, hB, fun j v hj => ?_⟩
  rw [Addr.add_lit, Nat.zero_add, cell_of_row _ _ _ _ _ _ (heap_alloc_new w _)]
  simpa using hj
/-! ### rows of the call's own -/
/-- 'w'' is 'w' with new blocks, and the row at A written or left. -/
def blockOf : Option Addr → Option Nat
  | some a => some a.block
  | none => none
theorem Below.go {w w1 w2 : World} (h : Below w.heap.size w w1) (h2 : Below w1.heap.size w1 w2) : Below w.heap.size w w2 := h.trans (h2.mono h.size)
theorem Below.al {w w1 : World} (h : Below w.heap.size w w1) (o : Obj) : Below w.heap.size w (w1.alloc o) := h.alloc h.size o
theorem Below.grown_ {B : Nat} {a w w' : World} {A : Option Addr} {base : Nat} {e : TypeId} {sz n c : Nat} {cs : List Value} (h : Below B a w) (hg : w.grownBy w' (blockOf A)) (hown : w.ownsRow base e sz (.slice A n c) n cs) (hB : B ≤ base) (hs : B ≤ w.heap.size) : Below B a w' := by
  refine h.grown hg hs fun k hk => ?_
  have := (hown.lt k (by cases A with | none => cases hk | some x => simpa [blockOf, Value.ownBlock] using hk)).1
  omega
section
variable {P : Program} {C : CallH} {o : Oper} {f : Fr} {w : World} {K : Value → World → Prop}
theorem own_of_alloc (cs : Array Value) (e : TypeId) (sz n base : Nat) (hb : base ≤ w.heap.size) (hn : n ≤ maxLen) (hs : cs.size = n * sz) :
    (w.alloc (.cells cs e)).ownsRow base e sz (.slice (some ⟨w.heap.size, 0, none⟩) n n) n cs.toList := by
  refine ⟨by simpa using hs, .inr ⟨w.heap.size, n, cs, rfl, hb, heap_alloc_new w _, Nat.le_refl _, hn, hs, ?_⟩⟩
  rw [← hs]
  exact List.take_length
theorem run_buildSlice {t e : TypeId} {sz n : Nat} {ps : Array (Nat × Value)} {z : Value} {cs : Array Value} (ht : P.underlying t = some (.slice e)) (hs : szT P e = some sz) (hn : n * sz ≤ 16777216) (hz : ∀ w, (zeroValue e).run P w = .ok z w)
    (hf : Instr.fill (fun i => some (i * sz, sz)) (if n * sz = 0 then (Array.range (n * sz)).map (fun i => (#[] : Array Value)[i % 0]!) else (Array.range (n * sz)).map fun i => z.cells[i % z.cells.size]!) ps.toList = some cs) (w : World) :
    (Instr.buildSlice t n ps).run P w = .ok (.slice (some ⟨w.heap.size, 0, none⟩) n n) (w.alloc (.cells cs e)) := by
  have hn' : ¬ (n * sz > 16777216) := by omega
  by_cases h0 : n * sz = 0
  · rw [if_pos h0] at hf
    simp [Instr.buildSlice, run_underlying ht, run_sz hs, h0, newRow]
    simp [h0] at hf
    simp [hf]
  · rw [if_neg h0] at hf
    simp [Instr.buildSlice, run_underlying ht, run_sz hs, hn', h0, hz, hf, newRow]
theorem WO_bs {t e : TypeId} {sz n : Nat} {parts : Array (Nat × Operand)} {ps : Array (Nat × Value)} {z : Value} {cs : Array Value} (hop : o.op = .buildSlice t n parts) [ht : SliceT P t e sz] [hz : ZeroT P e z]
    (hps : parts.map (fun x => (x.1, ev f x.2)) = ps) (hn : n * sz ≤ 16777216)
    (hf : Instr.fill (fun i => some (i * sz, sz)) (if n * sz = 0 then (Array.range (n * sz)).map (fun i => (#[] : Array Value)[i % 0]!) else (Array.range (n * sz)).map fun i => z.cells[i % z.cells.size]!) ps.toList = some cs)
    (hk : K (.slice (some ⟨w.heap.size, 0, none⟩) n n) (w.alloc (.cells cs e))) : WO P C o f w K := by
  refine WO_eff ?_ hk
  simp only [execOp, hop, Sem.run_bind]
  rw [show (parts.map fun (x : Nat × Operand) => match x with | (i, x) => (i, ev f x)) = ps from hps, run_buildSlice ht.h ht.s hn hz.h hf w]
  rfl
/-- Slices that are written out: of one-cell elements, or one struct. -/
theorem WO_bs0 {t e : TypeId} {sz : Nat} (hop : o.op = .buildSlice t 0 #[]) [ht : SliceT P t e sz] (hk : K (.slice (some ⟨w.heap.size, 0, none⟩) 0 0) (w.alloc (.cells #[] e))) : WO P C o f w K := by
  refine WO_eff ?_ hk
  simp [execOp, hop, Instr.buildSlice, run_underlying ht.h, run_sz ht.s, newRow, Instr.fill, ← List.toArray_range]
theorem WO_bs1 {t e : TypeId} {z v0 : Value} {x0 : Operand} (hop : o.op = .buildSlice t 1 #[(0, x0)]) [ht : SliceT P t e 1] [hz : ZeroT P e z] (h0 : ev f x0 = v0) (hv0 : v0.oneCell' = true)
    (hk : K (.slice (some ⟨w.heap.size, 0, none⟩) 1 1) (w.alloc (.cells #[v0] e))) : WO P C o f w K := by
  have c0 : v0.cells = #[v0] := by cases v0 <;> first | rfl | (simp [Value.oneCell'] at hv0)
  refine WO_bs hop (ps := #[(0, v0)]) (by simp [h0]) (by omega) ?_ hk
  simp [Instr.fill, c0, ← List.toArray_range, List.range_succ]
theorem WO_bs4 {t e : TypeId} {z v0 v1 v2 v3 : Value} {x0 x1 x2 x3 : Operand} (hop : o.op = .buildSlice t 4 #[(0, x0), (1, x1), (2, x2), (3, x3)]) [ht : SliceT P t e 1] [hz : ZeroT P e z] (h0 : ev f x0 = v0) (h1 : ev f x1 = v1) (h2 : ev f x2 = v2) (h3 : ev f x3 = v3)
    (hv0 : v0.oneCell' = true) (hv1 : v1.oneCell' = true) (hv2 : v2.oneCell' = true) (hv3 : v3.oneCell' = true)
    (hk : K (.slice (some ⟨w.heap.size, 0, none⟩) 4 4) (w.alloc (.cells #[v0, v1, v2, v3] e))) : WO P C o f w K := by
  have c0 : v0.cells = #[v0] := by cases v0 <;> first | rfl | (simp [Value.oneCell'] at hv0)
  have c1 : v1.cells = #[v1] := by cases v1 <;> first | rfl | (simp [Value.oneCell'] at hv1)
  have c2 : v2.cells = #[v2] := by cases v2 <;> first | rfl | (simp [Value.oneCell'] at hv2)
  have c3 : v3.cells = #[v3] := by cases v3 <;> first | rfl | (simp [Value.oneCell'] at hv3)
  refine WO_bs hop (ps := #[(0, v0), (1, v1), (2, v2), (3, v3)]) (by simp [h0, h1, h2, h3]) (by omega) ?_ hk
  simp [Instr.fill, c0, c1, c2, c3, ← List.toArray_range, List.range_succ]
/-- What the tables say of a slice's elements. -/
class ElemT (P : Program) (e : TypeId) (z : outParam Value) (sz bytes : outParam Nat) : Prop where
  h : (P.info? e).map (fun i => (i.zero, i.size, i.bytes)) = some (some z, sz, bytes)
  c : z.cells.size = sz
  p : 0 < sz
/-- append onto a row of the call's own. -/
theorem WO_append {x y : Operand} {t e : TypeId} {sz bytes : Nat} {z : Value} (hop : o.op = .call { callee := .builtin .append, args := #[x, y], argTypes := #[t, t] }) [ht : SliceT P t e sz]
    [hi : ElemT P e z sz bytes]
    {A : Option Addr} {n c : Nat} {cs : List Value} {base : Nat} (hx : ev f x = .slice A n c) (hown : w.ownsRow base e sz (.slice A n c) n cs)
    {A' : Option Addr} {m c' : Nat} {news : List Value} {B : Nat} (hy : ev f y = .slice A' m c') (hc : Cells w B A' news) (hl : news.length = m * sz) (h1 : ∀ u ∈ news, u.oneCell' = true)
    (h63 : n + m ≤ maxLen) (hby : (n + m) * bytes ≤ 140737488355328) (hbase : base ≤ w.heap.size)
    (hk : ∀ A1 c1 w1, w1.ownsRow base e sz (.slice A1 (n + m) c1) (n + m) (cs ++ news) → w.grownBy w1 (blockOf A) → K (.slice A1 (n + m) c1) w1) : WO P C o f w K := by
  obtain ⟨i0, hi0, hz0, hz1, hz2⟩ := info_parts hi.h
  have hzs := hi.c
  have hsz := hi.p
  have hob : (Value.slice A n c).ownBlock = blockOf A := by cases A <;> rfl
  have key : ∃ v' w', (Builtin.append_ #[t, t] o.type #[.slice A n c, .slice A' m c']).run P w = .ok v' w' ∧ w'.ownsRow base e sz v' (n + m) (cs ++ news) ∧ w.grownBy w' (blockOf A) := by
    rw [← hob]
    rcases hc with rfl | ⟨a, rfl, _, hcell⟩
    · have hm : m = 0 := by
        rcases Nat.eq_zero_or_pos m with h | h
        · exact h
        · have := Nat.mul_pos h hsz
          simp at hl
          omega
      subst hm
      cases A' with
      | some a =>
        obtain ⟨v', w', hrun, h2, h3, _⟩ := run_append_own_at (P := P) w base t o.type e i0 z sz bytes ht.h hi0 hz0 hz1 hz2 hzs hsz _ n cs hown a 0 c' [] (by simp) (by simp) (by simp) h63 hby hbase
        exact ⟨v', w', hrun, h2, h3⟩
      | none =>
        refine ⟨.slice A n c, w, ?_, by simpa using hown, World.grownBy.refl w _⟩
        rcases hown.2 with ⟨hv, _⟩ | ⟨g, cap, cur, hv, _, _, hnc, _⟩
        · rw [hv]
          simp [Builtin.append_, run_underlying ht.h, sizeOf, typeInfo, hi0, Builtin.lenOf, Builtin.firstCells]
        · rw [hv]
          simp [Builtin.append_, run_underlying ht.h, sizeOf, typeInfo, hi0, Builtin.lenOf, Builtin.firstCells, hnc, storeCells]
    · obtain ⟨v', w', hrun, h2, h3, _⟩ := run_append_own_at (P := P) w base t o.type e i0 z sz bytes ht.h hi0 hz0 hz1 hz2 hzs hsz _ n cs hown a m c' news hl hcell h1 h63 hby hbase
      exact ⟨v', w', hrun, h2, h3⟩
  obtain ⟨v', w', hrun, hown', hg⟩ := key
  have hform : ∃ A1 c1, v' = .slice A1 (n + m) c1 := by
    rcases hown'.2 with ⟨hv, hx⟩ | ⟨g, cap, cur, hv, _⟩
    · exact ⟨none, 0, by rw [hx]; exact hv⟩
    · exact ⟨_, _, hv⟩
  obtain ⟨A1, c1, rfl⟩ := hform
  refine WO_eff ?_ (hk A1 c1 w' hown' hg)
  simp [execOp, hop, resolve, invoke, builtin, hx, hy, hrun, Result.andThen]
end
/-! what a walk tries for a value, a bound: laid once -/
theorem vv {P : Prop} (h : P := by first | exact R.eI rfl | exact R.eB rfl | exact R.eS rfl | exact R.eA rfl | exact R.eP rfl | exact R.eStr rfl | exact R.eT rfl | exact R.eM rfl | exact R.eF rfl | exact R.eF0 rfl | exact R.eP0 rfl | exact R.eQ rfl) : P := h
theorem xv {P : Prop} (h : P := by first | exact R.xI rfl | exact R.xB rfl | exact R.xS rfl | exact R.xA rfl | exact R.xP rfl | exact R.xStr rfl | exact R.xM rfl | exact R.xF rfl | exact rfl) : P := h
theorem i64 {P : Prop} (h : P := by first | assumption | (unfold R.In64; omega)) : P := h
theorem u64 {P : Prop} (h : P := by first | assumption | (unfold R.InU64; omega)) : P := h
theorem WO_v {P : Program} {C : CallH} {o : Oper} {f : Fr} {w w' : World} {K : Value → World → Prop} {v : Value} (h : ∀ K : Value → World → Prop, K v w' → WO P C o f w K) (hk : K v w') : WO P C o f w K := h K hk
set_option maxRecDepth 100000 in
theorem ov {G : Prop} (h : G := by (intro K hk; (with_reducible refine R.shape_WO ?_); (first | ((with_reducible refine R.sh_mv ?_); first | refine R.WO_mvI rfl ?_ | refine R.WO_mvB rfl ?_ | refine R.WO_mvS rfl ?_ | refine R.WO_mvA rfl ?_ | refine R.WO_mvP rfl ?_ | refine R.WO_mvT rfl ?_ | refine R.WO_mvStr rfl ?_ | refine R.WO_mvM rfl ?_ | refine R.WO_mvF rfl ?_ | refine R.WO_mvF0 rfl ?_) | ((with_reducible refine R.sh_as ?_); first | refine R.WO_asI rfl ?_ | refine R.WO_asB rfl ?_ | refine R.WO_asS rfl ?_ | refine R.WO_asA rfl ?_ | refine R.WO_asP rfl ?_ | refine R.WO_asT rfl ?_ | refine R.WO_asStr rfl ?_ | refine R.WO_asM rfl ?_ | refine R.WO_asF rfl ?_) | ((with_reducible refine R.sh_add ?_); first | refine R.WO_add_i rfl rfl rfl R.i64 ?_ | refine R.WO_add_u rfl rfl rfl R.u64 ?_ | refine R.WO_add_uw rfl rfl rfl ?_) | ((with_reducible refine R.sh_sub ?_); first | refine R.WO_sub_i rfl rfl rfl R.i64 ?_ | refine R.WO_sub_u rfl rfl rfl R.u64 ?_ | refine R.WO_sub_uw rfl rfl rfl ?_) | ((with_reducible refine R.sh_mul ?_); first | refine R.WO_mul_i rfl rfl rfl R.i64 ?_ | refine R.WO_mul_u rfl rfl rfl R.u64 ?_ | refine R.WO_mul_uw rfl rfl rfl ?_) | ((with_reducible refine R.sh_lss ?_); refine R.WO_lss rfl rfl rfl ?_) | ((with_reducible refine R.sh_leq ?_); refine R.WO_leq rfl rfl rfl ?_) | ((with_reducible refine R.sh_gtr ?_); refine R.WO_gtr rfl rfl rfl ?_) | ((with_reducible refine R.sh_geq ?_); refine R.WO_geq rfl rfl rfl ?_) | ((with_reducible refine R.sh_eql ?_); first | refine R.WO_eql rfl rfl rfl ?_ | refine R.WO_eqlB rfl rfl rfl ?_) | ((with_reducible refine R.sh_neq ?_); first | refine R.WO_neq rfl rfl rfl ?_ | refine R.WO_neqB rfl rfl rfl ?_) | ((with_reducible refine R.sh_pick ?_); first | refine R.WO_pick_t rfl rfl R.vv ?_ | refine R.WO_pick_f rfl rfl R.vv ?_) | ((with_reducible refine R.sh_load ?_); refine R.WO_load rfl rfl (by assumption) ?_) | ((with_reducible refine R.sh_fld ?_); refine R.WO_field_at rfl rfl ?_) | ((with_reducible refine R.sh_idx ?_); first | refine R.WO_index rfl rfl rfl rfl (by omega) (by omega) ?_ | refine R.WO_indexA rfl rfl rfl (by omega) (by omega) ?_) | ((with_reducible refine R.sh_ext ?_); first | refine R.WO_extI rfl rfl ?_ | refine R.WO_extB rfl rfl ?_ | refine R.WO_extS rfl rfl ?_ | refine R.WO_extA rfl rfl ?_ | refine R.WO_extP rfl rfl ?_ | refine R.WO_extT rfl rfl ?_ | refine R.WO_extStr rfl rfl ?_ | refine R.WO_extM rfl rfl ?_) | ((with_reducible refine R.sh_bi ?_); first | refine R.WO_len rfl rfl ?_ | refine R.WO_min rfl rfl rfl ?_ | refine R.WO_max rfl rfl rfl ?_) | ((with_reducible refine R.sh_not ?_); refine R.WO_not rfl rfl ?_) | ((with_reducible refine R.sh_quo ?_); first | refine R.WO_quo_i rfl rfl rfl (by omega) (by omega) ?_ | refine R.WO_quo_u rfl rfl rfl R.u64 (by omega) ?_) | ((with_reducible refine R.sh_rem ?_); first | refine R.WO_rem_i rfl rfl rfl (by omega) (by omega) ?_ | refine R.WO_rem_u rfl rfl rfl R.u64 (by omega) ?_) | ((with_reducible refine R.sh_shr ?_); refine R.WO_shr_u rfl rfl rfl (by omega) (by omega) ?_) | ((with_reducible refine R.sh_shl ?_); refine R.WO_shl_u rfl rfl rfl (by omega) (by omega) ?_) | ((with_reducible refine R.sh_and ?_); refine R.WO_and rfl rfl rfl ?_) | ((with_reducible refine R.sh_or ?_); refine R.WO_or rfl rfl rfl ?_) | ((with_reducible refine R.sh_neg ?_); first | refine R.WO_neg_i rfl rfl R.i64 ?_ | refine R.WO_neg_uw rfl rfl ?_) | ((with_reducible refine R.sh_conv ?_); first | refine R.WO_convert_i rfl rfl R.i64 ?_ | refine R.WO_convert_u rfl rfl R.u64 ?_ | refine R.WO_convert_uw rfl rfl ?_ | refine R.WO_convert rfl rfl ?_) | ((with_reducible refine R.sh_alloc ?_); refine R.WO_alloc rfl ?_) | ((with_reducible refine R.sh_box ?_); first | refine R.WO_boxI rfl ?_ | refine R.WO_boxB rfl ?_ | refine R.WO_boxS rfl ?_ | refine R.WO_boxA rfl ?_ | refine R.WO_boxP rfl ?_ | refine R.WO_boxT rfl ?_ | refine R.WO_boxStr rfl ?_ | refine R.WO_boxM rfl ?_) | ((with_reducible refine R.sh_bs ?_); first | refine R.WO_bs0 rfl ?_ | refine R.WO_bs1 rfl R.vv rfl ?_ | refine R.WO_bs4 rfl R.vv R.vv R.vv R.vv rfl rfl rfl rfl ?_)); exact hk)) : G := h
end Go.Proofs.YtmoppmfbfpjdnaaGreat.R
