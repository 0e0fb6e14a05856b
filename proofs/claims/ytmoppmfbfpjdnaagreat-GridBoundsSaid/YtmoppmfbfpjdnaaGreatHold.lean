/- Arrays of whole numbers are compared, and built. What a call has laid of its own: one fact for all its blocks, carried from world to world. -/
import Derived.Test.YtmoppmfbfpjdnaaGreatMem
import Derived.Laws.StructEq
import Derived.Laws.Tables
import Derived.Laws.Rows
namespace Go.Proofs.YtmoppmfbfpjdnaaGreat.R
open Go.RowKit

section
variable {P : Program}
theorem run_eqArr {t e : TypeId} {m : Nat} {k k' : IntKind} (ht : P.underlying t = some (.array m e)) (he : P.underlying e = some (.int k')) (hs : szT P e = some 1) (hk : kindT P e = some false) (d : Nat) (w : World) (a b : List Int) (ha : a.length = m) (hb : b.length = m) :
    (Op.equalIn (d + 2) t (.agg (a.map (.int k)).toArray) (.agg (b.map (.int k)).toArray)).run P w = .ok (decide (a = b)) w := by
  rw [Op.equalIn]
  simp only [Sem.run_bind, run_underlying ht, Result.andThen_ok, run_sz hs]
  simp only [Std.Legacy.Range.forIn_eq_forIn_range', Std.Legacy.Range.size, Nat.sub_zero, Nat.add_sub_cancel, Nat.div_one]
  have key : ∀ (r s : Nat), s + r = m → a.take s = b.take s → 
    (Sem.run P (forIn (List.range' s r 1) (none, PUnit.unit) fun i __s => do
            let x ← part e (List.map (Value.int k) a).toArray (i * 1)
            let y ← part e (List.map (Value.int k) b).toArray (i * 1)
            let c ← Op.equalIn (d + 1) e x y
            if (!c) = true then pure (ForInStep.done (some false, PUnit.unit)) else pure (ForInStep.yield (none, PUnit.unit))) w) = .ok (if a = b then none else some false, PUnit.unit) w := by
    intro r
    induction r with
    | zero =>
      intro s hs' ht'
      obtain rfl : s = m := by omega
      have hab : a = b := by rw [← List.take_length (l := a), ← List.take_length (l := b), ha, hb]; exact ht'
      simp [hab]
    | succ r ih =>
      intro s hs' ht'
      have h1 : s < a.length := by omega
      have h2 : s < b.length := by omega
      have p1 : (part e (a.map (Value.int k)).toArray (s * 1)).run P w = .ok (.int k a[s]) w := by simp [part, run_kind hk, h1]
      have p2 : (part e (b.map (Value.int k)).toArray (s * 1)).run P w = .ok (.int k b[s]) w := by simp [part, run_kind hk, h2]
      simp only [List.range'_succ, List.forIn_cons, Sem.run_bind, p1, p2, Result.andThen_ok, run_equalIn_int w d e k k' _ _ he]
      by_cases hx : a[s] = b[s]
      · have hb1 : (!(a[s] == b[s])) = false := by simp [hx]
        simp only [hb1, Bool.false_eq_true, if_false, Sem.run_pure, Result.andThen_ok]
        refine ih (s + 1) (by omega) ?_
        rw [List.take_succ_eq_append_getElem h1, List.take_succ_eq_append_getElem h2, ht', hx]
      · have hb1 : (!(a[s] == b[s])) = true := by simp [hx]
        simp only [hb1, if_true, Sem.run_pure, Result.andThen_ok]
        rw [if_neg (fun hab => hx (by subst hab; rfl))]
  have h0 := key m 0 (by omega) rfl
  rw [h0]
  by_cases hab : a = b
  · simp [hab]
  · simp [hab]
variable {C : CallH} {o : Oper} {f : Fr} {w : World} {K : Value → World → Prop}
theorem WO_eqlArr {t u e : TypeId} {x y : Operand} {m : Nat} {k k' : IntKind} {a b : List Int} (hop : o.op = .binOp .eql t x y u) (hx : ev f x = .agg (a.map (.int k)).toArray) (hy : ev f y = .agg (b.map (.int k)).toArray) [ht : ArrT P t m e 1] (he : P.underlying e = some (.int k')) (hk : kindT P e = some false) (hm : P.eqGuardType P.depth t = false) (ha : a.length = m) (hb : b.length = m)
    (h : K (.bool (decide (a = b))) w) : WO P C o f w K := by
  refine WO_val ?_ h
  have h1 := run_eqArr (k := k) ht.h he ht.s hk 9998 w a b ha hb
  simp only [execOp, hop, hx, hy, Sem.run_bind, run_eqGuard_agg w .eql t x y _ _ hm, Result.andThen_ok, run_eql_struct, h1]
  simp
theorem WO_neqArr {t u e : TypeId} {x y : Operand} {m : Nat} {k k' : IntKind} {a b : List Int} (hop : o.op = .binOp .neq t x y u) (hx : ev f x = .agg (a.map (.int k)).toArray) (hy : ev f y = .agg (b.map (.int k)).toArray) [ht : ArrT P t m e 1] (he : P.underlying e = some (.int k')) (hk : kindT P e = some false) (hm : P.eqGuardType P.depth t = false) (ha : a.length = m) (hb : b.length = m)
    (h : K (.bool (!decide (a = b))) w) : WO P C o f w K := by
  refine WO_val ?_ h
  have h1 := run_eqArr (k := k) ht.h he ht.s hk 9998 w a b ha hb
  simp only [execOp, hop, hx, hy, Sem.run_bind, run_eqGuard_agg w .neq t x y _ _ hm, Result.andThen_ok, run_neq_struct, h1]
  simp
/-- A value is built of parts. -/
theorem WO_build {t : TypeId} {parts : Array (Nat × Operand)} {cells : Array Value} (hop : o.op = .build t parts) (hc : P.built t (parts.map fun (i, x) => (i, ev f x)).toList = some cells) (h : K (.agg cells) w) : WO P C o f w K :=
  WO_val (by simp only [execOp, hop, Sem.run_bind, run_build w t _ cells hc, Result.andThen_ok]; simp) h
/-- A place of an array that is a value. -/
theorem WO_idxI {t e : TypeId} {x i : Operand} {cs : List Value} {m sz : Nat} {k k' : IntKind} {j n : Int} (hop : o.op = .index t x i) [ht : ArrT P t m e sz] (hs : sz = 1) (hk : kindT P e = some false) (hx : ev f x = .agg cs.toArray) (hi : ev f i = .int k j) (h0 : 0 ≤ j) (h1 : j < m) (hv : cs[j.toNat]? = some (.int k' n))
    (h : K (.int k' n) w) : WO P C o f w K := by
  refine WO_val ?_ h
  subst hs
  simp [execOp, hop, hx, hi, Instr.index, asIntOf, run_underlying ht.h, h0, h1, run_sz ht.s, part, run_kind hk, hv]
end
end Go.Proofs.YtmoppmfbfpjdnaaGreat.R
namespace Go.Proofs.YtmoppmfbfpjdnaaGreat.R
open Go.RowKit

/-- A block: its number, its type, its cells. -/
abbrev Blk := Nat × TypeId × List Value
def HB (w : World) (b : Blk) : Prop := w.heap[b.1]? = some (.cells b.2.2.toArray b.2.1 (0, 0))
/-- Since W: what was there is as it was; the blocks of the list are the call's own, each with its cells. -/
structure Hold (W w : World) (l : List Blk) : Prop where
  below : Below W.heap.size W w
  has : ∀ b ∈ l, HB w b
  own : ∀ b ∈ l, W.heap.size ≤ b.1
  nodup : (l.map (·.1)).Nodup
inductive Sets : List Blk → Nat → TypeId → List Value → List Value → List Blk → Prop
  | head {g t cs ds l} : Sets ((g, t, cs) :: l) g t cs ds ((g, t, ds) :: l)
  | tail {p g t cs ds l l'} (h : Sets l g t cs ds l') : Sets (p :: l) g t cs ds (p :: l')
section
variable {W w w' : World} {l l' : List Blk} {g : Nat} {t : TypeId} {cs ds : List Value}
theorem Hold.start (W : World) : Hold W W [] := ⟨Below.refl _ W, by simp, by simp, by simp⟩
theorem HB.lt {b : Blk} (h : HB w b) : b.1 < w.heap.size := (Array.getElem?_eq_some_iff.1 h).1
theorem Hold.lt (h : Hold W w l) (hm : (g, t, cs) ∈ l) : g < w.heap.size := (h.has _ hm).lt
theorem Hold.drew (h : Hold W w l) : Hold W w.drew l := ⟨h.below.drew, h.has, h.own, h.nodup⟩
theorem Hold.call (h : Hold W w l) (hb : Below w.heap.size w w') : Hold W w' l :=
  ⟨h.below.trans (hb.mono h.below.size), fun b hm => (hb.block b.1 (h.has b hm).lt).trans (h.has b hm), h.own, h.nodup⟩
theorem Hold.alloc (h : Hold W w l) (cells : Array Value) (t : TypeId) : Hold W (w.alloc (.cells cells t)) ((w.heap.size, t, cells.toList) :: l) := by
  refine ⟨h.below.alloc h.below.size _, fun b hm => ?_, fun b hm => ?_, ?_⟩
  · rcases List.mem_cons.1 hm with rfl | hm
    · exact heap_alloc_new w _
    · exact (Below.heap_alloc w _ b.1 (h.has b hm).lt).trans (h.has b hm)
  · rcases List.mem_cons.1 hm with rfl | hm
    · exact h.below.size
    · exact h.own b hm
  · rw [List.map_cons, List.nodup_cons]
    refine ⟨fun hm => ?_, h.nodup⟩
    obtain ⟨b, hb, he⟩ := List.mem_map.1 hm
    have := (h.has b hb).lt
    simp only at he
    omega
theorem Sets.old (h : Sets l g t cs ds l') : (g, t, cs) ∈ l := by
  induction h with
  | head => exact .head _
  | tail _ ih => exact .tail _ ih
theorem Sets.keys (h : Sets l g t cs ds l') : l'.map (·.1) = l.map (·.1) := by
  induction h with
  | head => rfl
  | tail _ ih => simp [ih]
theorem Sets.new (h : Sets l g t cs ds l') (hn : (l.map (·.1)).Nodup) : ∀ b ∈ l', b = (g, t, ds) ∨ (b ∈ l ∧ b.1 ≠ g) := by
  induction h with
  | @head g t cs ds l =>
    intro b hb
    rcases List.mem_cons.1 hb with rfl | hm
    · exact .inl rfl
    · refine .inr ⟨.tail _ hm, fun e => ?_⟩
      rw [List.map_cons, List.nodup_cons] at hn
      exact hn.1 (List.mem_map.2 ⟨b, hm, e⟩)
  | @tail p g t cs ds l l' hs ih =>
    intro b hb
    rw [List.map_cons, List.nodup_cons] at hn
    rcases List.mem_cons.1 hb with rfl | hm
    · refine .inr ⟨.head _, fun e => hn.1 ?_⟩
      rw [e]
      exact List.mem_map.2 ⟨_, hs.old, rfl⟩
    · rcases ih hn.2 b hm with h | h
      · exact .inl h
      · exact .inr ⟨.tail _ h.1, h.2⟩
theorem Hold.set (h : Hold W w l) (hs : Sets l g t cs ds l') (hb : ∀ k, k ≠ g → w'.heap[k]? = w.heap[k]?) (hg : HB w' (g, t, ds)) (hw : Below g w w') : Hold W w' l' := by
  refine ⟨h.below.trans (hw.mono (h.own _ hs.old)), fun b hm => ?_, fun b hm => ?_, by rw [hs.keys]; exact h.nodup⟩
  · rcases hs.new h.nodup b hm with rfl | hm'
    · exact hg
    · exact (hb b.1 hm'.2).trans (h.has b hm'.1)
  · rcases hs.new h.nodup b hm with rfl | hm'
    · exact h.own (g, t, cs) hs.old
    · exact h.own b hm'.1
theorem Hold.row (h : Hold W w l) (hm : (g, t, cs) ∈ l) : RowAt w ⟨g, 0, none⟩ cs := RowAt.of_block (h.has _ hm)
theorem Hold.setRow (h : Hold W w l) (hs : Sets l g t cs ds l') : Hold W (w.setRow g ds.toArray) l' :=
  h.set hs (fun k hk => setRow_other w g k _ hk) (setRow_heap w g _ _ _ _ (h.has _ hs.old)) ⟨rfl, rfl, rfl, by simp [World.setRow], fun k hk => setRow_other w g k _ (by omega)⟩
theorem Hold.setCell (h : Hold W w l) {j : Nat} {v : Value} (hs : Sets l g t cs (cs.set j v) l') : Hold W (w.setCell ⟨g, j, none⟩ v) l' := by
  refine h.set hs (fun k hk => Below.heap_setCell w _ v k hk) ?_ ((Below.refl g w).setCell (Nat.le_refl _) v)
  have := heap_setCell_same w g j _ t v (h.has _ hs.old)
  unfold HB
  rw [this]
  simp
end
section
variable {P : Program} {C : CallH} {o : Oper} {f : Fr} {W w : World} {K : Value → World → Prop} {l l' : List Blk} {g j : Nat} {t u : TypeId} {x y : Operand} {cs ds : List Value}
theorem WO_allocM {z : Value} (hop : o.op = .alloc t) [ZeroT P t z] (hM : Hold W w l) (hk : ∀ w', Hold W w' ((w.heap.size, t, z.cells.toList) :: l) → K (.pointer (some ⟨w.heap.size, 0, none⟩)) w') : WO P C o f w K :=
  WO_alloc hop (hk _ (hM.alloc _ _))
theorem WO_boxMI {k : IntKind} {n : Int} (hop : o.op = .box t x) (hx : ev f x = .int k n) (hM : Hold W w l) (hk : ∀ w', Hold W w' ((w.heap.size, t, [.int k n]) :: l) → K (.pointer (some ⟨w.heap.size, 0, none⟩)) w') : WO P C o f w K :=
  WO_box hop hx (hk _ (hM.alloc _ _))
theorem WO_boxMB {b : Bool} (hop : o.op = .box t x) (hx : ev f x = .bool b) (hM : Hold W w l) (hk : ∀ w', Hold W w' ((w.heap.size, t, [.bool b]) :: l) → K (.pointer (some ⟨w.heap.size, 0, none⟩)) w') : WO P C o f w K :=
  WO_box hop hx (hk _ (hM.alloc _ _))
theorem WO_boxMA (hop : o.op = .box t x) (hx : ev f x = .agg cs.toArray) (hM : Hold W w l) (hk : ∀ w', Hold W w' ((w.heap.size, t, cs) :: l) → K (.pointer (some ⟨w.heap.size, 0, none⟩)) w') : WO P C o f w K :=
  WO_box hop hx (hk _ (hM.alloc _ _))
theorem WO_boxMS {A : Option Addr} {n c : Nat} (hop : o.op = .box t x) (hx : ev f x = .slice A n c) (hM : Hold W w l) (hk : ∀ w', Hold W w' ((w.heap.size, t, [.slice A n c]) :: l) → K (.pointer (some ⟨w.heap.size, 0, none⟩)) w') : WO P C o f w K :=
  WO_box hop hx (hk _ (hM.alloc _ _))
theorem WO_loadMA (hop : o.op = .load t x) (hx : ev f x = .pointer (some ⟨g, 0, none⟩)) [KindT P t true] {m : Nat} [SzT P t m] (hM : Hold W w l) (hm : (g, u, cs) ∈ l) (hn : cs.length = m) (hk : K (.agg cs.toArray) w) : WO P C o f w K :=
  WO_loadA hop hx hn (hM.row hm) hk
theorem WO_loadM {a : Addr} {v : Value} (hop : o.op = .load t x) (hx : ev f x = .pointer (some a)) [KindT P t false] (ha : a = ⟨g, j, none⟩) (hM : Hold W w l) (hm : (g, u, cs) ∈ l) (hv : cs[j]? = some v) (hk : K v w) : WO P C o f w K :=
  WO_load hop hx (by have := hM.row hm j v hv; rw [Addr.add_lit, Nat.zero_add] at this; rw [ha]; exact this) hk
theorem WO_storeMA (hop : o.op = .store t x y) (hx : ev f x = .pointer (some ⟨g, 0, none⟩)) (hy : ev f y = .agg ds.toArray) {m : Nat} [SzT P t m] (hM : Hold W w l) (hs : Sets l g u cs ds l') (hm : ds.length = m) (hn : cs.length = m) (h1 : ds.toArray.all (·.oneCell') = true) (hk : ∀ w', Hold W w' l' → K undef w') : WO P C o f w K :=
  WO_storeA hop hx hy (by simpa using hm) (hM.has _ hs.old) (by simp [hm, hn]) h1 (hk _ (hM.setRow hs))
theorem WO_storeM {a : Addr} {v : Value} (hop : o.op = .store t x y) (hx : ev f x = .pointer (some a)) (hy : ev f y = v) [SzT P t 1] (h1 : v.oneCell' = true) (ha : a = ⟨g, j, none⟩) (hM : Hold W w l) (hs : Sets l g u cs (cs.set j v) l') (hj : j < cs.length) (hk : ∀ w', Hold W w' l' → K undef w') : WO P C o f w K := by
  subst ha
  have hb := hM.has _ hs.old
  refine WO_store hop hx hy h1 ?_ ?_ (hk _ (hM.setCell hs))
  · have := hM.row hs.old j cs[j] (by simp [hj])
    rw [Addr.add_lit, Nat.zero_add] at this
    rw [this]; rfl
  · unfold HB at hb
    simp [World.frozen?, hb]
end
section
variable {P : Program} {fn : Func} {R : Ending → World → Prop} {e : Exit} {f : Fr} {W w : World} {l : List Blk} {g g2 p q r : Nat} {t t2 u u2 : TypeId} {cs ds : List Value} {m k : Nat} {v : Value} (he : e = .ret ∨ e = .normal)
include he
theorem retM {H : Hold W w l} (h : fn.results = #[.cell p t]) (hp : f p = .pointer (some ⟨g, 0, none⟩)) [KindT P t true] [SzT P t m] (hm : (g, u, cs) ∈ l) (hn : cs.length = m) (hr : R (.returned (.agg cs.toArray)) w) : retQ P fn R e f w :=
  retC he h hp hn (H.row hm) hr
theorem retMT {H : Hold W w l} (h : fn.results = #[.cell p t, .tmp q]) (hp : f p = .pointer (some ⟨g, 0, none⟩)) (hq : f q = v) [KindT P t true] [SzT P t m] (hm : (g, u, cs) ∈ l) (hn : cs.length = m) (hr : R (.returned (.tuple #[.agg cs.toArray, v])) w) : retQ P fn R e f w :=
  retCT he h hp hq hn (H.row hm) hr
end
section
variable {P : Program} {C : CallH} {f : Fr} {w : World} {K : Value → World → Prop} {d : Option Nat} {ty t : TypeId} {p : String} {af : Array Edge} {gd : Option (Nat × Bool)} {parts : Array (Nat × Operand)}
theorem sh_build (h : WO P C ⟨d, .build t parts, ty, p, af, gd⟩ f w K) : WO P C ⟨d, .build t parts, ty, p, af, gd⟩ f w K := h
end
end Go.Proofs.YtmoppmfbfpjdnaaGreat.R
