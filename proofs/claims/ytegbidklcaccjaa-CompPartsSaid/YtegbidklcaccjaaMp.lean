/- Maps from numbers to numbers of the call's own; a driver that knows them. -/
import Derived.Test.YtegbidklcaccjaaOpnB
import Derived.Test.YtegbidklcaccjaaIns
import Derived.Maps.OwnSet
import Derived.WideKeyEntry
namespace Go.Proofs.Ytegbidklcaccjaa
open Go.ChangeMaps Go.MapKept Go.WideShapes Go.WideElems Go.RowKit
open Go.Maps (Keyed IsMap)
open R (In64 InU64 lo64 nth)

namespace R
/-- What a map of numbers holds. -/
def View (D : DataW Unit) (m : Int → Option Int) : Prop := ∀ a, In64 a → Maps.has D (.int .i64 a) = (m a).isSome ∧ ∀ v, m a = some v → ∀ z, D.atKey (.int .i64 a) z = .lit (.int .i64 v)
def IsM (P : Program) (k e : TypeId) (es : Array MapEntry) (clk n : Nat) (m : Int → Option Int) : Prop := ∀ (w : World) (b : Nat), w.heap[b]? = some (.map es clk) → ∃ D : DataW Unit, w.ownsMap P k (plainElem P e) b n D ∧ View D m
class MapII (P : Program) (t : TypeId) (k e : outParam TypeId) : Prop where
  h : P.underlying t = some (.map k e)
  hk : P.underlying k = some (.int .i64)
  he : P.underlying e = some (.int .i64)
  hz : ∀ w, (zeroValue e).run P w = .ok (.int .i64 0) w
def putM (m : Int → Option Int) (a v : Int) : Int → Option Int := fun q => if q = a then some v else m q
def delM (m : Int → Option Int) (a : Int) : Int → Option Int := fun q => if q = a then none else m q
theorem putM_same (m : Int → Option Int) (a v : Int) : putM m a v a = some v := if_pos rfl
theorem putM_ne {m : Int → Option Int} {a v q : Int} (h : q ≠ a) : putM m a v q = m q := if_neg h
theorem delM_same (m : Int → Option Int) (a : Int) : delM m a a = none := if_pos rfl
theorem delM_ne {m : Int → Option Int} {a q : Int} (h : q ≠ a) : delM m a q = m q := if_neg h
theorem wf64 {a : Int} (h : In64 a) : (Lit.int .i64 a).wf = true := by
  unfold In64 at h
  simp [Lit.wf, IntKind.min, IntKind.max, IntKind.signed, IntKind.bits]
  omega
section
variable {P : Program} {C : CallH} {o : Oper} {f : Fr} {w : World} {K : Value → World → Prop} {t k e : TypeId} {x y z : Operand} {F : List Nat} {W : World} {l : List Res} {b n : Nat} {es : Array MapEntry} {clk : Nat} {m : Int → Option Int} {a v : Int}
theorem isM_of {es' : Array MapEntry} {clk' n' : Nat} {D : DataW Unit} {m' : Int → Option Int} (h : w.ownsMap P k (plainElem P e) b n' D) (hb : w.heap[b]? = some (.map es' clk')) (hv : View D m') : IsM P k e es' clk' n' m' := fun w2 b2 h2 => by
  obtain ⟨es1, clk1, hb1, Ft, hs, hD⟩ := h
  rw [hb] at hb1
  injection hb1 with hb1
  injection hb1 with e1 e2
  subst e1 e2
  exact ⟨D, ⟨es', clk', h2, Ft, hs, hD⟩, hv⟩
theorem isM_sz {n' : Nat} (h : IsM P k e es clk n m) (hs : es.size ≤ n') : IsM P k e es clk n' m := fun w b hb => by
  obtain ⟨D, ⟨es1, clk1, hb1, Ft, _, hD⟩, hv⟩ := h w b hb
  rw [hb] at hb1
  injection hb1 with hb1
  injection hb1 with e1 e2
  subst e1 e2
  exact ⟨D, ⟨es, clk, hb, Ft, hs, hD⟩, hv⟩
theorem isM_empty (P : Program) (k e : TypeId) : IsM P k e #[] 0 0 (fun _ => none) := fun w b h =>
  ⟨.map [], ⟨#[], 0, h, ⟨by simp, stamped_empty 0, by simp⟩, Nat.le_refl _, rfl⟩, fun a _ => ⟨rfl, fun v hv => by cases hv⟩⟩
theorem View.put {D : DataW Unit} (hD : IsMap D) (h : View D m) (ha : In64 a) : View (D.put (.int .i64 a) (.lit (.int .i64 v))) (putM m a v) := fun q hq => by
  by_cases hqa : q = a
  · subst hqa
    rw [putM_same, Maps.has_put_same (k := .int .i64 q) hD trivial]
    exact ⟨rfl, fun v' hv' z => by cases hv'; exact Maps.atKey_put_same (k := .int .i64 q) hD trivial _ _⟩
  · have hne : Lit.int .i64 q ≠ Lit.int .i64 a := fun c => hqa (by injection c)
    rw [putM_ne hqa, Maps.has_put_other hne]
    exact ⟨(h q hq).1, fun v' hv' z => by rw [Maps.atKey_put_other hne]; exact (h q hq).2 v' hv' z⟩
theorem View.del {D : DataW Unit} (h : View D m) : View (D.del (.int .i64 a)) (delM m a) := fun q hq => by
  by_cases hqa : q = a
  · subst hqa
    rw [delM_same, Maps.has_del_same]
    exact ⟨rfl, fun v' hv' => by cases hv'⟩
  · have hne : Lit.int .i64 q ≠ Lit.int .i64 a := fun c => hqa (by injection c)
    rw [delM_ne hqa, Maps.has_del_other hne]
    exact ⟨(h q hq).1, fun v' hv' z => by rw [Maps.atKey_del_other hne]; exact (h q hq).2 v' hv' z⟩
theorem look_run [T : MapII P t k e] (ha : In64 a) (hb : w.heap[b]? = some (.map es clk)) (hI : IsM P k e es clk n m) :
    (Instr.lookup t (.map (some b)) (.int .i64 a) true).run P w = .ok (.tuple #[.int .i64 ((m a).getD 0), .bool (m a).isSome]) w ∧ (Instr.lookup t (.map (some b)) (.int .i64 a) false).run P w = .ok (.int .i64 ((m a).getD 0)) w := by
  obtain ⟨D, ho, hv⟩ := hI w b hb
  have hK : Keyed P k := Maps.int_keyed T.hk
  have hkey := Maps.keyOf_int_mk T.hk (wf64 ha)
  obtain ⟨h1, h2⟩ := hv a ha
  obtain ⟨u, ps, hrun, hu⟩ := ho.look_ok hK T.h (T.hz w) (plainElem_int (a := 0) T.he (by decide)) hkey
  obtain ⟨c, rfl, hc, _⟩ := plainElem_int_inv T.he hu
  obtain ⟨c2, hrun2, hc2, _⟩ := ho.lookup_int hK T.h T.he (T.hz w) hkey
  have hc' := congrArg Prod.fst hc
  dsimp only at hc'
  rw [hc'] at hc2
  injection hc2 with hc2
  injection hc2 with _ hc2
  have hcv : c = (m a).getD 0 := by
    cases hm : m a with
    | none =>
      rw [hm] at h1
      have h1 : Maps.has D (.int .i64 a) = false := h1
      rw [Maps.atKey_of_not_has h1] at hc'
      injection hc' with hc'
      injection hc' with _ hc'
      exact hc'.symm
    | some v =>
      rw [h2 v hm] at hc'
      injection hc' with hc'
      injection hc' with _ hc'
      exact hc'.symm
  rw [hrun, hrun2, h1, ← hc2, hcv]
  exact ⟨rfl, rfl⟩
theorem WO_lkOk (hop : o.op = .lookup t x y true) [T : MapII P t k e] (hx : ev f x = .map (some b)) (hy : ev f y = .int .i64 a) (ha : In64 a) (hM : Own F W w l) (hm : .map b es clk ∈ l) (hI : IsM P k e es clk n m) (hk : K (.tuple #[.int .i64 ((m a).getD 0), .bool (m a).isSome]) w) : WO P C o f w K := by
  refine WO_val ?_ hk
  have := (look_run (t := t) ha (hM.ok _ hm) hI).1
  simp [execOp, hop, hx, hy, this]
theorem WO_lk (hop : o.op = .lookup t x y false) [T : MapII P t k e] (hx : ev f x = .map (some b)) (hy : ev f y = .int .i64 a) (ha : In64 a) (hM : Own F W w l) (hm : .map b es clk ∈ l) (hI : IsM P k e es clk n m) (hk : K (.int .i64 ((m a).getD 0)) w) : WO P C o f w K := by
  refine WO_val ?_ hk
  have := (look_run (t := t) ha (hM.ok _ hm) hI).2
  simp [execOp, hop, hx, hy, this]
theorem WO_nck {p : Addr} (hop : o.op = .nilCheck x) (hx : ev f x = .pointer (some p)) (hk : K (.pointer (some p)) w) : WO P C o f w K := by
  refine WO_val ?_ hk
  simp [execOp, hop, hx]
theorem WO_idxS {a : Addr} {sz c : Nat} {kk : IntKind} {j : Int} {jn : Nat} (hop : o.op = .indexAddr t x y) [SliceT P t e sz] (hx : ev f x = .slice (some a) n c) (hi : ev f y = .int kk j) (h0 : 0 ≤ j) (h1 : j < n) [hj : ToN j jn] (hk : K (ptr (some a) jn sz 0) w) : WO P C o f w K := by
  refine WO_index hop hx hi rfl h0 h1 ?_
  rw [ptr_some, Nat.add_zero, ← hj.h] at hk
  exact hk
theorem WO_fldS {a : Addr} {sz i off q fi : Nat} (hop : o.op = .fieldAddr t x fi) (hx : ev f x = ptr (some a) i sz off) [hf : FieldT P t fi q] (hk : K (ptr (some a) i sz (off + q)) w) : WO P C o f w K := WO_fldP hop hx ⟨a, rfl⟩ hk
theorem WO_mkMap (hop : o.op = .makeMap t none) (hM : Own F W w l) (hk : ∀ b w', Own F W w' (.map b #[] 0 :: l) → K (.map (some b)) w') : WO P C o f w K := by
  refine WO_eff (v := .map (some w.heap.size)) (w' := w.alloc (.map #[] 0)) ?_ (hk _ _ (hM.add (World.grownBy_alloc w _ none) (heap_alloc_new w _) (fun k e => by cases e; exact Nat.le_refl _)))
  simp [execOp, hop, Instr.makeMap]
theorem turned_own {w' : World} {l' : List Res} {es' : Array MapEntry} {clk' : Nat} (hM : Own F W w l) (ht : w.mapTurned w' b) (hb' : w'.heap[b]? = some (.map es' clk')) (hu : Upd l (.map b es clk) (.map b es' clk') l') : Own F W w' l' :=
  hM.upd hu ht.grown hb' (.inl rfl)
theorem WO_mapSet {l' : Array MapEntry → Nat → List Res} (hop : o.op = .mapUpdate t x y z) [T : MapII P t k e] (hx : ev f x = .map (some b)) (hy : ev f y = .int .i64 a) (hz : ev f z = .int .i64 v) (ha : In64 a) (hv : In64 v) (hM : Own F W w l) (hI : IsM P k e es clk n m) (hn : n < maxLen)
    (hu : ∀ es' clk', Upd l (.map b es clk) (.map b es' clk') (l' es' clk')) (hk : ∀ es' clk' w', IsM P k e es' clk' (n + 1) (putM m a v) → Own F W w' (l' es' clk') → K undef w') : WO P C o f w K := by
  have hb : w.heap[b]? = some (.map es clk) := hM.ok _ (hu es clk).old
  obtain ⟨D, ho, hV⟩ := hI w b hb
  have hK : Keyed P k := Maps.int_keyed T.hk
  obtain ⟨w', hrun, h1, h2⟩ := ho.store hK T.h hn (Maps.keyOf_int_mk T.hk (wf64 ha)) (plainElem_int T.he (wf64 hv))
  obtain ⟨es', clk', hb', _⟩ := id h1
  refine WO_do (w' := w') ?_ (hk es' clk' w' (isM_of h1 hb' (hV.put ho.isMap ha)) (turned_own hM h2 hb' (hu es' clk')))
  simp [execOp, hop, hx, hy, hz, hrun]
theorem WO_mapDel {l' : Array MapEntry → Nat → List Res} {k' : TypeId} (hop : o.op = .call { callee := .builtin .delete, args := #[x, y], argTypes := #[t, k'] }) [T : MapII P t k e] (hkk : k' = k) (hx : ev f x = .map (some b)) (hy : ev f y = .int .i64 a) (ha : In64 a) (hM : Own F W w l) (hI : IsM P k e es clk n m)
    (hu : ∀ es' clk', Upd l (.map b es clk) (.map b es' clk') (l' es' clk')) (hk : ∀ es' clk' w', IsM P k e es' clk' n (delM m a) → Own F W w' (l' es' clk') → K (.tuple #[]) w') : WO P C o f w K := by
  subst hkk
  have hb : w.heap[b]? = some (.map es clk) := hM.ok _ (hu es clk).old
  obtain ⟨D, ho, hV⟩ := hI w b hb
  have hK : Keyed P k' := Maps.int_keyed T.hk
  obtain ⟨w', hrun, h1, h2⟩ := ho.drop hK T.h (Maps.keyOf_int_mk T.hk (wf64 ha)) o.type
  obtain ⟨es', clk', hb', _⟩ := id h1
  refine WO_eff (v := .tuple #[]) (w' := w') ?_ (hk es' clk' w' (isM_of h1 hb' hV.del) (turned_own hM h2 hb' (hu es' clk')))
  simp only [execOp, hop, resolve, invoke, builtin, Sem.run_bind, Sem.run_pure, Result.andThen_ok, List.map_toArray, List.map_cons, List.map_nil, hx, hy, hrun]
/-- An entry that is there is laid open, and written later. -/
def Pend (P : Program) (t k e : TypeId) (b : Nat) (es : Array MapEntry) (clk n : Nat) (m : Int → Option Int) (a : Int) (st : Int) : Prop := ∀ (w2 : World) (v : Int), In64 v → w2.heap[b]? = some (.map es clk) → ∃ es' w', (Instr.entryStore t (.map (some b)) (.int .i64 st) (.int .i64 v)).run P w2 = .ok () w' ∧ w2.mapTurned w' b ∧ w'.heap[b]? = some (.map es' clk) ∧ IsM P k e es' clk n (putM m a v)
theorem WO_entry (hop : o.op = .mapEntry t x y) [T : MapII P t k e] (hx : ev f x = .map (some b)) (hy : ev f y = .int .i64 a) (ha : In64 a) (hM : Own F W w l) (hm : .map b es clk ∈ l) (hI : IsM P k e es clk n m) (hn : n < maxLen) (hin : (m a).isSome = true)
    (hk : ∀ v0 st w', Pend P t k e b es clk n m a st → Own F W w' l → K (.tuple #[v0, .int .i64 st]) w') : WO P C o f w K := by
  have hb : w.heap[b]? = some (.map es clk) := hM.ok _ hm
  obtain ⟨D, ho, hV⟩ := hI w b hb
  have hK : Keyed P k := Maps.int_keyed T.hk
  have hkey := Maps.keyOf_int_mk T.hk (wf64 ha)
  obtain ⟨es0, clk0, hb0, Ft, hs, hD⟩ := id ho
  rw [hb] at hb0
  injection hb0 with hb0
  injection hb0 with e1 e2
  subst e1 e2
  obtain ⟨_, s2, s3⟩ := Ft.stamped
  rcases hK.find w hkey es.toList Ft.keys with ⟨h1, h2⟩ | ⟨j, e0, h1, h2, h3⟩
  · exfalso
    have hlk := (look_run (t := t) ha hb hI).1
    rw [hin] at hlk
    have : (Instr.lookup t (.map (some b)) (.int .i64 a) true).run P w = .ok (.tuple #[.int .i64 0, .bool false]) w := by
      have hz := T.hz w
      simp [Instr.lookup, run_underlying T.h, MapKept.run_getObj_map hb, hK.check w _ hkey, h1, hz, Result.andThen]
    rw [this] at hlk
    injection hlk with hlk
    injection hlk with hlk
    simp at hlk
  · have hj : es[j]? = some e0 := by simpa using h2
    have hsame : es.modify j (fun q => { q with key := .int .i64 a }) = es := by
      apply Array.ext'
      rw [Array.toList_modify, modify_eq_set _ _ _ _ h2]
      have : ({ e0 with key := .int .i64 a } : MapEntry) = e0 := by rw [← h3]
      rw [this]
      exact set_self _ _ _ h2
    have hself : setBlock w b (.map es clk) = w := by
      unfold setBlock
      have : w.heap.setIfInBounds b (.map es clk) = w.heap := by
        apply Array.ext_getElem?
        intro i
        by_cases hi : i = b
        · subst hi
          rw [(heap_set hb).1, hb]
        · exact (heap_set hb).2 i hi
      rw [this]
    refine WO_eff (v := .tuple #[e0.val, .int .i64 (e0.born : Nat)]) (w' := w) ?_ (hk _ _ w (fun w2 v hv hw2 => ?_) hM)
    · have : (Instr.mapEntry t (.map (some b)) (.int .i64 a)).run P w = .ok (.tuple #[e0.val, .int .i64 (e0.born : Nat)]) w := by
        have hso := MapKept.run_setObj_map (P := P) (.map es clk) hb
        simp only [Instr.mapEntry, Sem.run_bind, run_underlying T.h, Result.andThen, MapKept.run_getObj_map hb, hK.check w false hkey, h1, hj, Option.map_some, Option.getD_some, h3, hK.stays w hkey, hsame, hso]
        have := hself
        unfold setBlock at this
        rw [this]
        rfl
      simp [execOp, hop, hx, hy, this]
    · obtain ⟨D2, ho2, hV2⟩ := hI w2 b hw2
      obtain ⟨w', hrun, q1, q2⟩ := ho2.store hK T.h hn hkey (plainElem_int T.he (wf64 hv))
      have h1' : (Instr.findKey k (.int .i64 a) es.toList).run P w2 = .ok (some (j, e0.val)) w2 := by
        rcases hK.find w2 hkey es.toList Ft.keys with ⟨g1, g2⟩ | ⟨j', e', g1, g2, g3⟩
        · exact absurd h3 (g2 e0 (List.mem_of_getElem? h2))
        · have e1 : es.toList[j]? = some e0 := h2
          have hjj : j' = j := by
            have hp := s3
            rw [List.Nodup, List.pairwise_map] at hp
            obtain ⟨b1, b2⟩ := List.getElem?_eq_some_iff.1 e1
            obtain ⟨b3, b4⟩ := List.getElem?_eq_some_iff.1 g2
            rcases Nat.lt_trichotomy j' j with hlt | hlt | hlt
            · have := List.pairwise_iff_getElem.1 hp j' j b3 b1 hlt
              rw [b2, b4, g3, h3] at this
              exact absurd rfl this
            · exact hlt
            · have := List.pairwise_iff_getElem.1 hp j j' b1 b3 hlt
              rw [b2, b4, g3, h3] at this
              exact absurd rfl this
          subst hjj
          rw [e1] at g2
          cases g2
          exact g1
      have hidx : es.findIdx? (fun q => ((q.born : Nat) : Int) == ((e0.born : Nat) : Int)) = some j := by
        rw [findIdx_arr]
        exact findIdx_born s2 h2
      have hmod : es.modify j (fun q => { q with val := .int .i64 v }) = es.modify j (fun q => { q with key := .int .i64 a, val := .int .i64 v }) := by
        apply Array.ext'
        rw [Array.toList_modify, Array.toList_modify, modify_eq_set _ _ _ _ h2, modify_eq_set _ _ _ _ h2, ← h3]
      have hup : (Instr.mapUpdate t (.map (some b)) (.int .i64 a) (.int .i64 v)).run P w2 = .ok () (setBlock w2 b (.map (es.modify j (fun q => { q with val := .int .i64 v })) clk)) := by
        rw [hmod]
        simp [Instr.mapUpdate, run_underlying T.h, MapKept.run_getObj_map hw2, hK.check w2 false hkey, h1', hj, h3, hK.stays w2 hkey, MapKept.run_setObj_map _ hw2, Result.andThen, setBlock]
      rw [hup] at hrun
      injection hrun with _ hrun
      subst hrun
      have hb' := heap_setBlock_same hw2 (.map (es.modify j (fun q => { q with val := .int .i64 v })) clk)
      refine ⟨_, _, ?_, q2, hb', isM_sz (isM_of q1 hb' (hV2.put ho2.isMap ha)) (by rw [Array.size_modify]; exact hs)⟩
      simp [Instr.entryStore, MapKept.run_getObj_map hw2, asInt, asIntOf, hidx, MapKept.run_setObj_map _ hw2, Result.andThen, setBlock]
theorem WO_entrySt {l' : Array MapEntry → List Res} {st : Int} (hop : o.op = .entryStore t x y z) (hx : ev f x = .map (some b)) (hy : ev f y = .int .i64 st) (hz : ev f z = .int .i64 v) (hv : In64 v) (hM : Own F W w l) (hp : Pend P t k e b es clk n m a st)
    (hu : ∀ es', Upd l (.map b es clk) (.map b es' clk) (l' es')) (hk : ∀ es' w', IsM P k e es' clk n (putM m a v) → Own F W w' (l' es') → K undef w') : WO P C o f w K := by
  have hb : w.heap[b]? = some (.map es clk) := hM.ok _ (hu es).old
  obtain ⟨es', w', h1, h2, h3, h4⟩ := hp w v hv hb
  refine WO_do (w' := w') ?_ (hk es' w' h4 (turned_own hM h2 h3 (hu es')))
  simp [execOp, hop, hx, hy, hz, h1]
theorem sh_nck {x : Operand} {d : Option Nat} {ty : TypeId} {p : String} {af : Array Edge} {g : Option (Nat × Bool)} (h : WO P C ⟨d, .nilCheck x, ty, p, af, g⟩ f w K) : WO P C ⟨d, .nilCheck x, ty, p, af, g⟩ f w K := h
end
end R
end Go.Proofs.Ytegbidklcaccjaa
