/- Maps from numbers to values of a kind, of the call's own. What rules say, way by way: arcs.sorted; whether a turn may be taken by what they say. arcs.sorted and whether a turn may be taken, by rules with bans: the walks. The arcs that leave a way, by rules that may be; what is said of a way, asked. The graph of a net by rules, as the document has it: plain. arcs.Of: its walk. -/
import Derived.Test.YtdiodefooipojaaGreatArn
import Derived.Maps.OwnSet
import Derived.Test.YtdiodefooipojaaGreatArm
import Derived.Test.YtdiodefooipojaaGreatTv
import Derived.Test.YtdiodefooipojaaGreatArt
namespace Go.Proofs.YtdiodefooipojaaGreat
open Go.ChangeMaps Go.MapKept Go.WideShapes Go.WideElems Go.RowKit
open Go.Maps (Keyed IsMap)
open R (In64 InU64 lo64 nth)
namespace R
/-- A kind of values that a map holds: how they lie, how they read. -/
structure MK (T : Type) where
  enc : T → Value
  dat : T → DataW Unit
  elem : Value → Option (DataW Unit × List MemPlace)
  of : ∀ p, elem (enc p) = some (dat p, [])
  inv : ∀ {v : Value} {d : DataW Unit} {ps : List MemPlace}, elem v = some (d, ps) → ∃ p, v = enc p ∧ d = dat p
  inj : ∀ {p q : T}, dat p = dat q → p = q
def ViewK {T : Type} (κ : MK T) (D : DataW Unit) (m : Int → Option T) : Prop := ∀ a, In64 a → Maps.has D (.int .i64 a) = (m a).isSome ∧ ∀ v, m a = some v → ∀ z, D.atKey (.int .i64 a) z = κ.dat v
def NonK {T : Type} (m : Int → Option T) : Prop := ∀ a, In64 a → m a = none
def IsK {T : Type} (κ : MK T) (P : Program) (k : TypeId) (es : Array MapEntry) (clk n : Nat) (m : Int → Option T) : Prop := ∀ (w : World) (b : Nat), w.heap[b]? = some (.map es clk) → ∃ D : DataW Unit, w.ownsMap P k κ.elem b n D ∧ ViewK κ D m ∧ (NonK m → Maps.size D = 0)
class MapIK {T : Type} (κ : outParam (MK T)) (P : Program) (t : TypeId) (k e : outParam TypeId) (z : outParam T) : Prop where
  h : P.underlying t = some (.map k e)
  hk : P.underlying k = some (.int .i64)
  hz : ∀ w, (zeroValue e).run P w = .ok (κ.enc z) w
def putK {T : Type} (m : Int → Option T) (a : Int) (v : T) : Int → Option T := fun q => if q = a then some v else m q
theorem putK_same {T : Type} (m : Int → Option T) (a : Int) (v : T) : putK m a v a = some v := if_pos rfl
theorem putK_ne {T : Type} {m : Int → Option T} {a q : Int} {v : T} (h : q ≠ a) : putK m a v q = m q := if_neg h
section
variable {T : Type} {κ : MK T} {P : Program} {C : CallH} {o : Oper} {f : Fr} {w : World} {K : Value → World → Prop} {t k e : TypeId} {x y z : Operand} {F : List Nat} {W : World} {l : List Res} {b n : Nat} {es : Array MapEntry} {clk : Nat} {m : Int → Option T} {a : Int} {v z0 : T}
theorem isK_of {es' : Array MapEntry} {clk' n' : Nat} {D : DataW Unit} {m' : Int → Option T} (h : w.ownsMap P k κ.elem b n' D) (hb : w.heap[b]? = some (.map es' clk')) (hv : ViewK κ D m') (hn : NonK m' → Maps.size D = 0) : IsK κ P k es' clk' n' m' := fun w2 b2 h2 => by
  obtain ⟨es1, clk1, hb1, Ft, hs, hD⟩ := h
  rw [hb] at hb1
  injection hb1 with hb1
  injection hb1 with e1 e2
  subst e1 e2
  exact ⟨D, ⟨es', clk', h2, Ft, hs, hD⟩, hv, hn⟩
theorem isK_empty (κ : MK T) (P : Program) (k : TypeId) : IsK κ P k #[] 0 0 (fun _ => none) := fun w b h =>
  ⟨.map [], ⟨#[], 0, h, ⟨by simp, stamped_empty 0, by simp⟩, Nat.le_refl _, rfl⟩, fun a _ => ⟨rfl, fun v hv => by cases hv⟩, fun _ => rfl⟩
theorem isK_sz {n' : Nat} (h : IsK κ P k es clk n m) (hs : n ≤ n') : IsK κ P k es clk n' m := fun w b hb => by
  obtain ⟨D, ⟨es1, clk1, hb1, Ft, h1, hD⟩, hv⟩ := h w b hb
  exact ⟨D, ⟨es1, clk1, hb1, Ft, by omega, hD⟩, hv⟩
theorem ViewK.put {D : DataW Unit} (hD : IsMap D) (h : ViewK κ D m) (ha : In64 a) : ViewK κ (D.put (.int .i64 a) (κ.dat v)) (putK m a v) := fun q hq => by
  by_cases hqa : q = a
  · subst hqa
    rw [putK_same, Maps.has_put_same (k := .int .i64 q) hD trivial]
    exact ⟨rfl, fun v' hv' z => by cases hv'; exact Maps.atKey_put_same (k := .int .i64 q) hD trivial _ _⟩
  · have hne : Lit.int .i64 q ≠ Lit.int .i64 a := fun c => hqa (by injection c)
    rw [putK_ne hqa, Maps.has_put_other hne]
    exact ⟨(h q hq).1, fun v' hv' z => by rw [Maps.atKey_put_other hne]; exact (h q hq).2 v' hv' z⟩
theorem lookK_val {D : DataW Unit} (hV : ViewK κ D m) (ha : In64 a) {u : Value} {ps : List MemPlace} (hu : κ.elem u = some (D.atKey (.int .i64 a) (κ.dat z0), ps)) : u = κ.enc ((m a).getD z0) := by
  obtain ⟨p, rfl, hp⟩ := κ.inv hu
  obtain ⟨h1, h2⟩ := hV a ha
  cases hm : m a with
  | none =>
    rw [hm] at h1
    have h1 : Maps.has D (.int .i64 a) = false := h1
    rw [Maps.atKey_of_not_has h1] at hp
    rw [κ.inj hp]
    rfl
  | some v =>
    rw [h2 v hm] at hp
    rw [κ.inj hp]
    rfl
theorem WO_lkK1 (hop : o.op = .lookup t x y true) [S : MapIK κ P t k e z0] (hx : ev f x = .map (some b)) (hy : ev f y = .int .i64 a) (ha : In64 a) (hM : Own F W w l) (hm : .map b es clk ∈ l) (hI : IsK κ P k es clk n m) (hk : K (.tuple #[κ.enc ((m a).getD z0), .bool (m a).isSome]) w) : WO P C o f w K := by
  obtain ⟨D, ho, hV, _⟩ := hI w b (hM.ok _ hm)
  obtain ⟨u, ps, hrun, hu⟩ := ho.look_ok (Maps.int_keyed S.hk) S.h (S.hz w) (κ.of z0) (Maps.keyOf_int_mk S.hk (wf64a ha))
  rw [lookK_val hV ha hu, (hV a ha).1] at hrun
  refine WO_val ?_ hk
  simp [execOp, hop, hx, hy, hrun]
theorem WO_lkK (hop : o.op = .lookup t x y false) [S : MapIK κ P t k e z0] (hx : ev f x = .map (some b)) (hy : ev f y = .int .i64 a) (ha : In64 a) (hM : Own F W w l) (hm : .map b es clk ∈ l) (hI : IsK κ P k es clk n m) (hk : K (κ.enc ((m a).getD z0)) w) : WO P C o f w K := by
  obtain ⟨D, ho, hV, _⟩ := hI w b (hM.ok _ hm)
  obtain ⟨u, ps, hrun, hu⟩ := ho.lookup (Maps.int_keyed S.hk) S.h (S.hz w) (κ.of z0) (Maps.keyOf_int_mk S.hk (wf64a ha))
  rw [lookK_val hV ha hu] at hrun
  refine WO_val ?_ hk
  simp [execOp, hop, hx, hy, hrun]
theorem size_has {D : DataW Unit} (h : Maps.size D = 0) (q : Lit) : Maps.has D q = false := by
  cases D with
  | map es =>
    have : es = [] := List.eq_nil_of_length_eq_zero h
    subst this
    rfl
  | _ => rfl
theorem WO_lenK (hop : o.op = .call { callee := .builtin .len, args := #[x], argTypes := #[t] }) [S : MapIK κ P t k e z0] (hx : ev f x = .map (some b)) (hM : Own F W w l) (hm : .map b es clk ∈ l) (hI : IsK κ P k es clk n m) (hk : ∀ c : Nat, (c = 0 ↔ NonK m) → K (.int .i64 (c : Nat)) w) : WO P C o f w K := by
  obtain ⟨D, ho, hV, h0⟩ := hI w b (hM.ok _ hm)
  have hr := ho.len S.h o.type
  refine WO_val ?_ (hk (Maps.size D) ⟨fun h => fun a ha => ?_, h0⟩)
  · simp [execOp, hop, hx, resolve, invoke, builtin, hr]
  · have := (hV a ha).1
    rw [size_has h] at this
    exact Option.not_isSome_iff_eq_none.1 (by rw [← this]; decide)
theorem turned_ownK {w' : World} {l' : List Res} {es' : Array MapEntry} {clk' : Nat} (hM : Own F W w l) (ht : w.mapTurned w' b) (hb' : w'.heap[b]? = some (.map es' clk')) (hu : Upd l (.map b es clk) (.map b es' clk') l') : Own F W w' l' :=
  hM.upd hu ht.grown hb' (.inl rfl)
theorem WO_setK {l' : Array MapEntry → Nat → List Res} (hop : o.op = .mapUpdate t x y z) [S : MapIK κ P t k e z0] (hx : ev f x = .map (some b)) (hy : ev f y = .int .i64 a) (hz : ev f z = κ.enc v) (ha : In64 a) (hM : Own F W w l) (hI : IsK κ P k es clk n m) (hn : n < maxLen)
    (hu : ∀ es' clk', Upd l (.map b es clk) (.map b es' clk') (l' es' clk')) (hk : ∀ es' clk' w', IsK κ P k es' clk' (n + 1) (putK m a v) → Own F W w' (l' es' clk') → K undef w') : WO P C o f w K := by
  have hb : w.heap[b]? = some (.map es clk) := hM.ok _ (hu es clk).old
  obtain ⟨D, ho, hV, _⟩ := hI w b hb
  obtain ⟨w', hrun, h1, h2⟩ := ho.store (Maps.int_keyed S.hk) S.h hn (Maps.keyOf_int_mk S.hk (wf64a ha)) (κ.of v)
  obtain ⟨es', clk', hb', _⟩ := id h1
  refine WO_do (w' := w') ?_ (hk es' clk' w' (isK_of h1 hb' (hV.put ho.isMap ha) fun h => ?_) (turned_ownK hM h2 hb' (hu es' clk')))
  · simp [execOp, hop, hx, hy, hz, hrun]
  · have := h a ha
    rw [putK_same] at this
    cases this
end
def kB : MK Bool where
  enc := .bool
  dat p := .lit (.bool p)
  elem v := match v with
    | .bool p => some (.lit (.bool p), [])
    | _ => none
  of _ := rfl
  inv h := by
    split at h
    · injection h with h
      injection h with h1 h2
      exact ⟨_, rfl, h1.symm⟩
    · cases h
  inj h := by
    injection h with h
    injection h with h
def oiK : Option Nat → Int
  | none => -1
  | some n => n
theorem oiK_inj {p q : Option Nat} (h : oiK p = oiK q) : p = q := by
  cases p with
  | none =>
    cases q with
    | none => rfl
    | some b => simp only [oiK] at h; omega
  | some a =>
    cases q with
    | none => simp only [oiK] at h; omega
    | some b => simp only [oiK] at h; rw [show a = b by omega]
def kM : MK (Option Nat × Option Nat) where
  enc p := .agg #[.map p.1, .map p.2]
  dat p := .agg [.lit (.int .i64 (oiK p.1)), .lit (.int .i64 (oiK p.2))]
  elem v := match v with
    | .agg cs => match cs.toList with
      | [.map a, .map b] => some (.agg [.lit (.int .i64 (oiK a)), .lit (.int .i64 (oiK b))], [])
      | _ => none
    | _ => none
  of _ := rfl
  inv h := by
    split at h
    · rename_i cs
      split at h
      · rename_i a b hcs
        injection h with h
        injection h with h1 h2
        refine ⟨(a, b), ?_, h1.symm⟩
        have : cs = #[.map a, .map b] := by
          apply Array.ext'
          rw [hcs]
        rw [this]
      · cases h
    · cases h
  inj h := by
    injection h with h
    injection h with h1 h2
    injection h2 with h2 _
    injection h1 with h1
    injection h1 with _ h1
    injection h2 with h2
    injection h2 with _ h2
    exact Prod.ext (oiK_inj h1) (oiK_inj h2)
end R
instance mapIK_B : R.MapIK R.kB Tryz.prog 56 3 4 false := ⟨by kernel_rfl, by kernel_rfl, Tryz.zeroValue4⟩
instance mapIK_M : R.MapIK R.kM Tryz.prog 52 3 58 (none, none) := ⟨by kernel_rfl, by kernel_rfl, Tryz.zeroValue58⟩
end Go.Proofs.YtdiodefooipojaaGreat
namespace Go.Proofs.YtdiodefooipojaaGreat
open Go.RowKit
open R (In64 InU64 lo64 nth IsK kB kM putK)

/-- What is said of a way: where it lies. -/
structure Grp where
  frm : Int
  bn : Nat
  esn : Array MapEntry
  cn : Nat
  bo : Nat
  eso : Array MapEntry
  co : Nat
  deriving Inhabited
def grpR (q : Grp) : List R.Res := [.map q.bn q.esn q.cn, .map q.bo q.eso q.co]
def gst (Gs : List Grp) : List R.Res := Gs.flatMap grpR
def gkey (q : Grp) : Int × Nat × Nat := (q.frm, q.bn, q.bo)
def mapOf (Gs : List Grp) (a : Int) : Option (Option Nat × Option Nat) := ((Gs.map gkey).find? fun t => decide (t.1 = a)).map fun t => (some t.2.1, some t.2.2)
def noF (L : List Bn) (a u : Int) : Option Bool := if banB L a u then some true else none
def foF (L : List Bn) (a u : Int) : Option Bool := if forB L a u then some true else none
theorem gst_focus {F : List Nat} {W0 w : World} {Gs : List Grp} {j : Nat} {pre : List R.Res} (hM : R.Own F W0 w (pre ++ gst Gs)) (hj : j < Gs.length) : R.Own F W0 w (grpR (nth Gs j) ++ (pre ++ (gst (Gs.take j) ++ gst (Gs.drop (j + 1))))) := by
  have e : gst Gs = gst (Gs.take j) ++ (grpR (nth Gs j) ++ gst (Gs.drop (j + 1))) := by
    conv => lhs; rw [show Gs = Gs.take j ++ nth Gs j :: Gs.drop (j + 1) by rw [R.nth_eq hj, List.getElem_cons_drop, List.take_append_drop]]
    unfold gst
    rw [List.flatMap_append, List.flatMap_cons]
  rw [e] at hM
  refine hM.perm ?_
  refine List.Perm.trans (List.perm_append_comm_assoc _ _ _) (List.Perm.append_left pre ?_)
  exact List.perm_append_comm_assoc _ _ _
theorem gst_back {F : List Nat} {W0 w : World} {Gs : List Grp} {j : Nat} {pre : List R.Res} {q : Grp} (hM : R.Own F W0 w (grpR q ++ (pre ++ (gst (Gs.take j) ++ gst (Gs.drop (j + 1)))))) (hj : j < Gs.length) : R.Own F W0 w (pre ++ gst (Gs.set j q)) := by
  have e : gst (Gs.set j q) = gst (Gs.take j) ++ (grpR q ++ gst (Gs.drop (j + 1))) := by
    rw [List.set_eq_take_append_cons_drop, if_pos hj]
    unfold gst
    rw [List.flatMap_append, List.flatMap_cons]
  rw [e]
  refine hM.perm ?_
  refine List.Perm.trans (List.Perm.append_left pre ?_) (List.perm_append_comm_assoc _ _ _)
  exact List.perm_append_comm_assoc _ _ _
/-- What the first k bans say. -/
structure SrI (L : List Bn) (k N : Nat) (Gs : List Grp) (es : Array MapEntry) (clk : Nat) : Prop where
  nd : (Gs.map Grp.frm).Nodup
  ok : ∀ q ∈ Gs, IsK kB Tryz.prog 3 q.esn q.cn k (noF (L.take k) q.frm) ∧ IsK kB Tryz.prog 3 q.eso q.co k (foF (L.take k) q.frm)
  out : IsK kM Tryz.prog 3 es clk N (mapOf Gs)
  has : ∀ a, mapOf Gs a = none → ∀ b ∈ L.take k, b.frm ≠ a
theorem SrI.start (L : List Bn) : SrI L 0 0 [] #[] 0 := ⟨List.nodup_nil, fun q hq => (by cases hq), R.isK_empty _ _ _, fun a _ b hb => (by cases hb)⟩
theorem SrI.sz {L : List Bn} {k N N' : Nat} {Gs : List Grp} {es : Array MapEntry} {clk : Nat} (h : SrI L k N Gs es clk) (hN : N ≤ N') : SrI L k N' Gs es clk := ⟨h.nd, h.ok, R.isK_sz h.out hN, h.has⟩
theorem mapOf_some {Gs : List Grp} {a : Int} {p : Option Nat × Option Nat} (h : mapOf Gs a = some p) : ∃ j, j < Gs.length ∧ (nth Gs j).frm = a ∧ p = (some (nth Gs j).bn, some (nth Gs j).bo) := by
  unfold mapOf at h
  obtain ⟨t, ht, rfl⟩ := Option.map_eq_some_iff.1 h
  have h1 := List.find?_some ht
  obtain ⟨q, hq, rfl⟩ := List.mem_map.1 (List.mem_of_find?_eq_some ht)
  obtain ⟨j, hj, e⟩ := List.getElem_of_mem hq
  refine ⟨j, hj, ?_, ?_⟩
  · rw [R.nth_eq hj, e]; exact of_decide_eq_true h1
  · rw [R.nth_eq hj, e]; rfl
theorem mapOf_none {Gs : List Grp} {a : Int} (h : mapOf Gs a = none) : ∀ q ∈ Gs, q.frm ≠ a := fun q hq e => by
  unfold mapOf at h
  rw [Option.map_eq_none_iff, List.find?_eq_none] at h
  exact h _ (List.mem_map.2 ⟨q, hq, rfl⟩) (decide_eq_true e)
theorem mapOf_cons (q : Grp) (Gs : List Grp) : mapOf (q :: Gs) = putK (mapOf Gs) q.frm (some q.bn, some q.bo) := by
  funext u
  unfold mapOf putK
  rw [List.map_cons, List.find?_cons]
  by_cases h : q.frm = u
  · rw [if_pos h.symm, decide_eq_true (show (gkey q).1 = u from h)]; rfl
  · rw [if_neg (fun e => h e.symm), decide_eq_false (show ¬ (gkey q).1 = u from h)]
theorem ban_none {L : List Bn} {a : Int} (h : ∀ b ∈ L, b.frm ≠ a) (u : Int) : banB L a u = false ∧ forB L a u = false := by
  unfold banB forB
  constructor
  · rw [List.any_eq_false]; intro b hb; simp [h b hb]
  · rw [List.any_eq_false]; intro b hb; simp [h b hb]
theorem SrI.new {L : List Bn} {k N : Nat} {Gs : List Grp} {es es' : Array MapEntry} {clk clk' : Nat} (h : SrI L k N Gs es clk) {a : Int} (ha : mapOf Gs a = none) {bn bo : Nat} (ho : IsK kM Tryz.prog 3 es' clk' (N + 1) (putK (mapOf Gs) a (some bn, some bo))) : SrI L k (N + 1) (⟨a, bn, #[], 0, bo, #[], 0⟩ :: Gs) es' clk' := by
  have hb := ban_none (h.has a ha)
  refine ⟨?_, fun q hq => ?_, by rw [mapOf_cons]; exact ho, fun u hu b hb => ?_⟩
  · rw [List.map_cons, List.nodup_cons]
    refine ⟨fun hm => ?_, h.nd⟩
    obtain ⟨q, hq, e⟩ := List.mem_map.1 hm
    exact mapOf_none ha q hq e
  · rcases List.mem_cons.1 hq with rfl | hq
    · have e1 : noF (L.take k) a = fun _ => none := by funext u; unfold noF; rw [(hb u).1]; rfl
      have e2 : foF (L.take k) a = fun _ => none := by funext u; unfold foF; rw [(hb u).2]; rfl
      dsimp only
      rw [e1, e2]
      exact ⟨R.isK_sz (R.isK_empty _ _ _) (Nat.zero_le _), R.isK_sz (R.isK_empty _ _ _) (Nat.zero_le _)⟩
    · exact h.ok q hq
  · rw [mapOf_cons] at hu
    unfold putK at hu
    split at hu
    · cases hu
    · exact h.has u hu b hb
theorem noF_put {L : List Bn} {k : Nat} (hk : k < L.length) (ho : (nth L k).only = false) : noF (L.take (k + 1)) (nth L k).frm = putK (noF (L.take k) (nth L k).frm) (nth L k).to true := by
  funext u
  unfold noF putK banB
  rw [any_snoc _ hk]
  by_cases h : u = (nth L k).to
  · rw [if_pos h, ho, decide_eq_true rfl, decide_eq_true h.symm]; simp
  · rw [if_neg h, decide_eq_false (show ¬ (nth L k).to = u from fun e => h e.symm)]; simp
theorem foF_put {L : List Bn} {k : Nat} (hk : k < L.length) (ho : (nth L k).only = true) : foF (L.take (k + 1)) (nth L k).frm = putK (foF (L.take k) (nth L k).frm) (nth L k).to true := by
  funext u
  unfold foF putK forB
  rw [any_snoc _ hk]
  by_cases h : u = (nth L k).to
  · rw [if_pos h, ho, decide_eq_true rfl, decide_eq_true h.symm]; simp
  · rw [if_neg h, decide_eq_false (show ¬ (nth L k).to = u from fun e => h e.symm)]; simp
theorem noF_keep {L : List Bn} {k : Nat} {a : Int} (hk : k < L.length) (h : (nth L k).frm ≠ a ∨ (nth L k).only = true) : noF (L.take (k + 1)) a = noF (L.take k) a := by
  funext u
  unfold noF banB
  rw [any_snoc _ hk]
  rcases h with h | h
  · rw [decide_eq_false h]; simp
  · rw [h]; simp
theorem foF_keep {L : List Bn} {k : Nat} {a : Int} (hk : k < L.length) (h : (nth L k).frm ≠ a ∨ (nth L k).only = false) : foF (L.take (k + 1)) a = foF (L.take k) a := by
  funext u
  unfold foF forB
  rw [any_snoc _ hk]
  rcases h with h | h
  · rw [decide_eq_false h]; simp
  · rw [h]; simp
theorem SrI.put {L : List Bn} {k N : Nat} {Gs : List Grp} {es : Array MapEntry} {clk : Nat} (h : SrI L k N Gs es clk) (hk : k < L.length) {j : Nat} (hj : j < Gs.length) (hf : (nth Gs j).frm = (nth L k).frm) {q : Grp} (hq : gkey q = gkey (nth Gs j))
    (h1 : IsK kB Tryz.prog 3 q.esn q.cn (k + 1) (noF (L.take (k + 1)) (nth L k).frm)) (h2 : IsK kB Tryz.prog 3 q.eso q.co (k + 1) (foF (L.take (k + 1)) (nth L k).frm)) : SrI L (k + 1) N (Gs.set j q) es clk := by
  have hq1 : q.frm = (nth L k).frm := (congrArg (·.1) hq).trans hf
  have hkey : (Gs.set j q).map gkey = Gs.map gkey := by
    rw [List.map_set, hq, R.nth_eq hj, ← List.getElem_map gkey (h := by rw [List.length_map]; exact hj), List.set_getElem_self]
  have hfr : (Gs.set j q).map Grp.frm = Gs.map Grp.frm := by
    have := congrArg (List.map (·.1)) hkey
    rw [List.map_map, List.map_map] at this
    exact this
  have hmo : mapOf (Gs.set j q) = mapOf Gs := by unfold mapOf; rw [hkey]
  refine ⟨by rw [hfr]; exact h.nd, fun p hp => ?_, by rw [hmo]; exact h.out, fun a ha b hb => ?_⟩
  · obtain ⟨i, hi, rfl⟩ := List.getElem_of_mem hp
    rw [List.length_set] at hi
    rw [List.getElem_set]
    split
    · rw [hq1]; exact ⟨h1, h2⟩
    · rename_i hne
      have hpi := h.ok _ (List.getElem_mem hi)
      have hnf : (nth L k).frm ≠ (Gs[i]).frm := fun e => by
        rw [← hf, R.nth_eq hj] at e
        have hn := List.pairwise_iff_getElem.1 h.nd
        rcases Nat.lt_or_ge i j with c | c
        · have := hn i j (by rw [List.length_map]; exact hi) (by rw [List.length_map]; exact hj) c
          rw [List.getElem_map, List.getElem_map] at this
          exact this e.symm
        · have := hn j i (by rw [List.length_map]; exact hj) (by rw [List.length_map]; exact hi) (by omega)
          rw [List.getElem_map, List.getElem_map] at this
          exact this e
      rw [noF_keep hk (.inl hnf), foF_keep hk (.inl hnf)]
      exact ⟨R.isK_sz hpi.1 (by omega), R.isK_sz hpi.2 (by omega)⟩
  · rw [hmo] at ha
    rw [take_snoc hk, List.mem_append, List.mem_singleton] at hb
    rcases hb with hb | rfl
    · exact h.has a ha b hb
    · intro e
      exact mapOf_none ha (nth Gs j) (R.nth_mem hj) (hf.trans e)
end Go.Proofs.YtdiodefooipojaaGreat
namespace Go.Proofs.YtdiodefooipojaaGreat
open Go.RowKit
open R (In64 InU64 lo64 nth IsK kB kM putK NonK)

/-- Whether a turn from v to u may be taken, by what is said of v. -/
def mayV (L : List Bn) (v u : Int) (ab : Bool) : Bool := if banB L v u then false else if someB L v then forB L v u else (decide (v / 2 ≠ u / 2) || ab)
theorem no_enc (L : List Bn) (a u : Int) : kB.enc ((noF L a u).getD false) = .bool (banB L a u) := by unfold noF; cases banB L a u <;> rfl
theorem fo_enc (L : List Bn) (a u : Int) : kB.enc ((foF L a u).getD false) = .bool (forB L a u) := by unfold foF; cases forB L a u <;> rfl
theorem fo_non {L : List Bn} {a : Int} (hL : ∀ b ∈ L, In64 b.to) : NonK (foF L a) ↔ someB L a = false := by
  constructor
  · intro h
    unfold someB
    rw [List.any_eq_false]
    intro b hb hc
    rw [Bool.and_eq_true] at hc
    have h1 := h b.to (hL b hb)
    unfold foF at h1
    have : forB L a b.to = true := by
      unfold forB
      exact List.any_eq_true.2 ⟨b, hb, by rw [hc.1, hc.2, decide_eq_true rfl]; rfl⟩
    rw [this] at h1
    cases h1
  · intro h u _
    unfold foF
    cases hf : forB L a u with
    | true => rw [forB_some hf] at h; cases h
    | false => rfl
theorem rulesM (L : List Bn) (bn bo : Nat) (esn eso : Array MapEntry) (cn co N : Nat) (v u : Int) (ab : Bool) (w : World) (hR : R.Has w [.map bn esn cn, .map bo eso co]) (h1 : IsK kB Tryz.prog 3 esn cn N (noF L v)) (h2 : IsK kB Tryz.prog 3 eso co N (foF L v)) (hL : ∀ b ∈ L, In64 b.to) (hv : 0 ≤ v) (hu : 0 ≤ u) (hv2 : In64 v) (hu2 : In64 u) :
    Calls Tryz.prog 20 #[.agg #[.map (some bn), .map (some bo)], .int .i64 v, .int .i64 u, .bool ab] w fun e w' => e = .returned (.bool (mayV L v u ab)) ∧ R.Own (R.keysOf [.map bn esn cn, .map bo eso co]) w w' [.map bn esn cn, .map bo eso co] := by
  have hM := R.Own.startF hR
  obtain ⟨F, hF⟩ : ∃ F, R.keysOf [.map bn esn cn, .map bo eso co] = F := ⟨_, rfl⟩
  rw [hF] at hM ⊢
  clear hF hR
  have hv3 := hv2
  have hu3 := hu2
  unfold In64 at hv3 hu3
  unfold mayV
  refine R.calls_of_WC (fn := Tryz.f20) Tryz.func20 rfl Tryz.ntmps20 (Nat.le_of_ble_eq_true rfl) ?_
  (refine R.stepN ?_; (repeat' (first | (with_reducible refine And.intro ?_ ?_) | (with_reducible intro _))); all_goals refine R.Lft.mk ?_)
  refine R.WO_lkK rfl rfl rfl hu2 R.ohm R.memb h1 ?_
  rw [no_enc]
  cases hb : banB L v u with
  | true =>
    (refine R.stepN ?_; (repeat' (first | (with_reducible refine And.intro ?_ ?_) | (with_reducible intro _))); all_goals refine R.Lft.mk ?_)
    exact ⟨rfl, R.Own.tl R.ohm⟩
  | false =>
    (refine R.stepN ?_; (repeat' (first | (with_reducible refine And.intro ?_ ?_) | (with_reducible intro _))); all_goals refine R.Lft.mk ?_)
    refine R.WO_lenK rfl rfl R.ohm R.memb h2 (fun c hc => ?_)
    rw [fo_non hL] at hc
    cases hs : someB L v with
    | true =>
      have hc0 : 0 < c := by
        rcases Nat.eq_zero_or_pos c with e | e
        · have := hc.1 e
          rw [hs] at this
          cases this
        · exact e
      (refine R.stepN ?_; (repeat' (first | (with_reducible refine And.intro ?_ ?_) | (with_reducible intro _))); all_goals refine R.Lft.mk ?_)
      refine R.WO_lkK rfl rfl rfl hu2 R.ohm R.memb h2 ?_
      rw [fo_enc]
      (refine R.stepN ?_; (repeat' (first | (with_reducible refine And.intro ?_ ?_) | (with_reducible intro _))); all_goals refine R.Lft.mk ?_)
      exact ⟨rfl, R.Own.tl R.ohm⟩
    | false =>
      obtain rfl : c = 0 := hc.2 hs
      (refine R.stepN ?_; (repeat' (first | (with_reducible refine And.intro ?_ ?_) | (with_reducible intro _))); all_goals refine R.Lft.mk ?_)
      all_goals
        refine ⟨?_, R.Own.tl R.ohm⟩
        simp [*]
set_option maxHeartbeats 4000000 in
theorem said_any (r : Rl) (w : World) (hG : GRl w r) (hn : r.b.n ≤ 2000) : Calls Tryz.prog 19 #[.agg (cRl r).toArray] w fun e w' => ∃ b es clk Gs, e = .returned (.map (some b)) ∧ SrI r.b.L r.b.n r.b.n Gs es clk ∧ R.Own [] w w' (.map b es clk :: gst Gs) := by
  have hM := R.Own.start [] w
  obtain ⟨⟨b1, b2, b3, b4⟩, b5⟩ := hG
  refine R.calls_of_WC (fn := Tryz.f19) Tryz.func19 rfl Tryz.ntmps19 (Nat.le_of_ble_eq_true rfl) ?_
  (refine R.stepN ?_; (repeat' (first | (with_reducible refine And.intro ?_ ?_) | (with_reducible intro _))); all_goals refine R.Lft.mk ?_)
  refine WO_mkMap0 rfl R.ohm fun b w2 hM => ?_
  (refine R.stepN ?_; (repeat' (first | (with_reducible refine And.intro ?_ ?_) | (with_reducible intro _))); all_goals refine R.Lft.mk ?_)
  refine R.WC_loop (fun i : Nat × List Grp × Array MapEntry × Nat => [(2, .map none), (3, .map (some b)), (10, .slice r.b.A r.b.n r.b.c), (11, .int .i64 (r.b.n : Nat)), (12, .int .i64 (i.1 : Nat))])
    (fun i w3 => i.1 ≤ r.b.n ∧ SrI r.b.L i.1 i.1 i.2.1 i.2.2.1 i.2.2.2 ∧ R.Own [] w w3 (.map b i.2.2.1 i.2.2.2 :: gst i.2.1)) (fun i => r.b.n - i.1)
    ⟨(0, [], #[], 0), ⟨rfl, rfl, rfl, rfl, rfl, trivial⟩, Nat.zero_le _, SrI.start _, R.Own.sub (R.ohm : R.Own [] w _ _) R.subl⟩ ?_
  clear hM
  rintro ⟨k, Gs, es, clk⟩ f w3 ⟨hk, hS, hM⟩
  dsimp only at hk hS hM ⊢
  by_cases hlt : k < r.b.n
  · have hbk := b4 _ (R.nth_mem (L := r.b.L) (i := k) (by omega))
    have hfr : In64 (nth r.b.L k).frm := by have := bounds_i64 hbk.1; unfold In64; omega
    have hto : In64 (nth r.b.L k).to := by have := bounds_i64 hbk.2; unfold In64; omega
    (refine R.stepN ?_; (repeat' (first | (with_reducible refine And.intro ?_ ?_) | (with_reducible intro _))); all_goals refine R.Lft.mk ?_)
    rename_i gb _ _ _ hM
    refine R.WO_lkK1 rfl rfl rfl hfr R.ohm R.memb hS.out ?_
    cases hmo : mapOf Gs (nth r.b.L k).frm with
    | none =>
      rw [show kM.enc ((none : Option (Option Nat × Option Nat)).getD (none, none)) = Value.agg #[.map none, .map none] from rfl, show (none : Option (Option Nat × Option Nat)).isSome = false from rfl]
      (refine R.stepN ?_; (repeat' (first | (with_reducible refine And.intro ?_ ?_) | (with_reducible intro _))); all_goals refine R.Lft.mk ?_)
      refine WO_mkMap0 rfl R.ohm fun bn w4 hM => ?_
      (refine R.stepN ?_; (repeat' (first | (with_reducible refine And.intro ?_ ?_) | (with_reducible intro _))); all_goals refine R.Lft.mk ?_)
      refine WO_mkMap0 rfl R.ohm fun bo w5 hM => ?_
      (refine R.stepN ?_; (repeat' (first | (with_reducible refine And.intro ?_ ?_) | (with_reducible intro _))); all_goals refine R.Lft.mk ?_)
      refine R.WO_setK (v := (some bn, some bo)) rfl rfl rfl rfl hfr R.ohm hS.out (by have : maxLen = 9223372036854775807 := rfl; omega) (fun _ _ => R.upds) (fun es2 clk2 w6 hI hM => ?_)
      have hS2 := hS.new hmo hI
      have hq := hS2.ok _ (.head _)
      (refine R.stepN ?_; (repeat' (first | (with_reducible refine And.intro ?_ ?_) | (with_reducible intro _))); all_goals refine R.Lft.mk ?_)
      · rename_i ho
        refine R.WO_setK (v := true) rfl rfl rfl rfl hto hM hq.2 (by have : maxLen = 9223372036854775807 := rfl; omega) (fun _ _ => R.upds) (fun es3 clk3 w7 hI3 hM => ?_)
        dsimp only at hI3 hq
        rw [← foF_put (by omega) ho] at hI3
        have hS3 := hS2.put (by omega) (j := 0) (by simp) rfl (q := ⟨(nth r.b.L k).frm, bn, #[], 0, bo, es3, clk3⟩) rfl (by rw [noF_keep (by omega) (.inr ho)]; exact R.isK_sz hq.1 (by omega)) hI3
        have hM := R.pk (r := .map b _ _) (R.pk (r := .map bn _ _) hM)
        (refine R.stepN ?_; (repeat' (first | (with_reducible refine And.intro ?_ ?_) | (with_reducible intro _))); all_goals refine R.Lft.mk ?_)
        exact ⟨(k + 1, ⟨(nth r.b.L k).frm, bn, #[], 0, bo, es3, clk3⟩ :: Gs, es2, clk2), ⟨rfl, rfl, rfl, rfl, R.viaI rfl (by dsimp only; omega), trivial⟩, ⟨by dsimp only; omega, hS3, R.Own.sub hM (List.Sublist.cons_cons _ (List.Sublist.cons_cons _ (List.Sublist.cons_cons _ (List.Sublist.cons _ (List.Sublist.cons _ (List.Sublist.refl _))))))⟩, by dsimp only; omega⟩
      · rename_i ho
        refine R.WO_setK (v := true) rfl rfl rfl rfl hto hM hq.1 (by have : maxLen = 9223372036854775807 := rfl; omega) (fun _ _ => R.upds) (fun es3 clk3 w7 hI3 hM => ?_)
        dsimp only at hI3 hq
        rw [← noF_put (by omega) ho] at hI3
        have hS3 := hS2.put (by omega) (j := 0) (by simp) rfl (q := ⟨(nth r.b.L k).frm, bn, es3, clk3, bo, #[], 0⟩) rfl hI3 (by rw [foF_keep (by omega) (.inr ho)]; exact R.isK_sz hq.2 (by omega))
        have hM := R.pk (r := .map b _ _) (R.pk (r := .map bn _ _) hM)
        (refine R.stepN ?_; (repeat' (first | (with_reducible refine And.intro ?_ ?_) | (with_reducible intro _))); all_goals refine R.Lft.mk ?_)
        exact ⟨(k + 1, ⟨(nth r.b.L k).frm, bn, es3, clk3, bo, #[], 0⟩ :: Gs, es2, clk2), ⟨rfl, rfl, rfl, rfl, R.viaI rfl (by dsimp only; omega), trivial⟩, ⟨by dsimp only; omega, hS3, R.Own.sub hM (List.Sublist.cons_cons _ (List.Sublist.cons_cons _ (List.Sublist.cons_cons _ (List.Sublist.cons _ (List.Sublist.cons _ (List.Sublist.refl _))))))⟩, by dsimp only; omega⟩
    | some p =>
      obtain ⟨j, hj, hjf, rfl⟩ := mapOf_some hmo
      rw [show kM.enc ((some (some (nth Gs j).bn, some (nth Gs j).bo)).getD (none, none)) = Value.agg #[.map (some (nth Gs j).bn), .map (some (nth Gs j).bo)] from rfl, show (some (some (nth Gs j).bn, some (nth Gs j).bo)).isSome = true from rfl]
      have hq := hS.ok _ (R.nth_mem hj)
      rw [hjf] at hq
      have hM : R.Own [] w _ (.map (nth Gs j).bn (nth Gs j).esn (nth Gs j).cn :: .map (nth Gs j).bo (nth Gs j).eso (nth Gs j).co :: .blk gb 67 (cBn (nth r.b.L k)) :: .map b es clk :: (gst (Gs.take j) ++ gst (Gs.drop (j + 1)))) := gst_focus (pre := [_, _]) hM hj
      (refine R.stepN ?_; (repeat' (first | (with_reducible refine And.intro ?_ ?_) | (with_reducible intro _))); all_goals refine R.Lft.mk ?_)
      · rename_i ho
        refine R.WO_setK (v := true) rfl rfl rfl rfl hto R.ohm hq.2 (by have : maxLen = 9223372036854775807 := rfl; omega) (fun _ _ => R.upds) (fun es3 clk3 w7 hI3 hM => ?_)
        rw [← foF_put (by omega) ho] at hI3
        have hS3 := (hS.put (by omega) hj hjf (q := ⟨(nth Gs j).frm, (nth Gs j).bn, (nth Gs j).esn, (nth Gs j).cn, (nth Gs j).bo, es3, clk3⟩) rfl (by rw [noF_keep (by omega) (.inr ho)]; exact R.isK_sz hq.1 (by omega)) hI3).sz (Nat.le_succ k)
        have hM := gst_back (pre := [.blk gb 67 (cBn (nth r.b.L k)), .map b es clk]) (q := ⟨(nth Gs j).frm, (nth Gs j).bn, (nth Gs j).esn, (nth Gs j).cn, (nth Gs j).bo, es3, clk3⟩) (R.Own.tl hM) hj
        (refine R.stepN ?_; (repeat' (first | (with_reducible refine And.intro ?_ ?_) | (with_reducible intro _))); all_goals refine R.Lft.mk ?_)
        exact ⟨(k + 1, Gs.set j ⟨(nth Gs j).frm, (nth Gs j).bn, (nth Gs j).esn, (nth Gs j).cn, (nth Gs j).bo, es3, clk3⟩, es, clk), ⟨rfl, rfl, rfl, rfl, R.viaI rfl (by dsimp only; omega), trivial⟩, ⟨by dsimp only; omega, hS3, R.Own.tl hM⟩, by dsimp only; omega⟩
      · rename_i ho
        refine R.WO_setK (v := true) rfl rfl rfl rfl hto R.ohm hq.1 (by have : maxLen = 9223372036854775807 := rfl; omega) (fun _ _ => R.upds) (fun es3 clk3 w7 hI3 hM => ?_)
        rw [← noF_put (by omega) ho] at hI3
        have hS3 := (hS.put (by omega) hj hjf (q := ⟨(nth Gs j).frm, (nth Gs j).bn, es3, clk3, (nth Gs j).bo, (nth Gs j).eso, (nth Gs j).co⟩) rfl hI3 (by rw [foF_keep (by omega) (.inr ho)]; exact R.isK_sz hq.2 (by omega))).sz (Nat.le_succ k)
        have hM := gst_back (pre := [.blk gb 67 (cBn (nth r.b.L k)), .map b es clk]) (q := ⟨(nth Gs j).frm, (nth Gs j).bn, es3, clk3, (nth Gs j).bo, (nth Gs j).eso, (nth Gs j).co⟩) (R.Own.tl hM) hj
        (refine R.stepN ?_; (repeat' (first | (with_reducible refine And.intro ?_ ?_) | (with_reducible intro _))); all_goals refine R.Lft.mk ?_)
        exact ⟨(k + 1, Gs.set j ⟨(nth Gs j).frm, (nth Gs j).bn, es3, clk3, (nth Gs j).bo, (nth Gs j).eso, (nth Gs j).co⟩, es, clk), ⟨rfl, rfl, rfl, rfl, R.viaI rfl (by dsimp only; omega), trivial⟩, ⟨by dsimp only; omega, hS3, R.Own.tl hM⟩, by dsimp only; omega⟩
  · obtain rfl : k = r.b.n := by omega
    (refine R.stepN ?_; (repeat' (first | (with_reducible refine And.intro ?_ ?_) | (with_reducible intro _))); all_goals refine R.Lft.mk ?_)
    exact ⟨b, es, clk, Gs, rfl, hS, R.ohm⟩
end Go.Proofs.YtdiodefooipojaaGreat
namespace Go.Proofs.YtdiodefooipojaaGreat
open Go.RowKit
open R (In64 InU64 lo64 nth IsK kB kM putK NonK)

def turnR (E : List Ed) (L : List Bn) (is : Bool) (v : Int) (ab : Bool) (W : List Int) : List Item := (W.filter fun u => is && mayV L v u ab).map fun w => ⟨(nth E (w / 2).toNat).w, w⟩
/-- Whether turns about may be taken at a node. -/
def aboutR (dl : List Bool) (p : Int) (hd : Nat) : Bool := decide (p = 2) || (decide (p = 1) && nth dl hd)
def rowAtR (E : List Ed) (L : List Bn) (dl : List Bool) (p : Int) (lv : List (List Int)) (i j : Nat) : List Item := turnR E L (isE (nth E i) j) (2 * (i : Nat) + (j : Nat)) (aboutR dl p (headE (nth E i) j).toNat) (nth lv (headE (nth E i) j).toNat)
def rowsR (E : List Ed) (L : List Bn) (dl : List Bool) (p : Int) (lv : List (List Int)) (n : Nat) : List (List Item) := (List.range n).map fun v => rowAtR E L dl p lv (v / 2) (v % 2)
section
variable {E : List Ed} {L : List Bn} {dl : List Bool} {p : Int} {lv : List (List Int)} {n : Nat}
theorem rowsR_len : (rowsR E L dl p lv n).length = n := by simp [rowsR]
theorem rowsR_nth {v : Nat} (h : v < n) : nth (rowsR E L dl p lv n) v = rowAtR E L dl p lv (v / 2) (v % 2) := by
  rw [R.nth_eq (by rw [rowsR_len]; exact h)]
  simp [rowsR]
theorem turnR_le (is : Bool) (v : Int) (ab : Bool) (W : List Int) : (turnR E L is v ab W).length ≤ W.length := by
  unfold turnR
  rw [List.length_map]
  exact List.length_filter_le _ _
theorem turnR_next {is : Bool} {v : Int} {ab : Bool} {W : List Int} {q : Nat} (h : q < W.length) : turnR E L is v ab (W.take (q + 1)) = turnR E L is v ab (W.take q) ++ (if is && mayV L v (nth W q) ab then [⟨(nth E (nth W q / 2).toNat).w, nth W q⟩] else []) := by
  unfold turnR
  rw [List.take_succ_eq_append_getElem h, List.filter_append, List.map_append, R.nth_eq h]
  congr 1
  by_cases c : (is && mayV L v W[q] ab) = true
  · rw [if_pos c]; simp only [List.filter, c]; rfl
  · rw [if_neg c]; simp only [List.filter, Bool.eq_false_iff.2 c]; rfl
theorem rowAtR_le {k m : Nat} (h : WaysT k m lv) (i j : Nat) : (rowAtR E L dl p lv i j).length ≤ 2 * k := by
  unfold rowAtR
  refine Nat.le_trans (turnR_le _ _ _ _) ?_
  generalize (headE (nth E i) j).toNat = u
  rcases Nat.lt_or_ge u lv.length with c | c
  · exact (h.2 _ (R.nth_mem c)).1
  · have : nth lv u = [] := by unfold nth; rw [List.getD_eq_getElem?_getD, List.getElem?_eq_none c]; rfl
    rw [this]
    exact Nat.zero_le _
theorem off_rowsR {k m : Nat} (h : WaysT k m lv) : ∀ v, v ≤ n → off (rowsR E L dl p lv n) v ≤ 2 * k * v
  | 0, _ => by rw [off_zero]; exact Nat.zero_le _
  | v + 1, hv => by
    have h1 := off_rowsR h v (by omega)
    have h2 := off_succ (M := rowsR E L dl p lv n) (j := v) (by rw [rowsR_len]; omega)
    rw [rowsR_nth (by omega)] at h2
    have h3 := rowAtR_le (E := E) (L := L) (dl := dl) (p := p) h (v / 2) (v % 2)
    rw [Nat.mul_add, Nat.mul_one]
    generalize 2 * k * v = q at h1 ⊢
    omega
end
section
variable {F : List Nat} {W w : World} {a : R.Res} {H N G P X : List R.Res}
theorem own_said (hM : R.Own F W w ((H ++ N) ++ (a :: G))) : R.Own F W w (a :: (H ++ (G ++ N))) :=
  hM.perm ((List.Perm.cons _ ((List.Perm.append_left H List.perm_append_comm).trans (List.Perm.of_eq (List.append_assoc H N G).symm))).trans List.perm_middle.symm)
theorem own_out (hM : R.Own F W w (P ++ (G ++ X))) : R.Own F W w ((P ++ X) ++ G) :=
  hM.perm ((List.Perm.of_eq (List.append_assoc P X G)).trans (List.Perm.append_left P List.perm_append_comm))
theorem own_in (hM : R.Own F W w ((P ++ X) ++ G)) : R.Own F W w (P ++ (G ++ X)) :=
  hM.perm ((List.Perm.append_left P List.perm_append_comm).trans (List.Perm.of_eq (List.append_assoc P X G).symm))
end
theorem mayV_none {L : List Bn} {v : Int} (h : ∀ b ∈ L, b.frm ≠ v) (u : Int) (ab : Bool) : mayV L v u ab = (decide (v / 2 ≠ u / 2) || ab) := by
  have hs : someB L v = false := by
    unfold someB
    rw [List.any_eq_false]; intro b hb; simp [h b hb]
  unfold mayV
  rw [(ban_none h u).1, hs]
  rfl
theorem said_call (L : List Bn) (n N : Nat) (Gs : List Grp) (es : Array MapEntry) (clk : Nat) (hS : SrI L n N Gs es clk) (hn : n = L.length) (hL : ∀ b ∈ L, In64 b.to) (v u : Int) (ab : Bool) (w : World) (hR : R.Has w (gst Gs)) (hv : 0 ≤ v) (hu : 0 ≤ u) (hv2 : In64 v) (hu2 : In64 u) :
    Calls Tryz.prog 20 #[kM.enc ((mapOf Gs v).getD (none, none)), .int .i64 v, .int .i64 u, .bool ab] w fun e w' => e = .returned (.bool (mayV L v u ab)) ∧ R.Own (R.keysOf (gst Gs)) w w' (gst Gs) := by
  have ht : L.take n = L := by rw [hn]; exact List.take_length
  cases hmo : mapOf Gs v with
  | none =>
    have hb := hS.has v hmo
    rw [ht] at hb
    refine (rules0 v u ab w hv hu hu2 hv2).mono ?_
    rintro e w' ⟨rfl, hb2⟩
    exact ⟨by rw [mayV_none hb], (R.Own.startF hR).call hb2⟩
  | some q =>
    obtain ⟨j, hj, hjf, rfl⟩ := mapOf_some hmo
    have hq := hS.ok _ (R.nth_mem hj)
    rw [hjf, ht] at hq
    have hP := (gst_focus (pre := []) (R.Own.startF hR) hj).perm (List.perm_append_comm (l₁ := [] ++ (gst (Gs.take j) ++ gst (Gs.drop (j + 1)))))
    refine (rulesM L _ _ _ _ _ _ n v u ab w (R.Own.has hP) hq.1 hq.2 hL hv hu hv2 hu2).mono ?_
    rintro e w' ⟨rfl, hO⟩
    have h2 := gst_back (pre := []) (q := nth Gs j) ((R.Own.callF hP hO).perm List.perm_append_comm) hj
    rw [R.nth_eq hj, List.set_getElem_self] at h2
    exact ⟨rfl, h2⟩
end Go.Proofs.YtdiodefooipojaaGreat
namespace Go.Proofs.YtdiodefooipojaaGreat
open Go.RowKit
open R (In64 InU64 lo64 nth)

/-- The ways that leave a node. -/
def inE (E : List Ed) (N : Nat) (w : Int) : Bool := if w % 2 = 0 then (nth E (w / 2).toNat).f && decide ((nth E (w / 2).toNat).a = (N : Nat)) else (nth E (w / 2).toNat).k && decide ((nth E (w / 2).toNat).b = (N : Nat))
theorem nth_setG {T : Type} [Inhabited T] {M : List T} {j k : Nat} {l : T} (hj : j < M.length) : nth (M.set j l) k = if j = k then l else nth M k := by
  unfold R.nth
  rw [List.getD_eq_getElem?_getD, List.getD_eq_getElem?_getD, List.getElem?_set]
  by_cases e : j = k
  · subst e; rw [if_pos rfl, if_pos hj, if_pos rfl]; rfl
  · rw [if_neg e, if_neg e]
theorem upL_step (m : Nat) (p : Int → Bool) : upL (m + 1) p = upL m p ++ (if p (m : Nat) = true then [((m : Nat) : Int)] else []) := by
  cases h : p (m : Nat) with
  | true => rw [upL_t h, if_pos rfl]
  | false => rw [upL_f h, if_neg (by decide), List.append_nil]
theorem leafP_nth {E : List Ed} {k N : Nat} {M : List (List Int)} (ha : (nth E k).a.toNat < M.length) (h0 : 0 ≤ (nth E k).a) : nth (leafP E k M) N = nth M N ++ (if ((nth E k).f && decide ((nth E k).a = (N : Nat))) = true then [2 * ((k : Nat) : Int)] else []) := by
  unfold leafP
  cases hf : (nth E k).f with
  | false => rw [Bool.false_and, if_neg (by decide), if_neg (by decide), List.append_nil]
  | true =>
    rw [Bool.true_and, if_pos rfl, nth_setG ha]
    by_cases e : (nth E k).a = (N : Nat)
    · rw [decide_eq_true e, if_pos rfl, if_pos (by omega), show (nth E k).a.toNat = N by omega]
    · rw [decide_eq_false e, if_neg (by omega), if_neg (by decide), List.append_nil]
theorem leafQ_nth {E : List Ed} {k N : Nat} {M : List (List Int)} (hb : (nth E k).b.toNat < M.length) (h0 : 0 ≤ (nth E k).b) : nth (leafQ E k M) N = nth M N ++ (if ((nth E k).k && decide ((nth E k).b = (N : Nat))) = true then [2 * ((k : Nat) : Int) + 1] else []) := by
  unfold leafQ
  cases hf : (nth E k).k with
  | false => rw [Bool.false_and, if_neg (by decide), if_neg (by decide), List.append_nil]
  | true =>
    rw [Bool.true_and, if_pos rfl, nth_setG hb]
    by_cases e : (nth E k).b = (N : Nat)
    · rw [decide_eq_true e, if_pos rfl, if_pos (by omega), show (nth E k).b.toNat = N by omega]
    · rw [decide_eq_false e, if_neg (by omega), if_neg (by decide), List.append_nil]
theorem leaf_up {E : List Ed} {m : Nat} : ∀ k, (∀ i, i < k → 0 ≤ (nth E i).a ∧ (nth E i).a < (m : Nat) ∧ 0 ≤ (nth E i).b ∧ (nth E i).b < (m : Nat)) → ∀ N, N < m → nth (leafF E m k) N = upL (2 * k) (inE E N)
  | 0, _, N, hN => by
    show nth (List.replicate m ([] : List Int)) N = upL 0 _
    rw [R.nth_eq (by rw [List.length_replicate]; exact hN), List.getElem_replicate]
    rfl
  | k + 1, h, N, hN => by
    have ih := leaf_up k (fun i hi => h i (by omega)) N hN
    obtain ⟨a1, a2, b1, b2⟩ := h k (by omega)
    have hl := (leafF_ok E m k).1
    have hpl := ((leafF_ok E m k).p (E := E)).1
    show nth (leafQ E k (leafP E k (leafF E m k))) N = _
    rw [leafQ_nth (by omega) b1, leafP_nth (by omega) a1, ih, show 2 * (k + 1) = 2 * k + 1 + 1 by omega, upL_step, upL_step]
    have e0 : inE E N ((2 * k : Nat) : Int) = ((nth E k).f && decide ((nth E k).a = (N : Nat))) := by
      unfold inE
      rw [if_pos (by omega), show (((2 * k : Nat) : Int) / 2).toNat = k by omega]
    have e1 : inE E N ((2 * k + 1 : Nat) : Int) = ((nth E k).k && decide ((nth E k).b = (N : Nat))) := by
      unfold inE
      rw [if_neg (by omega), show (((2 * k + 1 : Nat) : Int) / 2).toNat = k by omega]
    rw [e0, e1, show ((2 * k : Nat) : Int) = 2 * ((k : Nat) : Int) by omega, show ((2 * k + 1 : Nat) : Int) = 2 * ((k : Nat) : Int) + 1 by omega]
theorem cntE_I (E : List Ed) (N : Nat) : ∀ k, cntE E N k = cntI E (N : Nat) k
  | 0 => rfl
  | k + 1 => by
    show cntE E N k + _ = cntI E (N : Nat) k + _
    rw [cntE_I E N k]
theorem dead_nth {E : List Ed} {m k N : Nat} (h : N < m) : nth (deadL E m k) N = decide (cntI E (N : Nat) k = 1) := by
  rw [R.nth_eq (by simp [deadL]; exact h)]
  simp only [deadL, List.getElem_map, List.getElem_range, cntE_I]
  exact decide_eq_decide.2 (by omega)
def rowT (x : Nt) (r : Rl) (v : Int) (k : Nat) : List Item := (upL k fun u => takeB x r v u).map fun u => ⟨(nth x.e.L (u / 2).toNat).w, u⟩
def rowsT (x : Nt) (r : Rl) : List (List Item) := (List.range (2 * x.e.n)).map fun v => rowT x r (v : Nat) (2 * x.e.n)
theorem rowsT_len (x : Nt) (r : Rl) : (rowsT x r).length = 2 * x.e.n := by simp [rowsT]
theorem rowsT_nth {x : Nt} {r : Rl} {v : Nat} (h : v < 2 * x.e.n) : nth (rowsT x r) v = rowT x r (v : Nat) (2 * x.e.n) := by
  rw [R.nth_eq (by rw [rowsT_len]; exact h)]
  simp [rowsT]
section
variable {x : Nt} {r : Rl} (hr : rulesB x r = true)
include hr
theorem net_ab {i : Nat} (hi : i < x.e.n) : 0 ≤ (nth x.e.L i).a ∧ (nth x.e.L i).a < (x.s.n : Nat) ∧ 0 ≤ (nth x.e.L i).b ∧ (nth x.e.L i).b < (x.s.n : Nat) := by
  obtain ⟨q1, q2, q3, _⟩ := (netB_iff.1 (rulesB_of hr).1).2.2.2.2.1 i hi
  omega
theorem net_w {i : Nat} (hi : i < x.e.n) : 0 ≤ (nth x.e.L i).w ∧ (nth x.e.L i).w ≤ 2147483648 := by
  obtain ⟨_, _, _, q4, _⟩ := (netB_iff.1 (rulesB_of hr).1).2.2.2.2.1 i hi
  exact q4
theorem row_same {i j : Nat} (hi : i < x.e.n) (hj : j < 2) : rowAtR x.e.L r.b.L (deadL x.e.L x.s.n x.e.n) r.p (leafF x.e.L x.s.n x.e.n) i j = rowT x r (2 * (i : Nat) + (j : Nat)) (2 * x.e.n) := by
  obtain ⟨a1, a2, b1, b2⟩ := net_ab hr hi
  have hn := (rulesB_of hr).1
  obtain ⟨v, hv⟩ : ∃ v : Int, 2 * ((i : Nat) : Int) + ((j : Nat) : Int) = v := ⟨_, rfl⟩
  have hv2 : (v / 2).toNat = i := by omega
  have hmod : v % 2 = 0 ↔ ¬ j = 1 := by omega
  have hh : headE (nth x.e.L i) j = headV x v := by
    unfold headE headV edW
    rw [hv2]
    by_cases c : j = 1
    · rw [if_pos c, if_neg (fun h => hmod.1 h c)]
    · rw [if_neg c, if_pos (hmod.2 c)]
  have hw : wayB x v = isE (nth x.e.L i) j := by
    unfold wayB isE edW
    rw [hv2, decide_eq_true (by omega), decide_eq_true (by omega), Bool.true_and, Bool.true_and]
    by_cases c : j = 1
    · rw [if_pos c, if_neg (fun h => hmod.1 h c)]
    · rw [if_neg c, if_pos (hmod.2 c)]
  have hh0 : 0 ≤ headV x v ∧ headV x v < (x.s.n : Nat) := by
    rw [← hh]
    unfold headE
    split <;> omega
  obtain ⟨N, hN⟩ : ∃ N : Nat, headV x v = (N : Nat) := ⟨(headV x v).toNat, by omega⟩
  unfold rowAtR rowT turnR
  rw [hh, hv, hN, Int.toNat_natCast, leaf_up _ (fun i hi => net_ab hr hi) N (by omega)]
  congr 1
  unfold upL
  rw [List.filter_filter]
  refine List.filter_congr fun u hu => ?_
  obtain ⟨t, ht, rfl⟩ := List.mem_map.1 hu
  have ht := List.mem_range.1 ht
  obtain ⟨u, hue⟩ : ∃ u : Int, ((t : Nat) : Int) = u := ⟨_, rfl⟩
  rw [hue]
  have hu0 : 0 ≤ u ∧ u / 2 < x.e.n := by omega
  have hin : inE x.e.L N u = (wayB x u && decide (headV x v = tailV x u)) := by
    unfold inE wayB tailV edW
    rw [decide_eq_true hu0.1, decide_eq_true hu0.2, Bool.true_and, Bool.true_and, hN]
    by_cases c : u % 2 = 0
    · rw [if_pos c, if_pos c, if_pos c]
      congr 1
      exact decide_eq_decide.2 ⟨fun h => h.symm, fun h => h.symm⟩
    · rw [if_neg c, if_neg c, if_neg c]
      congr 1
      exact decide_eq_decide.2 ⟨fun h => h.symm, fun h => h.symm⟩
  have hfol : folB x v u = (isE (nth x.e.L i) j && inE x.e.L N u) := by
    unfold folB
    rw [hw, hin]
  unfold takeB
  rw [hfol]
  cases h1 : isE (nth x.e.L i) j with
  | false => rfl
  | true =>
    cases h2 : inE x.e.L N u with
    | false => rw [Bool.and_false, Bool.true_and, Bool.false_and]
    | true =>
      rw [Bool.true_and, Bool.and_true, Bool.true_and, Bool.true_and]
      have hf : folB x v u = true := by rw [hfol, h1, h2]; rfl
      have ha := fol_about hn hf
      have hd : aboutR (deadL x.e.L x.s.n x.e.n) r.p N = dieB x r v := by
        unfold aboutR dieB
        rw [dead_nth (by omega), hN]
      rw [hd]
      unfold mayV turnB
      by_cases c : v / 2 = u / 2
      · rw [decide_eq_false (fun h => h c), if_pos (ha.1 c), Bool.false_or]
      · rw [decide_eq_true c, if_neg (fun h => c (ha.2 h)), Bool.true_or]
theorem rows_same : rowsR x.e.L r.b.L (deadL x.e.L x.s.n x.e.n) r.p (leafF x.e.L x.s.n x.e.n) (2 * x.e.n) = rowsT x r := by
  refine rows_ext rowsR_len (rowsT_len x r) fun v hv => ?_
  rw [rowsR_nth hv, rowsT_nth hv, row_same hr (by omega) (by omega), show 2 * ((v / 2 : Nat) : Int) + ((v % 2 : Nat) : Int) = ((v : Nat) : Int) by omega]
omit hr in
theorem rowT_mem {v : Int} {y : Item} : y ∈ rowT x r v (2 * x.e.n) ↔ (0 ≤ y.at_ ∧ y.at_ < (2 * x.e.n : Nat)) ∧ takeB x r v y.at_ = true ∧ y.key = (nth x.e.L (y.at_ / 2).toNat).w := by
  unfold rowT
  rw [List.mem_map]
  constructor
  · rintro ⟨u, hu, rfl⟩
    obtain ⟨h1, h2, h3⟩ := upL_mem.1 hu
    exact ⟨⟨h1, h2⟩, h3, rfl⟩
  · rintro ⟨⟨h1, h2⟩, h3, h4⟩
    refine ⟨y.at_, upL_mem.2 ⟨h1, h2, h3⟩, ?_⟩
    cases y
    dsimp only at h4 ⊢
    rw [h4]
omit hr in
theorem upL_pw (m : Nat) (p : Int → Bool) : (upL m p).Pairwise (· < ·) := by
  unfold upL
  refine List.Pairwise.filter _ ?_
  rw [List.pairwise_map]
  exact List.pairwise_lt_range.imp fun h => by omega
theorem rowsT_bks : Bks (2 * x.e.n) (rowsT x r) := by
  refine ⟨rowsT_len x r, fun j hj y hy => ?_, fun j hj => ?_⟩
  · rw [rowsT_nth hj] at hy
    obtain ⟨⟨h1, h2⟩, _, h4⟩ := rowT_mem.1 hy
    have := net_w hr (i := (y.at_ / 2).toNat) (by omega)
    rw [h4]
    exact ⟨h1, h2, this.1, this.2⟩
  · rw [rowsT_nth hj]
    unfold rowT
    rw [List.pairwise_map]
    exact (upL_pw _ _).imp fun h => h
omit hr in
theorem rowT_le (x : Nt) (r : Rl) (v : Int) (k : Nat) : (rowT x r v k).length ≤ k := by
  unfold rowT
  rw [List.length_map]
  exact upL_len _ _
omit hr in
theorem off_rowsT (x : Nt) (r : Rl) : ∀ v, v ≤ 2 * x.e.n → off (rowsT x r) v ≤ 2 * x.e.n * v
  | 0, _ => by rw [off_zero]; exact Nat.zero_le _
  | v + 1, hv => by
    have h1 := off_rowsT x r v (by omega)
    have h2 := off_succ (M := rowsT x r) (j := v) (by rw [rowsT_len]; omega)
    rw [rowsT_nth (by omega)] at h2
    have h3 := rowT_le x r (v : Nat) (2 * x.e.n)
    rw [Nat.mul_add, Nat.mul_one]
    generalize 2 * x.e.n * v = q at h1 ⊢
    omega
theorem arc_take {v u : Int} (hu : 0 ≤ u) (hu2 : u < (2 * x.e.n : Nat)) : decide (0 ≤ arcF (rowT x r v (2 * x.e.n)) u) = takeB x r v u := by
  cases ht : takeB x r v u with
  | true =>
    obtain ⟨k, hk, e⟩ := mem_nth ((rowT_mem (v := v) (y := ⟨(nth x.e.L (u / 2).toNat).w, u⟩)).2 ⟨⟨hu, hu2⟩, ht, rfl⟩)
    have hp : (rowT x r v (2 * x.e.n)).Pairwise fun a b => a.at_ < b.at_ := by
      unfold rowT
      rw [List.pairwise_map]
      exact (upL_pw _ _).imp fun h => h
    rw [arcF_at hk (fun j hj => ?_) (by rw [e]), e]
    · have := net_w hr (i := (u / 2).toNat) (by omega)
      exact decide_eq_true this.1
    · have := List.pairwise_iff_getElem.1 hp j k (by omega) hk hj
      rw [R.nth_eq hk] at e
      rw [e] at this
      rw [R.nth_eq (by omega)]
      exact Int.ne_of_lt this
  | false =>
    rw [arcF_none fun j hj e => ?_]
    · rfl
    · have := (rowT_mem.1 (R.nth_mem hj)).2.1
      rw [e, ht] at this
      cases this
end
theorem IsG.row {n : Nat} {M : List (List Item)} {g : Gph} (h : IsG n M g) (hl : M.length = n) {v : Nat} (hv : v < n) : outT g v (degG g v) = nth M v := by
  have hst : ∀ j, j ≤ n → (nth g.st.L j).toNat = off M j := fun j hj => by rw [h.sl, stM_nth hj]; exact Int.toNat_natCast _
  have hs := off_succ (M := M) (j := v) (by omega)
  have hd : degG g v = (nth M v).length := by
    unfold degG
    rw [hst v (by omega), hst (v + 1) (by omega)]
    omega
  refine List.ext_getElem (by rw [outT_len, hd]) fun t h1 h2 => ?_
  rw [outT_len] at h1
  rw [← R.nth_eq (by rw [outT_len]; exact h1), ← R.nth_eq h2, outT_nth g v h1, hst v (by omega), h.hl, h.wl, hdM_nth hl hv h2, wtM_nth hl hv h2]
end Go.Proofs.YtdiodefooipojaaGreat
namespace Go.Proofs.YtdiodefooipojaaGreat
open Go.RowKit
open R (In64 InU64 lo64 nth IsK kB kM putK NonK)

set_option maxHeartbeats 16000000 in
theorem of_any (x : Nt) (r : Rl) (w : World) (hG : GNt w x) (hGr : GRl w r) (hr : rulesB x r = true) (he : x.e.n ≤ 40) : Calls Tryz.prog 6 #[.agg (cNt x).toArray, .agg (cRl r).toArray] w fun e w' => ∃ g, IsG (2 * x.e.n) (rowsR x.e.L r.b.L (deadL x.e.L x.s.n x.e.n) r.p (leafF x.e.L x.s.n x.e.n) (2 * x.e.n)) g ∧ e = .returned (.tuple #[.agg (cGph g).toArray, .int .i64 0]) ∧ R.Own [] w w' (bRows g) := by
  have hM := R.Own.start [] w
  have hL := hG.lasts
  have hb : netB x = true := (rulesB_of hr).1
  have hsn : x.s.n ≤ 200000 := (netB_iff.1 hb).1
  have i1 : R.ConB Tryz.prog 16 #[.agg (cNt x).toArray, .agg (cRl r).toArray] Unit (fun _ w => GNt w x ∧ GRl w r) (fun _ => .bool true) := ⟨fun s w h => by
    have q := (con_bmay x r).h s w h
    rw [hr] at q
    exact q⟩
  have hLr := hGr.lasts
  obtain ⟨hrn, hr0, hr2, hL64⟩ : r.b.n = r.b.L.length ∧ 0 ≤ r.p ∧ r.p ≤ 2 ∧ ∀ b ∈ r.b.L, In64 b.to := ⟨hGr.1.2.1, (rulesB_of hr).2.2.1, (rulesB_of hr).2.2.2.1, fun b hb => by have := bounds_i64 (hGr.1.2.2.2 b hb).2; unfold In64; omega⟩
  obtain ⟨⟨s1, s2, s3, -⟩, ⟨h1, h2, h3, -⟩, -⟩ := id hG
  refine R.calls_of_WC (fn := Tryz.f6) Tryz.func6 rfl Tryz.ntmps6 (Nat.le_of_ble_eq_true rfl) ?_
  (refine R.stepN ?_; (repeat' (first | (with_reducible refine And.intro ?_ ?_) | (with_reducible intro _))); all_goals refine R.Lft.mk ?_)
  rename_i gn _ _ gc _ _ go _ _ _ _ sA sc _ _ gg _ _ _ hM
  refine R.WC_planO [(0, false), (2, false), (4, false), (1, true), (3, true), (5, true), (6, false), (7, false), (8, false)] R.mixed (by decide +kernel) R.ohm ?_
  (refine R.stepN ?_; (repeat' (first | (with_reducible refine And.intro ?_ ?_) | (with_reducible intro _))); all_goals refine R.Lft.mk ?_)
  refine R.WO_call1 rfl rfl R.vv ?_
  refine (dead_any x _ (GNt.now R.ohm hG) hb).mono ?_
  rintro _ w2 ⟨D, cd, rfl, hGd⟩
  have hM := R.Own.give R.ohm hGd
  clear hGd
  first
    | refine ⟨_, rfl, hM, ?_⟩
    | refine ⟨_, rfl, ?_⟩
  (refine R.stepN ?_; (repeat' (first | (with_reducible refine And.intro ?_ ?_) | (with_reducible intro _))); all_goals refine R.Lft.mk ?_)
  refine R.WO_call1 rfl rfl R.vv ?_
  refine (leaves_any x _ (GNt.now R.ohm hG) hb).mono ?_
  rintro _ w3 ⟨A, Ms, rfl, hMn, hMf, hO⟩
  have hM := R.Own.giveN R.ohm hO
  clear hO
  simp only [List.cons_append, List.nil_append] at hM
  first
    | refine ⟨_, rfl, hM, ?_⟩
    | refine ⟨_, rfl, ?_⟩
  (refine R.stepN ?_; (repeat' (first | (with_reducible refine And.intro ?_ ?_) | (with_reducible intro _))); all_goals refine R.Lft.mk ?_)
  refine R.WO_call1 rfl rfl R.vv ?_
  refine (said_any r _ (GRl.now R.ohm hGr) (rulesB_of hr).2.1).mono ?_
  rintro _ w4 ⟨b, es, clk, Gs, rfl, hS, hO⟩
  have hM := own_said (H := [_, _, _, _, _, _, _]) (R.Own.giveN R.ohm hO)
  clear hO
  simp only [List.cons_append, List.nil_append] at hM
  refine ⟨_, rfl, R.Own.tl (R.Own.tl (R.Own.sub hM (List.sublist_append_left [_, _, _, _, _, _, _] _))), ?_⟩
  (refine R.stepN ?_; (repeat' (first | (with_reducible refine And.intro ?_ ?_) | (with_reducible intro _))); all_goals refine R.Lft.mk ?_)
  obtain ⟨m, hm⟩ : ∃ m, x.s.n = m := ⟨_, rfl⟩
  have hMl : Ms.length = m := by
    have := (leafF_ok x.e.L x.s.n x.e.n).1
    rw [← hMf, List.length_map, hm] at this
    exact this
  obtain ⟨lv, hlv⟩ : ∃ lv, leafF x.e.L x.s.n x.e.n = lv := ⟨_, rfl⟩
  have hw : WaysT x.e.n m lv := by rw [← hlv, ← hm]; exact leafF_ok x.e.L x.s.n x.e.n
  obtain ⟨M, hMM⟩ : ∃ M, rowsR x.e.L r.b.L (deadL x.e.L m x.e.n) r.p lv (2 * x.e.n) = M := ⟨_, rfl⟩
  have hML : M.length = 2 * x.e.n := by rw [← hMM, rowsR_len]
  have hab : ∀ i, i < x.e.n → 0 ≤ (nth x.e.L i).a ∧ (nth x.e.L i).a < (m : Nat) ∧ 0 ≤ (nth x.e.L i).b ∧ (nth x.e.L i).b < (m : Nat) := fun i hi => by
    obtain ⟨q1, q2, q3, _⟩ := (netB_iff.1 hb).2.2.2.2.1 i hi
    omega
  rw [hlv, hm, hMM]
  rw [hlv] at hMf
  rw [hm] at hM hsn
  have hM := R.Own.nil (R.Own.nil (R.pk (r := .row sA _ _ _ _ _) (R.pk (r := .blk gg _ _) hM)) 3 1) 3 1
  refine R.WC_loop (fun i : Nat × Option Addr × Option Addr × Option Addr × Nat × Nat × Nat => [(2, .pointer (some ⟨gn, 0, none⟩)), (3, .pointer (some ⟨gc, 0, none⟩)), (4, .pointer (some ⟨go, 0, none⟩)), (5, .int .i64 0), (6, .pointer (some ⟨gg, 0, none⟩)), (7, .slice D m cd), (8, .slice A m m), (9, .map (some b)), (42, .slice x.e.A x.e.n x.e.c), (43, .int .i64 (x.e.n : Nat)), (44, .int .i64 (i.1 : Nat))])
    (fun i w2 => i.1 ≤ x.e.n ∧ R.Own [] w w2 (gRes gg i.2.1 i.2.2.1 i.2.2.2.1 (stM M (2 * i.1)) (hdM M (2 * i.1)) (wtM M (2 * i.1)) i.2.2.2.2.1 i.2.2.2.2.2.1 i.2.2.2.2.2.2 ++ (.map b es clk :: .row D m cd 4 1 ((deadL x.e.L m x.e.n).flatMap R.cB) :: .blk go 34 [.slice none 0 0, .slice none 0 0, .slice none 0 0] :: .blk gc 29 (cRl r) :: .blk gn 26 (cNt x) :: .row A m m 32 1 (Ms.flatMap R.cSl) :: (gst Gs ++ nst 3 1 R.cI Ms)))) (fun i => x.e.n - i.1)
    ⟨(0, sA, none, none, sc, 0, 0), ⟨rfl, rfl, rfl, rfl, rfl, rfl, rfl, rfl, rfl, rfl, rfl, trivial⟩, Nat.zero_le _, hM⟩ ?_
  clear hM
  rintro ⟨i, sA, hA, wA, sc, hc, wc⟩ f w5 ⟨hi, hM⟩
  dsimp only at hi hM ⊢
  by_cases hlt : i < x.e.n
  · obtain ⟨a1, a2, b1, b2⟩ := hab i hlt
    have hdl : (deadL x.e.L m x.e.n).length = m := deadL_len _ _ _
    have hO : ∀ v, v ≤ 2 * x.e.n → off M v ≤ 6400 := fun v hv => by
      have h1 := off_rowsR (E := x.e.L) (L := r.b.L) (dl := deadL x.e.L m x.e.n) (p := r.p) (n := 2 * x.e.n) hw v hv
      rw [hMM] at h1
      have h2 : 2 * x.e.n * v ≤ 80 * 80 := Nat.mul_le_mul (by omega) (by omega)
      omega
    (refine R.stepN ?_; (repeat' (first | (with_reducible refine And.intro ?_ ?_) | (with_reducible intro _))); all_goals refine R.Lft.mk ?_)
    rename_i ge _ _ _ _ gB cB _ hM
    have hM : R.Own [] w _ (gRes gg sA hA wA (stM M (2 * i)) (hdM M (2 * i)) (wtM M (2 * i)) sc hc wc ++ ([.row gB 2 cB 4 1 ([(nth x.e.L i).f, (nth x.e.L i).k].flatMap R.cB), .blk ge 55 (cEd (nth x.e.L i))] ++ (.map b es clk :: .row D m cd 4 1 ((deadL x.e.L m x.e.n).flatMap R.cB) :: .blk go 34 [.slice none 0 0, .slice none 0 0, .slice none 0 0] :: .blk gc 29 (cRl r) :: .blk gn 26 (cNt x) :: .row A m m 32 1 (Ms.flatMap R.cSl) :: (gst Gs ++ nst 3 1 R.cI Ms)))) := R.Own.perm hM (List.perm_append_comm_assoc _ [_, _] _)
    refine R.WC_loop (fun j : Nat × Option Addr × Option Addr × Option Addr × Nat × Nat × Nat => [(2, .pointer (some ⟨gn, 0, none⟩)), (3, .pointer (some ⟨gc, 0, none⟩)), (4, .pointer (some ⟨go, 0, none⟩)), (5, .int .i64 0), (6, .pointer (some ⟨gg, 0, none⟩)), (7, .slice D m cd), (8, .slice A m m), (9, .map (some b)), (42, .slice x.e.A x.e.n x.e.c), (43, .int .i64 (x.e.n : Nat)), (44, .int .i64 (i : Nat)), (10, .int .i64 (i : Nat)), (11, .pointer (some ⟨ge, 0, none⟩)), (53, .slice gB 2 cB), (54, .int .i64 2), (55, .int .i64 (j.1 : Nat))])
      (fun j w2 => j.1 ≤ 2 ∧ R.Own [] w w2 (gRes gg j.2.1 j.2.2.1 j.2.2.2.1 (stM M (2 * i + j.1)) (hdM M (2 * i + j.1)) (wtM M (2 * i + j.1)) j.2.2.2.2.1 j.2.2.2.2.2.1 j.2.2.2.2.2.2 ++ (.row gB 2 cB 4 1 ([(nth x.e.L i).f, (nth x.e.L i).k].flatMap R.cB) :: .blk ge 55 (cEd (nth x.e.L i)) :: .map b es clk :: .row D m cd 4 1 ((deadL x.e.L m x.e.n).flatMap R.cB) :: .blk go 34 [.slice none 0 0, .slice none 0 0, .slice none 0 0] :: .blk gc 29 (cRl r) :: .blk gn 26 (cNt x) :: .row A m m 32 1 (Ms.flatMap R.cSl) :: (gst Gs ++ nst 3 1 R.cI Ms)))) (fun j => 2 - j.1)
      ⟨(0, sA, hA, wA, sc, hc, wc), ⟨rfl, rfl, rfl, rfl, rfl, rfl, rfl, rfl, rfl, rfl, rfl, rfl, rfl, rfl, rfl, rfl, trivial⟩, Nat.zero_le _, hM⟩ ?_
    clear hM
    rintro ⟨j, sA, hA, wA, sc, hc, wc⟩ f w6 ⟨hj, hM⟩
    dsimp only at hj hM ⊢
    have hsl := stM_len M (2 * i + j)
    have hhl := hdM_len (M := M) (k := 2 * i + j) (by omega)
    have hwl := wtM_len (M := M) (k := 2 * i + j) (by omega)
    have hMc : R.Own [] w w6 (.row hA (hdM M (2 * i + j)).length hc 3 1 ((hdM M (2 * i + j)).flatMap R.cI) :: .row wA (wtM M (2 * i + j)).length wc 3 1 ((wtM M (2 * i + j)).flatMap R.cI) :: .row sA (stM M (2 * i + j)).length sc 3 1 ((stM M (2 * i + j)).flatMap R.cI) :: .blk gg 34 [.slice sA (stM M (2 * i + j)).length sc, .slice hA (hdM M (2 * i + j)).length hc, .slice wA (wtM M (2 * i + j)).length wc] :: .row gB 2 cB 4 1 ([(nth x.e.L i).f, (nth x.e.L i).k].flatMap R.cB) :: .blk ge 55 (cEd (nth x.e.L i)) :: .map b es clk :: .row D m cd 4 1 ((deadL x.e.L m x.e.n).flatMap R.cB) :: .blk go 34 [.slice none 0 0, .slice none 0 0, .slice none 0 0] :: .blk gc 29 (cRl r) :: .blk gn 26 (cNt x) :: .row A m m 32 1 (Ms.flatMap R.cSl) :: (gst Gs ++ nst 3 1 R.cI Ms)) := hM
    by_cases hj2 : j < 2
    · have hof := hO (2 * i + j) (by omega)
      obtain ⟨is, his⟩ : ∃ is, nth [(nth x.e.L i).f, (nth x.e.L i).k] j = is := ⟨_, rfl⟩
      have hisE : isE (nth x.e.L i) j = is := by
        rw [← his]
        rcases (show j = 0 ∨ j = 1 by omega) with rfl | rfl <;> rfl
      clear hM
      by_cases hj1 : j = 1
      · obtain ⟨ab, hab⟩ : ∃ ab, aboutR (deadL x.e.L m x.e.n) r.p (nth x.e.L i).a.toNat = ab := ⟨_, rfl⟩
        rcases (show r.p = 0 ∨ r.p = 1 ∨ r.p = 2 by omega) with hp | hp | hp
        · have hNM : (nth x.e.L i).a.toNat < Ms.length := by omega
          have hWn := hMn _ (R.nth_mem hNM)
          have hWE : nth lv (nth x.e.L i).a.toNat = (nth Ms (nth x.e.L i).a.toNat).L := by rw [← hMf]; exact nth_mapF hNM
          have hWb := hw.2 _ (R.nth_mem (L := lv) (i := (nth x.e.L i).a.toNat) (by rw [hw.1]; omega))
          rw [hWE] at hWb
          obtain ⟨hWc, hWb⟩ := hWb
          have hrow : nth M (2 * i + j) = turnR x.e.L r.b.L is (2 * (i : Nat) + (j : Nat)) ab (nth Ms (nth x.e.L i).a.toNat).L := by
            rw [← hMM, rowsR_nth (by omega), show (2 * i + j) / 2 = i by omega, show (2 * i + j) % 2 = j by omega]
            unfold rowAtR
            rw [hisE, show headE (nth x.e.L i) j = (nth x.e.L i).a by unfold headE; simp [hj1], hWE, hab]
          (refine R.stepN ?_; (repeat' (first | (with_reducible refine And.intro ?_ ?_) | (with_reducible intro _))); all_goals refine R.Lft.mk ?_)
          have hM := nst_focus (pre := [.row none 0 0 61 2 [], .row hA (hdM M (2 * i + j)).length hc 3 1 ((hdM M (2 * i + j)).flatMap R.cI), .row wA (wtM M (2 * i + j)).length wc 3 1 ((wtM M (2 * i + j)).flatMap R.cI), .row sA (stM M (2 * i + j)).length sc 3 1 ((stM M (2 * i + j)).flatMap R.cI), .blk gg 34 [.slice sA (stM M (2 * i + j)).length sc, .slice hA (hdM M (2 * i + j)).length hc, .slice wA (wtM M (2 * i + j)).length wc], .row gB 2 cB 4 1 ([(nth x.e.L i).f, (nth x.e.L i).k].flatMap R.cB), .blk ge 55 (cEd (nth x.e.L i)), .map b es clk, .row D m cd 4 1 ((deadL x.e.L m x.e.n).flatMap R.cB), .blk go 34 [.slice none 0 0, .slice none 0 0, .slice none 0 0], .blk gc 29 (cRl r), .blk gn 26 (cNt x), .row A m m 32 1 (Ms.flatMap R.cSl)] ++ gst Gs) (R.Own.nil (show R.Own [] w _ (.row hA (hdM M (2 * i + j)).length hc 3 1 ((hdM M (2 * i + j)).flatMap R.cI) :: .row wA (wtM M (2 * i + j)).length wc 3 1 ((wtM M (2 * i + j)).flatMap R.cI) :: .row sA (stM M (2 * i + j)).length sc 3 1 ((stM M (2 * i + j)).flatMap R.cI) :: .blk gg 34 [.slice sA (stM M (2 * i + j)).length sc, .slice hA (hdM M (2 * i + j)).length hc, .slice wA (wtM M (2 * i + j)).length wc] :: .row gB 2 cB 4 1 ([(nth x.e.L i).f, (nth x.e.L i).k].flatMap R.cB) :: .blk ge 55 (cEd (nth x.e.L i)) :: .map b es clk :: .row D m cd 4 1 ((deadL x.e.L m x.e.n).flatMap R.cB) :: .blk go 34 [.slice none 0 0, .slice none 0 0, .slice none 0 0] :: .blk gc 29 (cRl r) :: .blk gn 26 (cNt x) :: .row A m m 32 1 (Ms.flatMap R.cSl) :: (gst Gs ++ nst 3 1 R.cI Ms)) from R.ohm) 61 2) hNM
          refine R.WC_loop (fun q : Nat × Option Addr × Nat => [(2, .pointer (some ⟨gn, 0, none⟩)), (3, .pointer (some ⟨gc, 0, none⟩)), (4, .pointer (some ⟨go, 0, none⟩)), (5, .int .i64 0), (6, .pointer (some ⟨gg, 0, none⟩)), (7, .slice D m cd), (8, .slice A m m), (9, .map (some b)), (42, .slice x.e.A x.e.n x.e.c), (43, .int .i64 (x.e.n : Nat)), (44, .int .i64 (i : Nat)), (10, .int .i64 (i : Nat)), (11, .pointer (some ⟨ge, 0, none⟩)), (53, .slice gB 2 cB), (54, .int .i64 2), (55, .int .i64 (j : Nat)), (12, .int .i64 (j : Nat)), (13, .bool is), (14, .int .i64 (2 * (i : Nat) + (j : Nat))), (15, .int .i64 (nth x.e.L i).a), (16, .bool ab), (17, .slice q.2.1 (turnR x.e.L r.b.L is (2 * (i : Nat) + (j : Nat)) ab ((nth Ms (nth x.e.L i).a.toNat).L.take q.1)).length q.2.2), (87, .slice (nth Ms (nth x.e.L i).a.toNat).A (nth Ms (nth x.e.L i).a.toNat).n (nth Ms (nth x.e.L i).a.toNat).c), (88, .int .i64 ((nth Ms (nth x.e.L i).a.toNat).n : Nat)), (89, .int .i64 (q.1 : Nat))])
            (fun q w2 => q.1 ≤ (nth Ms (nth x.e.L i).a.toNat).n ∧ R.Own [] w w2 (.row (nth Ms (nth x.e.L i).a.toNat).A (nth Ms (nth x.e.L i).a.toNat).n (nth Ms (nth x.e.L i).a.toNat).c 3 1 ((nth Ms (nth x.e.L i).a.toNat).L.flatMap R.cI) :: .row q.2.1 (turnR x.e.L r.b.L is (2 * (i : Nat) + (j : Nat)) ab ((nth Ms (nth x.e.L i).a.toNat).L.take q.1)).length q.2.2 61 2 ((turnR x.e.L r.b.L is (2 * (i : Nat) + (j : Nat)) ab ((nth Ms (nth x.e.L i).a.toNat).L.take q.1)).flatMap cItem) :: .row hA (hdM M (2 * i + j)).length hc 3 1 ((hdM M (2 * i + j)).flatMap R.cI) :: .row wA (wtM M (2 * i + j)).length wc 3 1 ((wtM M (2 * i + j)).flatMap R.cI) :: .row sA (stM M (2 * i + j)).length sc 3 1 ((stM M (2 * i + j)).flatMap R.cI) :: .blk gg 34 [.slice sA (stM M (2 * i + j)).length sc, .slice hA (hdM M (2 * i + j)).length hc, .slice wA (wtM M (2 * i + j)).length wc] :: .row gB 2 cB 4 1 ([(nth x.e.L i).f, (nth x.e.L i).k].flatMap R.cB) :: .blk ge 55 (cEd (nth x.e.L i)) :: .map b es clk :: .row D m cd 4 1 ((deadL x.e.L m x.e.n).flatMap R.cB) :: .blk go 34 [.slice none 0 0, .slice none 0 0, .slice none 0 0] :: .blk gc 29 (cRl r) :: .blk gn 26 (cNt x) :: .row A m m 32 1 (Ms.flatMap R.cSl) :: (gst Gs ++ (nst 3 1 R.cI (Ms.take (nth x.e.L i).a.toNat) ++ nst 3 1 R.cI (Ms.drop ((nth x.e.L i).a.toNat + 1)))))) (fun q => (nth Ms (nth x.e.L i).a.toNat).n - q.1)
            ⟨(0, none, 0), ⟨rfl, rfl, rfl, rfl, rfl, rfl, rfl, rfl, rfl, rfl, rfl, rfl, rfl, rfl, rfl, rfl, rfl, R.viaB rfl his, rfl, rfl, R.viaB (a := false) rfl (by rw [← hab]; unfold aboutR; simp [hp]), rfl, rfl, rfl, rfl, trivial⟩, Nat.zero_le _, hM⟩ ?_
          clear hM
          rintro ⟨q, la, lc⟩ f w7 ⟨hq, hM⟩
          dsimp only at hq hM ⊢
          by_cases hql : q < (nth Ms (nth x.e.L i).a.toNat).n
          · obtain ⟨y1, y2⟩ := hWb _ (R.nth_mem (L := (nth Ms (nth x.e.L i).a.toNat).L) (i := q) (by omega))
            have hnx := turnR_next (E := x.e.L) (L := r.b.L) (is := is) (v := 2 * ((i : Nat) : Int) + ((j : Nat) : Int)) (ab := ab) (W := (nth Ms (nth x.e.L i).a.toNat).L) (q := q) (by omega)
            have htl := turnR_le (E := x.e.L) (L := r.b.L) is (2 * ((i : Nat) : Int) + ((j : Nat) : Int)) ab ((nth Ms (nth x.e.L i).a.toNat).L.take q)
            rw [List.length_take] at htl
            cases is with
            | false =>
              rw [Bool.false_and, if_neg (by decide), List.append_nil] at hnx
              (refine R.stepN ?_; (repeat' (first | (with_reducible refine And.intro ?_ ?_) | (with_reducible intro _))); all_goals refine R.Lft.mk ?_)
              refine ⟨(q + 1, la, lc), ⟨rfl, rfl, rfl, rfl, rfl, rfl, rfl, rfl, rfl, rfl, rfl, rfl, rfl, rfl, rfl, rfl, rfl, rfl, rfl, rfl, rfl, R.viaS rfl (by dsimp only; rw [hnx]), rfl, rfl, R.viaI rfl (by dsimp only; omega), trivial⟩, ⟨by dsimp only; omega, by dsimp only; rw [hnx]; exact R.ohm⟩, by dsimp only; omega⟩
            | true =>
              (refine R.stepN ?_; (repeat' (first | (with_reducible refine And.intro ?_ ?_) | (with_reducible intro _))); all_goals refine R.Lft.mk ?_)
              refine R.WO_lkK rfl rfl rfl (by unfold In64; omega) R.ohm R.memb hS.out ?_
              (refine R.stepN ?_; (repeat' (first | (with_reducible refine And.intro ?_ ?_) | (with_reducible intro _))); all_goals refine R.Lft.mk ?_)
              refine R.WO_call4 rfl rfl R.vv R.vv R.vv R.vv ?_
              have hP := own_out (P := [.row (nth Ms (nth x.e.L i).a.toNat).A (nth Ms (nth x.e.L i).a.toNat).n (nth Ms (nth x.e.L i).a.toNat).c 3 1 ((nth Ms (nth x.e.L i).a.toNat).L.flatMap R.cI), .row la (turnR x.e.L r.b.L true (2 * (i : Nat) + (j : Nat)) ab ((nth Ms (nth x.e.L i).a.toNat).L.take q)).length lc 61 2 ((turnR x.e.L r.b.L true (2 * (i : Nat) + (j : Nat)) ab ((nth Ms (nth x.e.L i).a.toNat).L.take q)).flatMap cItem), .row hA (hdM M (2 * i + j)).length hc 3 1 ((hdM M (2 * i + j)).flatMap R.cI), .row wA (wtM M (2 * i + j)).length wc 3 1 ((wtM M (2 * i + j)).flatMap R.cI), .row sA (stM M (2 * i + j)).length sc 3 1 ((stM M (2 * i + j)).flatMap R.cI), .blk gg 34 [.slice sA (stM M (2 * i + j)).length sc, .slice hA (hdM M (2 * i + j)).length hc, .slice wA (wtM M (2 * i + j)).length wc], .row gB 2 cB 4 1 ([(nth x.e.L i).f, (nth x.e.L i).k].flatMap R.cB), .blk ge 55 (cEd (nth x.e.L i)), .map b es clk, .row D m cd 4 1 ((deadL x.e.L m x.e.n).flatMap R.cB), .blk go 34 [.slice none 0 0, .slice none 0 0, .slice none 0 0], .blk gc 29 (cRl r), .blk gn 26 (cNt x), .row A m m 32 1 (Ms.flatMap R.cSl)]) (show R.Own [] w _ (.row (nth Ms (nth x.e.L i).a.toNat).A (nth Ms (nth x.e.L i).a.toNat).n (nth Ms (nth x.e.L i).a.toNat).c 3 1 ((nth Ms (nth x.e.L i).a.toNat).L.flatMap R.cI) :: .row la (turnR x.e.L r.b.L true (2 * (i : Nat) + (j : Nat)) ab ((nth Ms (nth x.e.L i).a.toNat).L.take q)).length lc 61 2 ((turnR x.e.L r.b.L true (2 * (i : Nat) + (j : Nat)) ab ((nth Ms (nth x.e.L i).a.toNat).L.take q)).flatMap cItem) :: .row hA (hdM M (2 * i + j)).length hc 3 1 ((hdM M (2 * i + j)).flatMap R.cI) :: .row wA (wtM M (2 * i + j)).length wc 3 1 ((wtM M (2 * i + j)).flatMap R.cI) :: .row sA (stM M (2 * i + j)).length sc 3 1 ((stM M (2 * i + j)).flatMap R.cI) :: .blk gg 34 [.slice sA (stM M (2 * i + j)).length sc, .slice hA (hdM M (2 * i + j)).length hc, .slice wA (wtM M (2 * i + j)).length wc] :: .row gB 2 cB 4 1 ([(nth x.e.L i).f, (nth x.e.L i).k].flatMap R.cB) :: .blk ge 55 (cEd (nth x.e.L i)) :: .map b es clk :: .row D m cd 4 1 ((deadL x.e.L m x.e.n).flatMap R.cB) :: .blk go 34 [.slice none 0 0, .slice none 0 0, .slice none 0 0] :: .blk gc 29 (cRl r) :: .blk gn 26 (cNt x) :: .row A m m 32 1 (Ms.flatMap R.cSl) :: (gst Gs ++ (nst 3 1 R.cI (Ms.take (nth x.e.L i).a.toNat) ++ nst 3 1 R.cI (Ms.drop ((nth x.e.L i).a.toNat + 1))))) from R.ohm)
              refine (said_call r.b.L r.b.n r.b.n Gs es clk hS hrn hL64 (2 * ((i : Nat) : Int) + ((j : Nat) : Int)) (nth (nth Ms (nth x.e.L i).a.toNat).L q) ab _ (R.Own.has hP) (by omega) (by omega) (by unfold In64; omega) (by unfold In64; omega)).mono ?_
              rintro _ w8 ⟨rfl, hO8⟩
              have hM : R.Own [] w w8 (.row (nth Ms (nth x.e.L i).a.toNat).A (nth Ms (nth x.e.L i).a.toNat).n (nth Ms (nth x.e.L i).a.toNat).c 3 1 ((nth Ms (nth x.e.L i).a.toNat).L.flatMap R.cI) :: .row la (turnR x.e.L r.b.L true (2 * (i : Nat) + (j : Nat)) ab ((nth Ms (nth x.e.L i).a.toNat).L.take q)).length lc 61 2 ((turnR x.e.L r.b.L true (2 * (i : Nat) + (j : Nat)) ab ((nth Ms (nth x.e.L i).a.toNat).L.take q)).flatMap cItem) :: .row hA (hdM M (2 * i + j)).length hc 3 1 ((hdM M (2 * i + j)).flatMap R.cI) :: .row wA (wtM M (2 * i + j)).length wc 3 1 ((wtM M (2 * i + j)).flatMap R.cI) :: .row sA (stM M (2 * i + j)).length sc 3 1 ((stM M (2 * i + j)).flatMap R.cI) :: .blk gg 34 [.slice sA (stM M (2 * i + j)).length sc, .slice hA (hdM M (2 * i + j)).length hc, .slice wA (wtM M (2 * i + j)).length wc] :: .row gB 2 cB 4 1 ([(nth x.e.L i).f, (nth x.e.L i).k].flatMap R.cB) :: .blk ge 55 (cEd (nth x.e.L i)) :: .map b es clk :: .row D m cd 4 1 ((deadL x.e.L m x.e.n).flatMap R.cB) :: .blk go 34 [.slice none 0 0, .slice none 0 0, .slice none 0 0] :: .blk gc 29 (cRl r) :: .blk gn 26 (cNt x) :: .row A m m 32 1 (Ms.flatMap R.cSl) :: (gst Gs ++ (nst 3 1 R.cI (Ms.take (nth x.e.L i).a.toNat) ++ nst 3 1 R.cI (Ms.drop ((nth x.e.L i).a.toNat + 1))))) := own_in (P := [.row (nth Ms (nth x.e.L i).a.toNat).A (nth Ms (nth x.e.L i).a.toNat).n (nth Ms (nth x.e.L i).a.toNat).c 3 1 ((nth Ms (nth x.e.L i).a.toNat).L.flatMap R.cI), .row la (turnR x.e.L r.b.L true (2 * (i : Nat) + (j : Nat)) ab ((nth Ms (nth x.e.L i).a.toNat).L.take q)).length lc 61 2 ((turnR x.e.L r.b.L true (2 * (i : Nat) + (j : Nat)) ab ((nth Ms (nth x.e.L i).a.toNat).L.take q)).flatMap cItem), .row hA (hdM M (2 * i + j)).length hc 3 1 ((hdM M (2 * i + j)).flatMap R.cI), .row wA (wtM M (2 * i + j)).length wc 3 1 ((wtM M (2 * i + j)).flatMap R.cI), .row sA (stM M (2 * i + j)).length sc 3 1 ((stM M (2 * i + j)).flatMap R.cI), .blk gg 34 [.slice sA (stM M (2 * i + j)).length sc, .slice hA (hdM M (2 * i + j)).length hc, .slice wA (wtM M (2 * i + j)).length wc], .row gB 2 cB 4 1 ([(nth x.e.L i).f, (nth x.e.L i).k].flatMap R.cB), .blk ge 55 (cEd (nth x.e.L i)), .map b es clk, .row D m cd 4 1 ((deadL x.e.L m x.e.n).flatMap R.cB), .blk go 34 [.slice none 0 0, .slice none 0 0, .slice none 0 0], .blk gc 29 (cRl r), .blk gn 26 (cNt x), .row A m m 32 1 (Ms.flatMap R.cSl)]) (R.Own.callF hP hO8)
              clear hP hO8
              refine ⟨_, rfl, ?_⟩
              cases hcc : mayV r.b.L (2 * ((i : Nat) : Int) + ((j : Nat) : Int)) (nth (nth Ms (nth x.e.L i).a.toNat).L q) ab with
              | true =>
                rw [Bool.true_and, hcc, if_pos rfl] at hnx
                (refine R.stepN ?_; (repeat' (first | (with_reducible refine And.intro ?_ ?_) | (with_reducible intro _))); all_goals refine R.Lft.mk ?_)
                rename_i la2 lc2 _ hM
                have eln : (turnR x.e.L r.b.L true (2 * ((i : Nat) : Int) + ((j : Nat) : Int)) ab ((nth Ms (nth x.e.L i).a.toNat).L.take q)).length + 1 = (turnR x.e.L r.b.L true (2 * ((i : Nat) : Int) + ((j : Nat) : Int)) ab ((nth Ms (nth x.e.L i).a.toNat).L.take (q + 1))).length := by rw [hnx, List.length_append]; rfl
                rw [eln, ← hnx] at hM
                refine ⟨(q + 1, la2, lc2), ⟨rfl, rfl, rfl, rfl, rfl, rfl, rfl, rfl, rfl, rfl, rfl, rfl, rfl, rfl, rfl, rfl, rfl, rfl, rfl, rfl, rfl, R.viaS rfl (by dsimp only; rw [hnx, List.length_append]; rfl), rfl, rfl, R.viaI rfl (by dsimp only; omega), trivial⟩, ⟨by dsimp only; omega, hM⟩, by dsimp only; omega⟩
              | false =>
                rw [Bool.true_and, hcc, if_neg (by decide), List.append_nil] at hnx
                (refine R.stepN ?_; (repeat' (first | (with_reducible refine And.intro ?_ ?_) | (with_reducible intro _))); all_goals refine R.Lft.mk ?_)
                refine ⟨(q + 1, la, lc), ⟨rfl, rfl, rfl, rfl, rfl, rfl, rfl, rfl, rfl, rfl, rfl, rfl, rfl, rfl, rfl, rfl, rfl, rfl, rfl, rfl, rfl, R.viaS rfl (by dsimp only; rw [hnx]), rfl, rfl, R.viaI rfl (by dsimp only; omega), trivial⟩, ⟨by dsimp only; omega, by dsimp only; rw [hnx]; exact hM⟩, by dsimp only; omega⟩
          · obtain rfl : q = (nth Ms (nth x.e.L i).a.toNat).n := by omega
            rw [show (nth Ms (nth x.e.L i).a.toNat).L.take (nth Ms (nth x.e.L i).a.toNat).n = (nth Ms (nth x.e.L i).a.toNat).L by rw [hWn]; exact List.take_length, ← hrow] at hM ⊢
            (refine R.stepN ?_; (repeat' (first | (with_reducible refine And.intro ?_ ?_) | (with_reducible intro _))); all_goals refine R.Lft.mk ?_)
            have hM := nst_unfocus (pre := [.row la (nth M (2 * i + j)).length lc 61 2 ((nth M (2 * i + j)).flatMap cItem), .row hA (hdM M (2 * i + j)).length hc 3 1 ((hdM M (2 * i + j)).flatMap R.cI), .row wA (wtM M (2 * i + j)).length wc 3 1 ((wtM M (2 * i + j)).flatMap R.cI), .row sA (stM M (2 * i + j)).length sc 3 1 ((stM M (2 * i + j)).flatMap R.cI), .blk gg 34 [.slice sA (stM M (2 * i + j)).length sc, .slice hA (hdM M (2 * i + j)).length hc, .slice wA (wtM M (2 * i + j)).length wc], .row gB 2 cB 4 1 ([(nth x.e.L i).f, (nth x.e.L i).k].flatMap R.cB), .blk ge 55 (cEd (nth x.e.L i)), .map b es clk, .row D m cd 4 1 ((deadL x.e.L m x.e.n).flatMap R.cB), .blk go 34 [.slice none 0 0, .slice none 0 0, .slice none 0 0], .blk gc 29 (cRl r), .blk gn 26 (cNt x), .row A m m 32 1 (Ms.flatMap R.cSl)] ++ gst Gs) hM hNM
            have hP : R.Own [] w _ ((.row la (nth M (2 * i + j)).length lc 61 2 ((nth M (2 * i + j)).flatMap cItem) :: .row gB 2 cB 4 1 ([(nth x.e.L i).f, (nth x.e.L i).k].flatMap R.cB) :: .blk ge 55 (cEd (nth x.e.L i)) :: .map b es clk :: .row D m cd 4 1 ((deadL x.e.L m x.e.n).flatMap R.cB) :: .blk go 34 [.slice none 0 0, .slice none 0 0, .slice none 0 0] :: .blk gc 29 (cRl r) :: .blk gn 26 (cNt x) :: .row A m m 32 1 (Ms.flatMap R.cSl) :: (gst Gs ++ nst 3 1 R.cI Ms)) ++ gRes gg sA hA wA (stM M (2 * i + j)) (hdM M (2 * i + j)) (wtM M (2 * i + j)) sc hc wc) := R.Own.perm hM (List.Perm.cons _ List.perm_append_comm)
            clear hM
            refine R.WO_call2 rfl rfl R.vv R.vv ?_
            have ho2 := off_succ (M := M) (j := 2 * i + j) (by omega)
            have hof2 := hO (2 * i + j + 1) (by omega)
            refine (aadd_any gg sA hA wA _ _ _ sc hc wc ⟨la, (nth M (2 * i + j)).length, lc, nth M (2 * i + j)⟩ _ (R.Own.has hP) (R.Own.inpF hP (.head _)) rfl (by omega) (by omega) (by omega) (by dsimp only; omega)).mono ?_
            rintro _ w8 ⟨rfl, sA2, hA2, wA2, sc2, hc2, wc2, hO8⟩
            have hM := R.Own.callF hP hO8
            clear hP hO8
            have hs2 := stM_succ M (2 * i + j)
            rw [ho2, ← hhl] at hs2
            rw [← hs2, ← hdM_succ (by omega), ← wtM_succ (by omega)] at hM
            refine ⟨_, rfl, ?_⟩
            have hM := (R.Own.tl hM).perm List.perm_append_comm
            (refine R.stepN ?_; (repeat' (first | (with_reducible refine And.intro ?_ ?_) | (with_reducible intro _))); all_goals refine R.Lft.mk ?_)
            exact ⟨(j + 1, sA2, hA2, wA2, sc2, hc2, wc2), ⟨rfl, rfl, rfl, rfl, rfl, rfl, rfl, rfl, rfl, rfl, rfl, rfl, rfl, rfl, rfl, R.viaI rfl (by dsimp only; omega), trivial⟩, ⟨by dsimp only; omega, hM⟩, by dsimp only; omega⟩
        · have hNM : (nth x.e.L i).a.toNat < Ms.length := by omega
          have hWn := hMn _ (R.nth_mem hNM)
          have hWE : nth lv (nth x.e.L i).a.toNat = (nth Ms (nth x.e.L i).a.toNat).L := by rw [← hMf]; exact nth_mapF hNM
          have hWb := hw.2 _ (R.nth_mem (L := lv) (i := (nth x.e.L i).a.toNat) (by rw [hw.1]; omega))
          rw [hWE] at hWb
          obtain ⟨hWc, hWb⟩ := hWb
          have hrow : nth M (2 * i + j) = turnR x.e.L r.b.L is (2 * (i : Nat) + (j : Nat)) ab (nth Ms (nth x.e.L i).a.toNat).L := by
            rw [← hMM, rowsR_nth (by omega), show (2 * i + j) / 2 = i by omega, show (2 * i + j) % 2 = j by omega]
            unfold rowAtR
            rw [hisE, show headE (nth x.e.L i) j = (nth x.e.L i).a by unfold headE; simp [hj1], hWE, hab]
          (refine R.stepN ?_; (repeat' (first | (with_reducible refine And.intro ?_ ?_) | (with_reducible intro _))); all_goals refine R.Lft.mk ?_)
          have hM := nst_focus (pre := [.row none 0 0 61 2 [], .row hA (hdM M (2 * i + j)).length hc 3 1 ((hdM M (2 * i + j)).flatMap R.cI), .row wA (wtM M (2 * i + j)).length wc 3 1 ((wtM M (2 * i + j)).flatMap R.cI), .row sA (stM M (2 * i + j)).length sc 3 1 ((stM M (2 * i + j)).flatMap R.cI), .blk gg 34 [.slice sA (stM M (2 * i + j)).length sc, .slice hA (hdM M (2 * i + j)).length hc, .slice wA (wtM M (2 * i + j)).length wc], .row gB 2 cB 4 1 ([(nth x.e.L i).f, (nth x.e.L i).k].flatMap R.cB), .blk ge 55 (cEd (nth x.e.L i)), .map b es clk, .row D m cd 4 1 ((deadL x.e.L m x.e.n).flatMap R.cB), .blk go 34 [.slice none 0 0, .slice none 0 0, .slice none 0 0], .blk gc 29 (cRl r), .blk gn 26 (cNt x), .row A m m 32 1 (Ms.flatMap R.cSl)] ++ gst Gs) (R.Own.nil (show R.Own [] w _ (.row hA (hdM M (2 * i + j)).length hc 3 1 ((hdM M (2 * i + j)).flatMap R.cI) :: .row wA (wtM M (2 * i + j)).length wc 3 1 ((wtM M (2 * i + j)).flatMap R.cI) :: .row sA (stM M (2 * i + j)).length sc 3 1 ((stM M (2 * i + j)).flatMap R.cI) :: .blk gg 34 [.slice sA (stM M (2 * i + j)).length sc, .slice hA (hdM M (2 * i + j)).length hc, .slice wA (wtM M (2 * i + j)).length wc] :: .row gB 2 cB 4 1 ([(nth x.e.L i).f, (nth x.e.L i).k].flatMap R.cB) :: .blk ge 55 (cEd (nth x.e.L i)) :: .map b es clk :: .row D m cd 4 1 ((deadL x.e.L m x.e.n).flatMap R.cB) :: .blk go 34 [.slice none 0 0, .slice none 0 0, .slice none 0 0] :: .blk gc 29 (cRl r) :: .blk gn 26 (cNt x) :: .row A m m 32 1 (Ms.flatMap R.cSl) :: (gst Gs ++ nst 3 1 R.cI Ms)) from R.ohm) 61 2) hNM
          refine R.WC_loop (fun q : Nat × Option Addr × Nat => [(2, .pointer (some ⟨gn, 0, none⟩)), (3, .pointer (some ⟨gc, 0, none⟩)), (4, .pointer (some ⟨go, 0, none⟩)), (5, .int .i64 0), (6, .pointer (some ⟨gg, 0, none⟩)), (7, .slice D m cd), (8, .slice A m m), (9, .map (some b)), (42, .slice x.e.A x.e.n x.e.c), (43, .int .i64 (x.e.n : Nat)), (44, .int .i64 (i : Nat)), (10, .int .i64 (i : Nat)), (11, .pointer (some ⟨ge, 0, none⟩)), (53, .slice gB 2 cB), (54, .int .i64 2), (55, .int .i64 (j : Nat)), (12, .int .i64 (j : Nat)), (13, .bool is), (14, .int .i64 (2 * (i : Nat) + (j : Nat))), (15, .int .i64 (nth x.e.L i).a), (16, .bool ab), (17, .slice q.2.1 (turnR x.e.L r.b.L is (2 * (i : Nat) + (j : Nat)) ab ((nth Ms (nth x.e.L i).a.toNat).L.take q.1)).length q.2.2), (87, .slice (nth Ms (nth x.e.L i).a.toNat).A (nth Ms (nth x.e.L i).a.toNat).n (nth Ms (nth x.e.L i).a.toNat).c), (88, .int .i64 ((nth Ms (nth x.e.L i).a.toNat).n : Nat)), (89, .int .i64 (q.1 : Nat))])
            (fun q w2 => q.1 ≤ (nth Ms (nth x.e.L i).a.toNat).n ∧ R.Own [] w w2 (.row (nth Ms (nth x.e.L i).a.toNat).A (nth Ms (nth x.e.L i).a.toNat).n (nth Ms (nth x.e.L i).a.toNat).c 3 1 ((nth Ms (nth x.e.L i).a.toNat).L.flatMap R.cI) :: .row q.2.1 (turnR x.e.L r.b.L is (2 * (i : Nat) + (j : Nat)) ab ((nth Ms (nth x.e.L i).a.toNat).L.take q.1)).length q.2.2 61 2 ((turnR x.e.L r.b.L is (2 * (i : Nat) + (j : Nat)) ab ((nth Ms (nth x.e.L i).a.toNat).L.take q.1)).flatMap cItem) :: .row hA (hdM M (2 * i + j)).length hc 3 1 ((hdM M (2 * i + j)).flatMap R.cI) :: .row wA (wtM M (2 * i + j)).length wc 3 1 ((wtM M (2 * i + j)).flatMap R.cI) :: .row sA (stM M (2 * i + j)).length sc 3 1 ((stM M (2 * i + j)).flatMap R.cI) :: .blk gg 34 [.slice sA (stM M (2 * i + j)).length sc, .slice hA (hdM M (2 * i + j)).length hc, .slice wA (wtM M (2 * i + j)).length wc] :: .row gB 2 cB 4 1 ([(nth x.e.L i).f, (nth x.e.L i).k].flatMap R.cB) :: .blk ge 55 (cEd (nth x.e.L i)) :: .map b es clk :: .row D m cd 4 1 ((deadL x.e.L m x.e.n).flatMap R.cB) :: .blk go 34 [.slice none 0 0, .slice none 0 0, .slice none 0 0] :: .blk gc 29 (cRl r) :: .blk gn 26 (cNt x) :: .row A m m 32 1 (Ms.flatMap R.cSl) :: (gst Gs ++ (nst 3 1 R.cI (Ms.take (nth x.e.L i).a.toNat) ++ nst 3 1 R.cI (Ms.drop ((nth x.e.L i).a.toNat + 1)))))) (fun q => (nth Ms (nth x.e.L i).a.toNat).n - q.1)
            ⟨(0, none, 0), ⟨rfl, rfl, rfl, rfl, rfl, rfl, rfl, rfl, rfl, rfl, rfl, rfl, rfl, rfl, rfl, rfl, rfl, R.viaB rfl his, rfl, rfl, R.viaB (a := nth (deadL x.e.L m x.e.n) (nth x.e.L i).a.toNat) rfl (by rw [← hab]; unfold aboutR; simp [hp]), rfl, rfl, rfl, rfl, trivial⟩, Nat.zero_le _, hM⟩ ?_
          clear hM
          rintro ⟨q, la, lc⟩ f w7 ⟨hq, hM⟩
          dsimp only at hq hM ⊢
          by_cases hql : q < (nth Ms (nth x.e.L i).a.toNat).n
          · obtain ⟨y1, y2⟩ := hWb _ (R.nth_mem (L := (nth Ms (nth x.e.L i).a.toNat).L) (i := q) (by omega))
            have hnx := turnR_next (E := x.e.L) (L := r.b.L) (is := is) (v := 2 * ((i : Nat) : Int) + ((j : Nat) : Int)) (ab := ab) (W := (nth Ms (nth x.e.L i).a.toNat).L) (q := q) (by omega)
            have htl := turnR_le (E := x.e.L) (L := r.b.L) is (2 * ((i : Nat) : Int) + ((j : Nat) : Int)) ab ((nth Ms (nth x.e.L i).a.toNat).L.take q)
            rw [List.length_take] at htl
            cases is with
            | false =>
              rw [Bool.false_and, if_neg (by decide), List.append_nil] at hnx
              (refine R.stepN ?_; (repeat' (first | (with_reducible refine And.intro ?_ ?_) | (with_reducible intro _))); all_goals refine R.Lft.mk ?_)
              refine ⟨(q + 1, la, lc), ⟨rfl, rfl, rfl, rfl, rfl, rfl, rfl, rfl, rfl, rfl, rfl, rfl, rfl, rfl, rfl, rfl, rfl, rfl, rfl, rfl, rfl, R.viaS rfl (by dsimp only; rw [hnx]), rfl, rfl, R.viaI rfl (by dsimp only; omega), trivial⟩, ⟨by dsimp only; omega, by dsimp only; rw [hnx]; exact R.ohm⟩, by dsimp only; omega⟩
            | true =>
              (refine R.stepN ?_; (repeat' (first | (with_reducible refine And.intro ?_ ?_) | (with_reducible intro _))); all_goals refine R.Lft.mk ?_)
              refine R.WO_lkK rfl rfl rfl (by unfold In64; omega) R.ohm R.memb hS.out ?_
              (refine R.stepN ?_; (repeat' (first | (with_reducible refine And.intro ?_ ?_) | (with_reducible intro _))); all_goals refine R.Lft.mk ?_)
              refine R.WO_call4 rfl rfl R.vv R.vv R.vv R.vv ?_
              have hP := own_out (P := [.row (nth Ms (nth x.e.L i).a.toNat).A (nth Ms (nth x.e.L i).a.toNat).n (nth Ms (nth x.e.L i).a.toNat).c 3 1 ((nth Ms (nth x.e.L i).a.toNat).L.flatMap R.cI), .row la (turnR x.e.L r.b.L true (2 * (i : Nat) + (j : Nat)) ab ((nth Ms (nth x.e.L i).a.toNat).L.take q)).length lc 61 2 ((turnR x.e.L r.b.L true (2 * (i : Nat) + (j : Nat)) ab ((nth Ms (nth x.e.L i).a.toNat).L.take q)).flatMap cItem), .row hA (hdM M (2 * i + j)).length hc 3 1 ((hdM M (2 * i + j)).flatMap R.cI), .row wA (wtM M (2 * i + j)).length wc 3 1 ((wtM M (2 * i + j)).flatMap R.cI), .row sA (stM M (2 * i + j)).length sc 3 1 ((stM M (2 * i + j)).flatMap R.cI), .blk gg 34 [.slice sA (stM M (2 * i + j)).length sc, .slice hA (hdM M (2 * i + j)).length hc, .slice wA (wtM M (2 * i + j)).length wc], .row gB 2 cB 4 1 ([(nth x.e.L i).f, (nth x.e.L i).k].flatMap R.cB), .blk ge 55 (cEd (nth x.e.L i)), .map b es clk, .row D m cd 4 1 ((deadL x.e.L m x.e.n).flatMap R.cB), .blk go 34 [.slice none 0 0, .slice none 0 0, .slice none 0 0], .blk gc 29 (cRl r), .blk gn 26 (cNt x), .row A m m 32 1 (Ms.flatMap R.cSl)]) (show R.Own [] w _ (.row (nth Ms (nth x.e.L i).a.toNat).A (nth Ms (nth x.e.L i).a.toNat).n (nth Ms (nth x.e.L i).a.toNat).c 3 1 ((nth Ms (nth x.e.L i).a.toNat).L.flatMap R.cI) :: .row la (turnR x.e.L r.b.L true (2 * (i : Nat) + (j : Nat)) ab ((nth Ms (nth x.e.L i).a.toNat).L.take q)).length lc 61 2 ((turnR x.e.L r.b.L true (2 * (i : Nat) + (j : Nat)) ab ((nth Ms (nth x.e.L i).a.toNat).L.take q)).flatMap cItem) :: .row hA (hdM M (2 * i + j)).length hc 3 1 ((hdM M (2 * i + j)).flatMap R.cI) :: .row wA (wtM M (2 * i + j)).length wc 3 1 ((wtM M (2 * i + j)).flatMap R.cI) :: .row sA (stM M (2 * i + j)).length sc 3 1 ((stM M (2 * i + j)).flatMap R.cI) :: .blk gg 34 [.slice sA (stM M (2 * i + j)).length sc, .slice hA (hdM M (2 * i + j)).length hc, .slice wA (wtM M (2 * i + j)).length wc] :: .row gB 2 cB 4 1 ([(nth x.e.L i).f, (nth x.e.L i).k].flatMap R.cB) :: .blk ge 55 (cEd (nth x.e.L i)) :: .map b es clk :: .row D m cd 4 1 ((deadL x.e.L m x.e.n).flatMap R.cB) :: .blk go 34 [.slice none 0 0, .slice none 0 0, .slice none 0 0] :: .blk gc 29 (cRl r) :: .blk gn 26 (cNt x) :: .row A m m 32 1 (Ms.flatMap R.cSl) :: (gst Gs ++ (nst 3 1 R.cI (Ms.take (nth x.e.L i).a.toNat) ++ nst 3 1 R.cI (Ms.drop ((nth x.e.L i).a.toNat + 1))))) from R.ohm)
              refine (said_call r.b.L r.b.n r.b.n Gs es clk hS hrn hL64 (2 * ((i : Nat) : Int) + ((j : Nat) : Int)) (nth (nth Ms (nth x.e.L i).a.toNat).L q) ab _ (R.Own.has hP) (by omega) (by omega) (by unfold In64; omega) (by unfold In64; omega)).mono ?_
              rintro _ w8 ⟨rfl, hO8⟩
              have hM : R.Own [] w w8 (.row (nth Ms (nth x.e.L i).a.toNat).A (nth Ms (nth x.e.L i).a.toNat).n (nth Ms (nth x.e.L i).a.toNat).c 3 1 ((nth Ms (nth x.e.L i).a.toNat).L.flatMap R.cI) :: .row la (turnR x.e.L r.b.L true (2 * (i : Nat) + (j : Nat)) ab ((nth Ms (nth x.e.L i).a.toNat).L.take q)).length lc 61 2 ((turnR x.e.L r.b.L true (2 * (i : Nat) + (j : Nat)) ab ((nth Ms (nth x.e.L i).a.toNat).L.take q)).flatMap cItem) :: .row hA (hdM M (2 * i + j)).length hc 3 1 ((hdM M (2 * i + j)).flatMap R.cI) :: .row wA (wtM M (2 * i + j)).length wc 3 1 ((wtM M (2 * i + j)).flatMap R.cI) :: .row sA (stM M (2 * i + j)).length sc 3 1 ((stM M (2 * i + j)).flatMap R.cI) :: .blk gg 34 [.slice sA (stM M (2 * i + j)).length sc, .slice hA (hdM M (2 * i + j)).length hc, .slice wA (wtM M (2 * i + j)).length wc] :: .row gB 2 cB 4 1 ([(nth x.e.L i).f, (nth x.e.L i).k].flatMap R.cB) :: .blk ge 55 (cEd (nth x.e.L i)) :: .map b es clk :: .row D m cd 4 1 ((deadL x.e.L m x.e.n).flatMap R.cB) :: .blk go 34 [.slice none 0 0, .slice none 0 0, .slice none 0 0] :: .blk gc 29 (cRl r) :: .blk gn 26 (cNt x) :: .row A m m 32 1 (Ms.flatMap R.cSl) :: (gst Gs ++ (nst 3 1 R.cI (Ms.take (nth x.e.L i).a.toNat) ++ nst 3 1 R.cI (Ms.drop ((nth x.e.L i).a.toNat + 1))))) := own_in (P := [.row (nth Ms (nth x.e.L i).a.toNat).A (nth Ms (nth x.e.L i).a.toNat).n (nth Ms (nth x.e.L i).a.toNat).c 3 1 ((nth Ms (nth x.e.L i).a.toNat).L.flatMap R.cI), .row la (turnR x.e.L r.b.L true (2 * (i : Nat) + (j : Nat)) ab ((nth Ms (nth x.e.L i).a.toNat).L.take q)).length lc 61 2 ((turnR x.e.L r.b.L true (2 * (i : Nat) + (j : Nat)) ab ((nth Ms (nth x.e.L i).a.toNat).L.take q)).flatMap cItem), .row hA (hdM M (2 * i + j)).length hc 3 1 ((hdM M (2 * i + j)).flatMap R.cI), .row wA (wtM M (2 * i + j)).length wc 3 1 ((wtM M (2 * i + j)).flatMap R.cI), .row sA (stM M (2 * i + j)).length sc 3 1 ((stM M (2 * i + j)).flatMap R.cI), .blk gg 34 [.slice sA (stM M (2 * i + j)).length sc, .slice hA (hdM M (2 * i + j)).length hc, .slice wA (wtM M (2 * i + j)).length wc], .row gB 2 cB 4 1 ([(nth x.e.L i).f, (nth x.e.L i).k].flatMap R.cB), .blk ge 55 (cEd (nth x.e.L i)), .map b es clk, .row D m cd 4 1 ((deadL x.e.L m x.e.n).flatMap R.cB), .blk go 34 [.slice none 0 0, .slice none 0 0, .slice none 0 0], .blk gc 29 (cRl r), .blk gn 26 (cNt x), .row A m m 32 1 (Ms.flatMap R.cSl)]) (R.Own.callF hP hO8)
              clear hP hO8
              refine ⟨_, rfl, ?_⟩
              cases hcc : mayV r.b.L (2 * ((i : Nat) : Int) + ((j : Nat) : Int)) (nth (nth Ms (nth x.e.L i).a.toNat).L q) ab with
              | true =>
                rw [Bool.true_and, hcc, if_pos rfl] at hnx
                (refine R.stepN ?_; (repeat' (first | (with_reducible refine And.intro ?_ ?_) | (with_reducible intro _))); all_goals refine R.Lft.mk ?_)
                rename_i la2 lc2 _ hM
                have eln : (turnR x.e.L r.b.L true (2 * ((i : Nat) : Int) + ((j : Nat) : Int)) ab ((nth Ms (nth x.e.L i).a.toNat).L.take q)).length + 1 = (turnR x.e.L r.b.L true (2 * ((i : Nat) : Int) + ((j : Nat) : Int)) ab ((nth Ms (nth x.e.L i).a.toNat).L.take (q + 1))).length := by rw [hnx, List.length_append]; rfl
                rw [eln, ← hnx] at hM
                refine ⟨(q + 1, la2, lc2), ⟨rfl, rfl, rfl, rfl, rfl, rfl, rfl, rfl, rfl, rfl, rfl, rfl, rfl, rfl, rfl, rfl, rfl, rfl, rfl, rfl, rfl, R.viaS rfl (by dsimp only; rw [hnx, List.length_append]; rfl), rfl, rfl, R.viaI rfl (by dsimp only; omega), trivial⟩, ⟨by dsimp only; omega, hM⟩, by dsimp only; omega⟩
              | false =>
                rw [Bool.true_and, hcc, if_neg (by decide), List.append_nil] at hnx
                (refine R.stepN ?_; (repeat' (first | (with_reducible refine And.intro ?_ ?_) | (with_reducible intro _))); all_goals refine R.Lft.mk ?_)
                refine ⟨(q + 1, la, lc), ⟨rfl, rfl, rfl, rfl, rfl, rfl, rfl, rfl, rfl, rfl, rfl, rfl, rfl, rfl, rfl, rfl, rfl, rfl, rfl, rfl, rfl, R.viaS rfl (by dsimp only; rw [hnx]), rfl, rfl, R.viaI rfl (by dsimp only; omega), trivial⟩, ⟨by dsimp only; omega, by dsimp only; rw [hnx]; exact hM⟩, by dsimp only; omega⟩
          · obtain rfl : q = (nth Ms (nth x.e.L i).a.toNat).n := by omega
            rw [show (nth Ms (nth x.e.L i).a.toNat).L.take (nth Ms (nth x.e.L i).a.toNat).n = (nth Ms (nth x.e.L i).a.toNat).L by rw [hWn]; exact List.take_length, ← hrow] at hM ⊢
            (refine R.stepN ?_; (repeat' (first | (with_reducible refine And.intro ?_ ?_) | (with_reducible intro _))); all_goals refine R.Lft.mk ?_)
            have hM := nst_unfocus (pre := [.row la (nth M (2 * i + j)).length lc 61 2 ((nth M (2 * i + j)).flatMap cItem), .row hA (hdM M (2 * i + j)).length hc 3 1 ((hdM M (2 * i + j)).flatMap R.cI), .row wA (wtM M (2 * i + j)).length wc 3 1 ((wtM M (2 * i + j)).flatMap R.cI), .row sA (stM M (2 * i + j)).length sc 3 1 ((stM M (2 * i + j)).flatMap R.cI), .blk gg 34 [.slice sA (stM M (2 * i + j)).length sc, .slice hA (hdM M (2 * i + j)).length hc, .slice wA (wtM M (2 * i + j)).length wc], .row gB 2 cB 4 1 ([(nth x.e.L i).f, (nth x.e.L i).k].flatMap R.cB), .blk ge 55 (cEd (nth x.e.L i)), .map b es clk, .row D m cd 4 1 ((deadL x.e.L m x.e.n).flatMap R.cB), .blk go 34 [.slice none 0 0, .slice none 0 0, .slice none 0 0], .blk gc 29 (cRl r), .blk gn 26 (cNt x), .row A m m 32 1 (Ms.flatMap R.cSl)] ++ gst Gs) hM hNM
            have hP : R.Own [] w _ ((.row la (nth M (2 * i + j)).length lc 61 2 ((nth M (2 * i + j)).flatMap cItem) :: .row gB 2 cB 4 1 ([(nth x.e.L i).f, (nth x.e.L i).k].flatMap R.cB) :: .blk ge 55 (cEd (nth x.e.L i)) :: .map b es clk :: .row D m cd 4 1 ((deadL x.e.L m x.e.n).flatMap R.cB) :: .blk go 34 [.slice none 0 0, .slice none 0 0, .slice none 0 0] :: .blk gc 29 (cRl r) :: .blk gn 26 (cNt x) :: .row A m m 32 1 (Ms.flatMap R.cSl) :: (gst Gs ++ nst 3 1 R.cI Ms)) ++ gRes gg sA hA wA (stM M (2 * i + j)) (hdM M (2 * i + j)) (wtM M (2 * i + j)) sc hc wc) := R.Own.perm hM (List.Perm.cons _ List.perm_append_comm)
            clear hM
            refine R.WO_call2 rfl rfl R.vv R.vv ?_
            have ho2 := off_succ (M := M) (j := 2 * i + j) (by omega)
            have hof2 := hO (2 * i + j + 1) (by omega)
            refine (aadd_any gg sA hA wA _ _ _ sc hc wc ⟨la, (nth M (2 * i + j)).length, lc, nth M (2 * i + j)⟩ _ (R.Own.has hP) (R.Own.inpF hP (.head _)) rfl (by omega) (by omega) (by omega) (by dsimp only; omega)).mono ?_
            rintro _ w8 ⟨rfl, sA2, hA2, wA2, sc2, hc2, wc2, hO8⟩
            have hM := R.Own.callF hP hO8
            clear hP hO8
            have hs2 := stM_succ M (2 * i + j)
            rw [ho2, ← hhl] at hs2
            rw [← hs2, ← hdM_succ (by omega), ← wtM_succ (by omega)] at hM
            refine ⟨_, rfl, ?_⟩
            have hM := (R.Own.tl hM).perm List.perm_append_comm
            (refine R.stepN ?_; (repeat' (first | (with_reducible refine And.intro ?_ ?_) | (with_reducible intro _))); all_goals refine R.Lft.mk ?_)
            exact ⟨(j + 1, sA2, hA2, wA2, sc2, hc2, wc2), ⟨rfl, rfl, rfl, rfl, rfl, rfl, rfl, rfl, rfl, rfl, rfl, rfl, rfl, rfl, rfl, R.viaI rfl (by dsimp only; omega), trivial⟩, ⟨by dsimp only; omega, hM⟩, by dsimp only; omega⟩
        · have hNM : (nth x.e.L i).a.toNat < Ms.length := by omega
          have hWn := hMn _ (R.nth_mem hNM)
          have hWE : nth lv (nth x.e.L i).a.toNat = (nth Ms (nth x.e.L i).a.toNat).L := by rw [← hMf]; exact nth_mapF hNM
          have hWb := hw.2 _ (R.nth_mem (L := lv) (i := (nth x.e.L i).a.toNat) (by rw [hw.1]; omega))
          rw [hWE] at hWb
          obtain ⟨hWc, hWb⟩ := hWb
          have hrow : nth M (2 * i + j) = turnR x.e.L r.b.L is (2 * (i : Nat) + (j : Nat)) ab (nth Ms (nth x.e.L i).a.toNat).L := by
            rw [← hMM, rowsR_nth (by omega), show (2 * i + j) / 2 = i by omega, show (2 * i + j) % 2 = j by omega]
            unfold rowAtR
            rw [hisE, show headE (nth x.e.L i) j = (nth x.e.L i).a by unfold headE; simp [hj1], hWE, hab]
          (refine R.stepN ?_; (repeat' (first | (with_reducible refine And.intro ?_ ?_) | (with_reducible intro _))); all_goals refine R.Lft.mk ?_)
          have hM := nst_focus (pre := [.row none 0 0 61 2 [], .row hA (hdM M (2 * i + j)).length hc 3 1 ((hdM M (2 * i + j)).flatMap R.cI), .row wA (wtM M (2 * i + j)).length wc 3 1 ((wtM M (2 * i + j)).flatMap R.cI), .row sA (stM M (2 * i + j)).length sc 3 1 ((stM M (2 * i + j)).flatMap R.cI), .blk gg 34 [.slice sA (stM M (2 * i + j)).length sc, .slice hA (hdM M (2 * i + j)).length hc, .slice wA (wtM M (2 * i + j)).length wc], .row gB 2 cB 4 1 ([(nth x.e.L i).f, (nth x.e.L i).k].flatMap R.cB), .blk ge 55 (cEd (nth x.e.L i)), .map b es clk, .row D m cd 4 1 ((deadL x.e.L m x.e.n).flatMap R.cB), .blk go 34 [.slice none 0 0, .slice none 0 0, .slice none 0 0], .blk gc 29 (cRl r), .blk gn 26 (cNt x), .row A m m 32 1 (Ms.flatMap R.cSl)] ++ gst Gs) (R.Own.nil (show R.Own [] w _ (.row hA (hdM M (2 * i + j)).length hc 3 1 ((hdM M (2 * i + j)).flatMap R.cI) :: .row wA (wtM M (2 * i + j)).length wc 3 1 ((wtM M (2 * i + j)).flatMap R.cI) :: .row sA (stM M (2 * i + j)).length sc 3 1 ((stM M (2 * i + j)).flatMap R.cI) :: .blk gg 34 [.slice sA (stM M (2 * i + j)).length sc, .slice hA (hdM M (2 * i + j)).length hc, .slice wA (wtM M (2 * i + j)).length wc] :: .row gB 2 cB 4 1 ([(nth x.e.L i).f, (nth x.e.L i).k].flatMap R.cB) :: .blk ge 55 (cEd (nth x.e.L i)) :: .map b es clk :: .row D m cd 4 1 ((deadL x.e.L m x.e.n).flatMap R.cB) :: .blk go 34 [.slice none 0 0, .slice none 0 0, .slice none 0 0] :: .blk gc 29 (cRl r) :: .blk gn 26 (cNt x) :: .row A m m 32 1 (Ms.flatMap R.cSl) :: (gst Gs ++ nst 3 1 R.cI Ms)) from R.ohm) 61 2) hNM
          refine R.WC_loop (fun q : Nat × Option Addr × Nat => [(2, .pointer (some ⟨gn, 0, none⟩)), (3, .pointer (some ⟨gc, 0, none⟩)), (4, .pointer (some ⟨go, 0, none⟩)), (5, .int .i64 0), (6, .pointer (some ⟨gg, 0, none⟩)), (7, .slice D m cd), (8, .slice A m m), (9, .map (some b)), (42, .slice x.e.A x.e.n x.e.c), (43, .int .i64 (x.e.n : Nat)), (44, .int .i64 (i : Nat)), (10, .int .i64 (i : Nat)), (11, .pointer (some ⟨ge, 0, none⟩)), (53, .slice gB 2 cB), (54, .int .i64 2), (55, .int .i64 (j : Nat)), (12, .int .i64 (j : Nat)), (13, .bool is), (14, .int .i64 (2 * (i : Nat) + (j : Nat))), (15, .int .i64 (nth x.e.L i).a), (16, .bool ab), (17, .slice q.2.1 (turnR x.e.L r.b.L is (2 * (i : Nat) + (j : Nat)) ab ((nth Ms (nth x.e.L i).a.toNat).L.take q.1)).length q.2.2), (87, .slice (nth Ms (nth x.e.L i).a.toNat).A (nth Ms (nth x.e.L i).a.toNat).n (nth Ms (nth x.e.L i).a.toNat).c), (88, .int .i64 ((nth Ms (nth x.e.L i).a.toNat).n : Nat)), (89, .int .i64 (q.1 : Nat))])
            (fun q w2 => q.1 ≤ (nth Ms (nth x.e.L i).a.toNat).n ∧ R.Own [] w w2 (.row (nth Ms (nth x.e.L i).a.toNat).A (nth Ms (nth x.e.L i).a.toNat).n (nth Ms (nth x.e.L i).a.toNat).c 3 1 ((nth Ms (nth x.e.L i).a.toNat).L.flatMap R.cI) :: .row q.2.1 (turnR x.e.L r.b.L is (2 * (i : Nat) + (j : Nat)) ab ((nth Ms (nth x.e.L i).a.toNat).L.take q.1)).length q.2.2 61 2 ((turnR x.e.L r.b.L is (2 * (i : Nat) + (j : Nat)) ab ((nth Ms (nth x.e.L i).a.toNat).L.take q.1)).flatMap cItem) :: .row hA (hdM M (2 * i + j)).length hc 3 1 ((hdM M (2 * i + j)).flatMap R.cI) :: .row wA (wtM M (2 * i + j)).length wc 3 1 ((wtM M (2 * i + j)).flatMap R.cI) :: .row sA (stM M (2 * i + j)).length sc 3 1 ((stM M (2 * i + j)).flatMap R.cI) :: .blk gg 34 [.slice sA (stM M (2 * i + j)).length sc, .slice hA (hdM M (2 * i + j)).length hc, .slice wA (wtM M (2 * i + j)).length wc] :: .row gB 2 cB 4 1 ([(nth x.e.L i).f, (nth x.e.L i).k].flatMap R.cB) :: .blk ge 55 (cEd (nth x.e.L i)) :: .map b es clk :: .row D m cd 4 1 ((deadL x.e.L m x.e.n).flatMap R.cB) :: .blk go 34 [.slice none 0 0, .slice none 0 0, .slice none 0 0] :: .blk gc 29 (cRl r) :: .blk gn 26 (cNt x) :: .row A m m 32 1 (Ms.flatMap R.cSl) :: (gst Gs ++ (nst 3 1 R.cI (Ms.take (nth x.e.L i).a.toNat) ++ nst 3 1 R.cI (Ms.drop ((nth x.e.L i).a.toNat + 1)))))) (fun q => (nth Ms (nth x.e.L i).a.toNat).n - q.1)
            ⟨(0, none, 0), ⟨rfl, rfl, rfl, rfl, rfl, rfl, rfl, rfl, rfl, rfl, rfl, rfl, rfl, rfl, rfl, rfl, rfl, R.viaB rfl his, rfl, rfl, R.viaB (a := true) rfl (by rw [← hab]; unfold aboutR; simp [hp]), rfl, rfl, rfl, rfl, trivial⟩, Nat.zero_le _, hM⟩ ?_
          clear hM
          rintro ⟨q, la, lc⟩ f w7 ⟨hq, hM⟩
          dsimp only at hq hM ⊢
          by_cases hql : q < (nth Ms (nth x.e.L i).a.toNat).n
          · obtain ⟨y1, y2⟩ := hWb _ (R.nth_mem (L := (nth Ms (nth x.e.L i).a.toNat).L) (i := q) (by omega))
            have hnx := turnR_next (E := x.e.L) (L := r.b.L) (is := is) (v := 2 * ((i : Nat) : Int) + ((j : Nat) : Int)) (ab := ab) (W := (nth Ms (nth x.e.L i).a.toNat).L) (q := q) (by omega)
            have htl := turnR_le (E := x.e.L) (L := r.b.L) is (2 * ((i : Nat) : Int) + ((j : Nat) : Int)) ab ((nth Ms (nth x.e.L i).a.toNat).L.take q)
            rw [List.length_take] at htl
            cases is with
            | false =>
              rw [Bool.false_and, if_neg (by decide), List.append_nil] at hnx
              (refine R.stepN ?_; (repeat' (first | (with_reducible refine And.intro ?_ ?_) | (with_reducible intro _))); all_goals refine R.Lft.mk ?_)
              refine ⟨(q + 1, la, lc), ⟨rfl, rfl, rfl, rfl, rfl, rfl, rfl, rfl, rfl, rfl, rfl, rfl, rfl, rfl, rfl, rfl, rfl, rfl, rfl, rfl, rfl, R.viaS rfl (by dsimp only; rw [hnx]), rfl, rfl, R.viaI rfl (by dsimp only; omega), trivial⟩, ⟨by dsimp only; omega, by dsimp only; rw [hnx]; exact R.ohm⟩, by dsimp only; omega⟩
            | true =>
              (refine R.stepN ?_; (repeat' (first | (with_reducible refine And.intro ?_ ?_) | (with_reducible intro _))); all_goals refine R.Lft.mk ?_)
              refine R.WO_lkK rfl rfl rfl (by unfold In64; omega) R.ohm R.memb hS.out ?_
              (refine R.stepN ?_; (repeat' (first | (with_reducible refine And.intro ?_ ?_) | (with_reducible intro _))); all_goals refine R.Lft.mk ?_)
              refine R.WO_call4 rfl rfl R.vv R.vv R.vv R.vv ?_
              have hP := own_out (P := [.row (nth Ms (nth x.e.L i).a.toNat).A (nth Ms (nth x.e.L i).a.toNat).n (nth Ms (nth x.e.L i).a.toNat).c 3 1 ((nth Ms (nth x.e.L i).a.toNat).L.flatMap R.cI), .row la (turnR x.e.L r.b.L true (2 * (i : Nat) + (j : Nat)) ab ((nth Ms (nth x.e.L i).a.toNat).L.take q)).length lc 61 2 ((turnR x.e.L r.b.L true (2 * (i : Nat) + (j : Nat)) ab ((nth Ms (nth x.e.L i).a.toNat).L.take q)).flatMap cItem), .row hA (hdM M (2 * i + j)).length hc 3 1 ((hdM M (2 * i + j)).flatMap R.cI), .row wA (wtM M (2 * i + j)).length wc 3 1 ((wtM M (2 * i + j)).flatMap R.cI), .row sA (stM M (2 * i + j)).length sc 3 1 ((stM M (2 * i + j)).flatMap R.cI), .blk gg 34 [.slice sA (stM M (2 * i + j)).length sc, .slice hA (hdM M (2 * i + j)).length hc, .slice wA (wtM M (2 * i + j)).length wc], .row gB 2 cB 4 1 ([(nth x.e.L i).f, (nth x.e.L i).k].flatMap R.cB), .blk ge 55 (cEd (nth x.e.L i)), .map b es clk, .row D m cd 4 1 ((deadL x.e.L m x.e.n).flatMap R.cB), .blk go 34 [.slice none 0 0, .slice none 0 0, .slice none 0 0], .blk gc 29 (cRl r), .blk gn 26 (cNt x), .row A m m 32 1 (Ms.flatMap R.cSl)]) (show R.Own [] w _ (.row (nth Ms (nth x.e.L i).a.toNat).A (nth Ms (nth x.e.L i).a.toNat).n (nth Ms (nth x.e.L i).a.toNat).c 3 1 ((nth Ms (nth x.e.L i).a.toNat).L.flatMap R.cI) :: .row la (turnR x.e.L r.b.L true (2 * (i : Nat) + (j : Nat)) ab ((nth Ms (nth x.e.L i).a.toNat).L.take q)).length lc 61 2 ((turnR x.e.L r.b.L true (2 * (i : Nat) + (j : Nat)) ab ((nth Ms (nth x.e.L i).a.toNat).L.take q)).flatMap cItem) :: .row hA (hdM M (2 * i + j)).length hc 3 1 ((hdM M (2 * i + j)).flatMap R.cI) :: .row wA (wtM M (2 * i + j)).length wc 3 1 ((wtM M (2 * i + j)).flatMap R.cI) :: .row sA (stM M (2 * i + j)).length sc 3 1 ((stM M (2 * i + j)).flatMap R.cI) :: .blk gg 34 [.slice sA (stM M (2 * i + j)).length sc, .slice hA (hdM M (2 * i + j)).length hc, .slice wA (wtM M (2 * i + j)).length wc] :: .row gB 2 cB 4 1 ([(nth x.e.L i).f, (nth x.e.L i).k].flatMap R.cB) :: .blk ge 55 (cEd (nth x.e.L i)) :: .map b es clk :: .row D m cd 4 1 ((deadL x.e.L m x.e.n).flatMap R.cB) :: .blk go 34 [.slice none 0 0, .slice none 0 0, .slice none 0 0] :: .blk gc 29 (cRl r) :: .blk gn 26 (cNt x) :: .row A m m 32 1 (Ms.flatMap R.cSl) :: (gst Gs ++ (nst 3 1 R.cI (Ms.take (nth x.e.L i).a.toNat) ++ nst 3 1 R.cI (Ms.drop ((nth x.e.L i).a.toNat + 1))))) from R.ohm)
              refine (said_call r.b.L r.b.n r.b.n Gs es clk hS hrn hL64 (2 * ((i : Nat) : Int) + ((j : Nat) : Int)) (nth (nth Ms (nth x.e.L i).a.toNat).L q) ab _ (R.Own.has hP) (by omega) (by omega) (by unfold In64; omega) (by unfold In64; omega)).mono ?_
              rintro _ w8 ⟨rfl, hO8⟩
              have hM : R.Own [] w w8 (.row (nth Ms (nth x.e.L i).a.toNat).A (nth Ms (nth x.e.L i).a.toNat).n (nth Ms (nth x.e.L i).a.toNat).c 3 1 ((nth Ms (nth x.e.L i).a.toNat).L.flatMap R.cI) :: .row la (turnR x.e.L r.b.L true (2 * (i : Nat) + (j : Nat)) ab ((nth Ms (nth x.e.L i).a.toNat).L.take q)).length lc 61 2 ((turnR x.e.L r.b.L true (2 * (i : Nat) + (j : Nat)) ab ((nth Ms (nth x.e.L i).a.toNat).L.take q)).flatMap cItem) :: .row hA (hdM M (2 * i + j)).length hc 3 1 ((hdM M (2 * i + j)).flatMap R.cI) :: .row wA (wtM M (2 * i + j)).length wc 3 1 ((wtM M (2 * i + j)).flatMap R.cI) :: .row sA (stM M (2 * i + j)).length sc 3 1 ((stM M (2 * i + j)).flatMap R.cI) :: .blk gg 34 [.slice sA (stM M (2 * i + j)).length sc, .slice hA (hdM M (2 * i + j)).length hc, .slice wA (wtM M (2 * i + j)).length wc] :: .row gB 2 cB 4 1 ([(nth x.e.L i).f, (nth x.e.L i).k].flatMap R.cB) :: .blk ge 55 (cEd (nth x.e.L i)) :: .map b es clk :: .row D m cd 4 1 ((deadL x.e.L m x.e.n).flatMap R.cB) :: .blk go 34 [.slice none 0 0, .slice none 0 0, .slice none 0 0] :: .blk gc 29 (cRl r) :: .blk gn 26 (cNt x) :: .row A m m 32 1 (Ms.flatMap R.cSl) :: (gst Gs ++ (nst 3 1 R.cI (Ms.take (nth x.e.L i).a.toNat) ++ nst 3 1 R.cI (Ms.drop ((nth x.e.L i).a.toNat + 1))))) := own_in (P := [.row (nth Ms (nth x.e.L i).a.toNat).A (nth Ms (nth x.e.L i).a.toNat).n (nth Ms (nth x.e.L i).a.toNat).c 3 1 ((nth Ms (nth x.e.L i).a.toNat).L.flatMap R.cI), .row la (turnR x.e.L r.b.L true (2 * (i : Nat) + (j : Nat)) ab ((nth Ms (nth x.e.L i).a.toNat).L.take q)).length lc 61 2 ((turnR x.e.L r.b.L true (2 * (i : Nat) + (j : Nat)) ab ((nth Ms (nth x.e.L i).a.toNat).L.take q)).flatMap cItem), .row hA (hdM M (2 * i + j)).length hc 3 1 ((hdM M (2 * i + j)).flatMap R.cI), .row wA (wtM M (2 * i + j)).length wc 3 1 ((wtM M (2 * i + j)).flatMap R.cI), .row sA (stM M (2 * i + j)).length sc 3 1 ((stM M (2 * i + j)).flatMap R.cI), .blk gg 34 [.slice sA (stM M (2 * i + j)).length sc, .slice hA (hdM M (2 * i + j)).length hc, .slice wA (wtM M (2 * i + j)).length wc], .row gB 2 cB 4 1 ([(nth x.e.L i).f, (nth x.e.L i).k].flatMap R.cB), .blk ge 55 (cEd (nth x.e.L i)), .map b es clk, .row D m cd 4 1 ((deadL x.e.L m x.e.n).flatMap R.cB), .blk go 34 [.slice none 0 0, .slice none 0 0, .slice none 0 0], .blk gc 29 (cRl r), .blk gn 26 (cNt x), .row A m m 32 1 (Ms.flatMap R.cSl)]) (R.Own.callF hP hO8)
              clear hP hO8
              refine ⟨_, rfl, ?_⟩
              cases hcc : mayV r.b.L (2 * ((i : Nat) : Int) + ((j : Nat) : Int)) (nth (nth Ms (nth x.e.L i).a.toNat).L q) ab with
              | true =>
                rw [Bool.true_and, hcc, if_pos rfl] at hnx
                (refine R.stepN ?_; (repeat' (first | (with_reducible refine And.intro ?_ ?_) | (with_reducible intro _))); all_goals refine R.Lft.mk ?_)
                rename_i la2 lc2 _ hM
                have eln : (turnR x.e.L r.b.L true (2 * ((i : Nat) : Int) + ((j : Nat) : Int)) ab ((nth Ms (nth x.e.L i).a.toNat).L.take q)).length + 1 = (turnR x.e.L r.b.L true (2 * ((i : Nat) : Int) + ((j : Nat) : Int)) ab ((nth Ms (nth x.e.L i).a.toNat).L.take (q + 1))).length := by rw [hnx, List.length_append]; rfl
                rw [eln, ← hnx] at hM
                refine ⟨(q + 1, la2, lc2), ⟨rfl, rfl, rfl, rfl, rfl, rfl, rfl, rfl, rfl, rfl, rfl, rfl, rfl, rfl, rfl, rfl, rfl, rfl, rfl, rfl, rfl, R.viaS rfl (by dsimp only; rw [hnx, List.length_append]; rfl), rfl, rfl, R.viaI rfl (by dsimp only; omega), trivial⟩, ⟨by dsimp only; omega, hM⟩, by dsimp only; omega⟩
              | false =>
                rw [Bool.true_and, hcc, if_neg (by decide), List.append_nil] at hnx
                (refine R.stepN ?_; (repeat' (first | (with_reducible refine And.intro ?_ ?_) | (with_reducible intro _))); all_goals refine R.Lft.mk ?_)
                refine ⟨(q + 1, la, lc), ⟨rfl, rfl, rfl, rfl, rfl, rfl, rfl, rfl, rfl, rfl, rfl, rfl, rfl, rfl, rfl, rfl, rfl, rfl, rfl, rfl, rfl, R.viaS rfl (by dsimp only; rw [hnx]), rfl, rfl, R.viaI rfl (by dsimp only; omega), trivial⟩, ⟨by dsimp only; omega, by dsimp only; rw [hnx]; exact hM⟩, by dsimp only; omega⟩
          · obtain rfl : q = (nth Ms (nth x.e.L i).a.toNat).n := by omega
            rw [show (nth Ms (nth x.e.L i).a.toNat).L.take (nth Ms (nth x.e.L i).a.toNat).n = (nth Ms (nth x.e.L i).a.toNat).L by rw [hWn]; exact List.take_length, ← hrow] at hM ⊢
            (refine R.stepN ?_; (repeat' (first | (with_reducible refine And.intro ?_ ?_) | (with_reducible intro _))); all_goals refine R.Lft.mk ?_)
            have hM := nst_unfocus (pre := [.row la (nth M (2 * i + j)).length lc 61 2 ((nth M (2 * i + j)).flatMap cItem), .row hA (hdM M (2 * i + j)).length hc 3 1 ((hdM M (2 * i + j)).flatMap R.cI), .row wA (wtM M (2 * i + j)).length wc 3 1 ((wtM M (2 * i + j)).flatMap R.cI), .row sA (stM M (2 * i + j)).length sc 3 1 ((stM M (2 * i + j)).flatMap R.cI), .blk gg 34 [.slice sA (stM M (2 * i + j)).length sc, .slice hA (hdM M (2 * i + j)).length hc, .slice wA (wtM M (2 * i + j)).length wc], .row gB 2 cB 4 1 ([(nth x.e.L i).f, (nth x.e.L i).k].flatMap R.cB), .blk ge 55 (cEd (nth x.e.L i)), .map b es clk, .row D m cd 4 1 ((deadL x.e.L m x.e.n).flatMap R.cB), .blk go 34 [.slice none 0 0, .slice none 0 0, .slice none 0 0], .blk gc 29 (cRl r), .blk gn 26 (cNt x), .row A m m 32 1 (Ms.flatMap R.cSl)] ++ gst Gs) hM hNM
            have hP : R.Own [] w _ ((.row la (nth M (2 * i + j)).length lc 61 2 ((nth M (2 * i + j)).flatMap cItem) :: .row gB 2 cB 4 1 ([(nth x.e.L i).f, (nth x.e.L i).k].flatMap R.cB) :: .blk ge 55 (cEd (nth x.e.L i)) :: .map b es clk :: .row D m cd 4 1 ((deadL x.e.L m x.e.n).flatMap R.cB) :: .blk go 34 [.slice none 0 0, .slice none 0 0, .slice none 0 0] :: .blk gc 29 (cRl r) :: .blk gn 26 (cNt x) :: .row A m m 32 1 (Ms.flatMap R.cSl) :: (gst Gs ++ nst 3 1 R.cI Ms)) ++ gRes gg sA hA wA (stM M (2 * i + j)) (hdM M (2 * i + j)) (wtM M (2 * i + j)) sc hc wc) := R.Own.perm hM (List.Perm.cons _ List.perm_append_comm)
            clear hM
            refine R.WO_call2 rfl rfl R.vv R.vv ?_
            have ho2 := off_succ (M := M) (j := 2 * i + j) (by omega)
            have hof2 := hO (2 * i + j + 1) (by omega)
            refine (aadd_any gg sA hA wA _ _ _ sc hc wc ⟨la, (nth M (2 * i + j)).length, lc, nth M (2 * i + j)⟩ _ (R.Own.has hP) (R.Own.inpF hP (.head _)) rfl (by omega) (by omega) (by omega) (by dsimp only; omega)).mono ?_
            rintro _ w8 ⟨rfl, sA2, hA2, wA2, sc2, hc2, wc2, hO8⟩
            have hM := R.Own.callF hP hO8
            clear hP hO8
            have hs2 := stM_succ M (2 * i + j)
            rw [ho2, ← hhl] at hs2
            rw [← hs2, ← hdM_succ (by omega), ← wtM_succ (by omega)] at hM
            refine ⟨_, rfl, ?_⟩
            have hM := (R.Own.tl hM).perm List.perm_append_comm
            (refine R.stepN ?_; (repeat' (first | (with_reducible refine And.intro ?_ ?_) | (with_reducible intro _))); all_goals refine R.Lft.mk ?_)
            exact ⟨(j + 1, sA2, hA2, wA2, sc2, hc2, wc2), ⟨rfl, rfl, rfl, rfl, rfl, rfl, rfl, rfl, rfl, rfl, rfl, rfl, rfl, rfl, rfl, R.viaI rfl (by dsimp only; omega), trivial⟩, ⟨by dsimp only; omega, hM⟩, by dsimp only; omega⟩
      · obtain ⟨ab, hab⟩ : ∃ ab, aboutR (deadL x.e.L m x.e.n) r.p (nth x.e.L i).b.toNat = ab := ⟨_, rfl⟩
        rcases (show r.p = 0 ∨ r.p = 1 ∨ r.p = 2 by omega) with hp | hp | hp
        · have hNM : (nth x.e.L i).b.toNat < Ms.length := by omega
          have hWn := hMn _ (R.nth_mem hNM)
          have hWE : nth lv (nth x.e.L i).b.toNat = (nth Ms (nth x.e.L i).b.toNat).L := by rw [← hMf]; exact nth_mapF hNM
          have hWb := hw.2 _ (R.nth_mem (L := lv) (i := (nth x.e.L i).b.toNat) (by rw [hw.1]; omega))
          rw [hWE] at hWb
          obtain ⟨hWc, hWb⟩ := hWb
          have hrow : nth M (2 * i + j) = turnR x.e.L r.b.L is (2 * (i : Nat) + (j : Nat)) ab (nth Ms (nth x.e.L i).b.toNat).L := by
            rw [← hMM, rowsR_nth (by omega), show (2 * i + j) / 2 = i by omega, show (2 * i + j) % 2 = j by omega]
            unfold rowAtR
            rw [hisE, show headE (nth x.e.L i) j = (nth x.e.L i).b by unfold headE; simp [hj1], hWE, hab]
          (refine R.stepN ?_; (repeat' (first | (with_reducible refine And.intro ?_ ?_) | (with_reducible intro _))); all_goals refine R.Lft.mk ?_)
          have hM := nst_focus (pre := [.row none 0 0 61 2 [], .row hA (hdM M (2 * i + j)).length hc 3 1 ((hdM M (2 * i + j)).flatMap R.cI), .row wA (wtM M (2 * i + j)).length wc 3 1 ((wtM M (2 * i + j)).flatMap R.cI), .row sA (stM M (2 * i + j)).length sc 3 1 ((stM M (2 * i + j)).flatMap R.cI), .blk gg 34 [.slice sA (stM M (2 * i + j)).length sc, .slice hA (hdM M (2 * i + j)).length hc, .slice wA (wtM M (2 * i + j)).length wc], .row gB 2 cB 4 1 ([(nth x.e.L i).f, (nth x.e.L i).k].flatMap R.cB), .blk ge 55 (cEd (nth x.e.L i)), .map b es clk, .row D m cd 4 1 ((deadL x.e.L m x.e.n).flatMap R.cB), .blk go 34 [.slice none 0 0, .slice none 0 0, .slice none 0 0], .blk gc 29 (cRl r), .blk gn 26 (cNt x), .row A m m 32 1 (Ms.flatMap R.cSl)] ++ gst Gs) (R.Own.nil (show R.Own [] w _ (.row hA (hdM M (2 * i + j)).length hc 3 1 ((hdM M (2 * i + j)).flatMap R.cI) :: .row wA (wtM M (2 * i + j)).length wc 3 1 ((wtM M (2 * i + j)).flatMap R.cI) :: .row sA (stM M (2 * i + j)).length sc 3 1 ((stM M (2 * i + j)).flatMap R.cI) :: .blk gg 34 [.slice sA (stM M (2 * i + j)).length sc, .slice hA (hdM M (2 * i + j)).length hc, .slice wA (wtM M (2 * i + j)).length wc] :: .row gB 2 cB 4 1 ([(nth x.e.L i).f, (nth x.e.L i).k].flatMap R.cB) :: .blk ge 55 (cEd (nth x.e.L i)) :: .map b es clk :: .row D m cd 4 1 ((deadL x.e.L m x.e.n).flatMap R.cB) :: .blk go 34 [.slice none 0 0, .slice none 0 0, .slice none 0 0] :: .blk gc 29 (cRl r) :: .blk gn 26 (cNt x) :: .row A m m 32 1 (Ms.flatMap R.cSl) :: (gst Gs ++ nst 3 1 R.cI Ms)) from R.ohm) 61 2) hNM
          refine R.WC_loop (fun q : Nat × Option Addr × Nat => [(2, .pointer (some ⟨gn, 0, none⟩)), (3, .pointer (some ⟨gc, 0, none⟩)), (4, .pointer (some ⟨go, 0, none⟩)), (5, .int .i64 0), (6, .pointer (some ⟨gg, 0, none⟩)), (7, .slice D m cd), (8, .slice A m m), (9, .map (some b)), (42, .slice x.e.A x.e.n x.e.c), (43, .int .i64 (x.e.n : Nat)), (44, .int .i64 (i : Nat)), (10, .int .i64 (i : Nat)), (11, .pointer (some ⟨ge, 0, none⟩)), (53, .slice gB 2 cB), (54, .int .i64 2), (55, .int .i64 (j : Nat)), (12, .int .i64 (j : Nat)), (13, .bool is), (14, .int .i64 (2 * (i : Nat) + (j : Nat))), (15, .int .i64 (nth x.e.L i).b), (16, .bool ab), (17, .slice q.2.1 (turnR x.e.L r.b.L is (2 * (i : Nat) + (j : Nat)) ab ((nth Ms (nth x.e.L i).b.toNat).L.take q.1)).length q.2.2), (87, .slice (nth Ms (nth x.e.L i).b.toNat).A (nth Ms (nth x.e.L i).b.toNat).n (nth Ms (nth x.e.L i).b.toNat).c), (88, .int .i64 ((nth Ms (nth x.e.L i).b.toNat).n : Nat)), (89, .int .i64 (q.1 : Nat))])
            (fun q w2 => q.1 ≤ (nth Ms (nth x.e.L i).b.toNat).n ∧ R.Own [] w w2 (.row (nth Ms (nth x.e.L i).b.toNat).A (nth Ms (nth x.e.L i).b.toNat).n (nth Ms (nth x.e.L i).b.toNat).c 3 1 ((nth Ms (nth x.e.L i).b.toNat).L.flatMap R.cI) :: .row q.2.1 (turnR x.e.L r.b.L is (2 * (i : Nat) + (j : Nat)) ab ((nth Ms (nth x.e.L i).b.toNat).L.take q.1)).length q.2.2 61 2 ((turnR x.e.L r.b.L is (2 * (i : Nat) + (j : Nat)) ab ((nth Ms (nth x.e.L i).b.toNat).L.take q.1)).flatMap cItem) :: .row hA (hdM M (2 * i + j)).length hc 3 1 ((hdM M (2 * i + j)).flatMap R.cI) :: .row wA (wtM M (2 * i + j)).length wc 3 1 ((wtM M (2 * i + j)).flatMap R.cI) :: .row sA (stM M (2 * i + j)).length sc 3 1 ((stM M (2 * i + j)).flatMap R.cI) :: .blk gg 34 [.slice sA (stM M (2 * i + j)).length sc, .slice hA (hdM M (2 * i + j)).length hc, .slice wA (wtM M (2 * i + j)).length wc] :: .row gB 2 cB 4 1 ([(nth x.e.L i).f, (nth x.e.L i).k].flatMap R.cB) :: .blk ge 55 (cEd (nth x.e.L i)) :: .map b es clk :: .row D m cd 4 1 ((deadL x.e.L m x.e.n).flatMap R.cB) :: .blk go 34 [.slice none 0 0, .slice none 0 0, .slice none 0 0] :: .blk gc 29 (cRl r) :: .blk gn 26 (cNt x) :: .row A m m 32 1 (Ms.flatMap R.cSl) :: (gst Gs ++ (nst 3 1 R.cI (Ms.take (nth x.e.L i).b.toNat) ++ nst 3 1 R.cI (Ms.drop ((nth x.e.L i).b.toNat + 1)))))) (fun q => (nth Ms (nth x.e.L i).b.toNat).n - q.1)
            ⟨(0, none, 0), ⟨rfl, rfl, rfl, rfl, rfl, rfl, rfl, rfl, rfl, rfl, rfl, rfl, rfl, rfl, rfl, rfl, rfl, R.viaB rfl his, rfl, rfl, R.viaB (a := false) rfl (by rw [← hab]; unfold aboutR; simp [hp]), rfl, rfl, rfl, rfl, trivial⟩, Nat.zero_le _, hM⟩ ?_
          clear hM
          rintro ⟨q, la, lc⟩ f w7 ⟨hq, hM⟩
          dsimp only at hq hM ⊢
          by_cases hql : q < (nth Ms (nth x.e.L i).b.toNat).n
          · obtain ⟨y1, y2⟩ := hWb _ (R.nth_mem (L := (nth Ms (nth x.e.L i).b.toNat).L) (i := q) (by omega))
            have hnx := turnR_next (E := x.e.L) (L := r.b.L) (is := is) (v := 2 * ((i : Nat) : Int) + ((j : Nat) : Int)) (ab := ab) (W := (nth Ms (nth x.e.L i).b.toNat).L) (q := q) (by omega)
            have htl := turnR_le (E := x.e.L) (L := r.b.L) is (2 * ((i : Nat) : Int) + ((j : Nat) : Int)) ab ((nth Ms (nth x.e.L i).b.toNat).L.take q)
            rw [List.length_take] at htl
            cases is with
            | false =>
              rw [Bool.false_and, if_neg (by decide), List.append_nil] at hnx
              (refine R.stepN ?_; (repeat' (first | (with_reducible refine And.intro ?_ ?_) | (with_reducible intro _))); all_goals refine R.Lft.mk ?_)
              refine ⟨(q + 1, la, lc), ⟨rfl, rfl, rfl, rfl, rfl, rfl, rfl, rfl, rfl, rfl, rfl, rfl, rfl, rfl, rfl, rfl, rfl, rfl, rfl, rfl, rfl, R.viaS rfl (by dsimp only; rw [hnx]), rfl, rfl, R.viaI rfl (by dsimp only; omega), trivial⟩, ⟨by dsimp only; omega, by dsimp only; rw [hnx]; exact R.ohm⟩, by dsimp only; omega⟩
            | true =>
              (refine R.stepN ?_; (repeat' (first | (with_reducible refine And.intro ?_ ?_) | (with_reducible intro _))); all_goals refine R.Lft.mk ?_)
              refine R.WO_lkK rfl rfl rfl (by unfold In64; omega) R.ohm R.memb hS.out ?_
              (refine R.stepN ?_; (repeat' (first | (with_reducible refine And.intro ?_ ?_) | (with_reducible intro _))); all_goals refine R.Lft.mk ?_)
              refine R.WO_call4 rfl rfl R.vv R.vv R.vv R.vv ?_
              have hP := own_out (P := [.row (nth Ms (nth x.e.L i).b.toNat).A (nth Ms (nth x.e.L i).b.toNat).n (nth Ms (nth x.e.L i).b.toNat).c 3 1 ((nth Ms (nth x.e.L i).b.toNat).L.flatMap R.cI), .row la (turnR x.e.L r.b.L true (2 * (i : Nat) + (j : Nat)) ab ((nth Ms (nth x.e.L i).b.toNat).L.take q)).length lc 61 2 ((turnR x.e.L r.b.L true (2 * (i : Nat) + (j : Nat)) ab ((nth Ms (nth x.e.L i).b.toNat).L.take q)).flatMap cItem), .row hA (hdM M (2 * i + j)).length hc 3 1 ((hdM M (2 * i + j)).flatMap R.cI), .row wA (wtM M (2 * i + j)).length wc 3 1 ((wtM M (2 * i + j)).flatMap R.cI), .row sA (stM M (2 * i + j)).length sc 3 1 ((stM M (2 * i + j)).flatMap R.cI), .blk gg 34 [.slice sA (stM M (2 * i + j)).length sc, .slice hA (hdM M (2 * i + j)).length hc, .slice wA (wtM M (2 * i + j)).length wc], .row gB 2 cB 4 1 ([(nth x.e.L i).f, (nth x.e.L i).k].flatMap R.cB), .blk ge 55 (cEd (nth x.e.L i)), .map b es clk, .row D m cd 4 1 ((deadL x.e.L m x.e.n).flatMap R.cB), .blk go 34 [.slice none 0 0, .slice none 0 0, .slice none 0 0], .blk gc 29 (cRl r), .blk gn 26 (cNt x), .row A m m 32 1 (Ms.flatMap R.cSl)]) (show R.Own [] w _ (.row (nth Ms (nth x.e.L i).b.toNat).A (nth Ms (nth x.e.L i).b.toNat).n (nth Ms (nth x.e.L i).b.toNat).c 3 1 ((nth Ms (nth x.e.L i).b.toNat).L.flatMap R.cI) :: .row la (turnR x.e.L r.b.L true (2 * (i : Nat) + (j : Nat)) ab ((nth Ms (nth x.e.L i).b.toNat).L.take q)).length lc 61 2 ((turnR x.e.L r.b.L true (2 * (i : Nat) + (j : Nat)) ab ((nth Ms (nth x.e.L i).b.toNat).L.take q)).flatMap cItem) :: .row hA (hdM M (2 * i + j)).length hc 3 1 ((hdM M (2 * i + j)).flatMap R.cI) :: .row wA (wtM M (2 * i + j)).length wc 3 1 ((wtM M (2 * i + j)).flatMap R.cI) :: .row sA (stM M (2 * i + j)).length sc 3 1 ((stM M (2 * i + j)).flatMap R.cI) :: .blk gg 34 [.slice sA (stM M (2 * i + j)).length sc, .slice hA (hdM M (2 * i + j)).length hc, .slice wA (wtM M (2 * i + j)).length wc] :: .row gB 2 cB 4 1 ([(nth x.e.L i).f, (nth x.e.L i).k].flatMap R.cB) :: .blk ge 55 (cEd (nth x.e.L i)) :: .map b es clk :: .row D m cd 4 1 ((deadL x.e.L m x.e.n).flatMap R.cB) :: .blk go 34 [.slice none 0 0, .slice none 0 0, .slice none 0 0] :: .blk gc 29 (cRl r) :: .blk gn 26 (cNt x) :: .row A m m 32 1 (Ms.flatMap R.cSl) :: (gst Gs ++ (nst 3 1 R.cI (Ms.take (nth x.e.L i).b.toNat) ++ nst 3 1 R.cI (Ms.drop ((nth x.e.L i).b.toNat + 1))))) from R.ohm)
              refine (said_call r.b.L r.b.n r.b.n Gs es clk hS hrn hL64 (2 * ((i : Nat) : Int) + ((j : Nat) : Int)) (nth (nth Ms (nth x.e.L i).b.toNat).L q) ab _ (R.Own.has hP) (by omega) (by omega) (by unfold In64; omega) (by unfold In64; omega)).mono ?_
              rintro _ w8 ⟨rfl, hO8⟩
              have hM : R.Own [] w w8 (.row (nth Ms (nth x.e.L i).b.toNat).A (nth Ms (nth x.e.L i).b.toNat).n (nth Ms (nth x.e.L i).b.toNat).c 3 1 ((nth Ms (nth x.e.L i).b.toNat).L.flatMap R.cI) :: .row la (turnR x.e.L r.b.L true (2 * (i : Nat) + (j : Nat)) ab ((nth Ms (nth x.e.L i).b.toNat).L.take q)).length lc 61 2 ((turnR x.e.L r.b.L true (2 * (i : Nat) + (j : Nat)) ab ((nth Ms (nth x.e.L i).b.toNat).L.take q)).flatMap cItem) :: .row hA (hdM M (2 * i + j)).length hc 3 1 ((hdM M (2 * i + j)).flatMap R.cI) :: .row wA (wtM M (2 * i + j)).length wc 3 1 ((wtM M (2 * i + j)).flatMap R.cI) :: .row sA (stM M (2 * i + j)).length sc 3 1 ((stM M (2 * i + j)).flatMap R.cI) :: .blk gg 34 [.slice sA (stM M (2 * i + j)).length sc, .slice hA (hdM M (2 * i + j)).length hc, .slice wA (wtM M (2 * i + j)).length wc] :: .row gB 2 cB 4 1 ([(nth x.e.L i).f, (nth x.e.L i).k].flatMap R.cB) :: .blk ge 55 (cEd (nth x.e.L i)) :: .map b es clk :: .row D m cd 4 1 ((deadL x.e.L m x.e.n).flatMap R.cB) :: .blk go 34 [.slice none 0 0, .slice none 0 0, .slice none 0 0] :: .blk gc 29 (cRl r) :: .blk gn 26 (cNt x) :: .row A m m 32 1 (Ms.flatMap R.cSl) :: (gst Gs ++ (nst 3 1 R.cI (Ms.take (nth x.e.L i).b.toNat) ++ nst 3 1 R.cI (Ms.drop ((nth x.e.L i).b.toNat + 1))))) := own_in (P := [.row (nth Ms (nth x.e.L i).b.toNat).A (nth Ms (nth x.e.L i).b.toNat).n (nth Ms (nth x.e.L i).b.toNat).c 3 1 ((nth Ms (nth x.e.L i).b.toNat).L.flatMap R.cI), .row la (turnR x.e.L r.b.L true (2 * (i : Nat) + (j : Nat)) ab ((nth Ms (nth x.e.L i).b.toNat).L.take q)).length lc 61 2 ((turnR x.e.L r.b.L true (2 * (i : Nat) + (j : Nat)) ab ((nth Ms (nth x.e.L i).b.toNat).L.take q)).flatMap cItem), .row hA (hdM M (2 * i + j)).length hc 3 1 ((hdM M (2 * i + j)).flatMap R.cI), .row wA (wtM M (2 * i + j)).length wc 3 1 ((wtM M (2 * i + j)).flatMap R.cI), .row sA (stM M (2 * i + j)).length sc 3 1 ((stM M (2 * i + j)).flatMap R.cI), .blk gg 34 [.slice sA (stM M (2 * i + j)).length sc, .slice hA (hdM M (2 * i + j)).length hc, .slice wA (wtM M (2 * i + j)).length wc], .row gB 2 cB 4 1 ([(nth x.e.L i).f, (nth x.e.L i).k].flatMap R.cB), .blk ge 55 (cEd (nth x.e.L i)), .map b es clk, .row D m cd 4 1 ((deadL x.e.L m x.e.n).flatMap R.cB), .blk go 34 [.slice none 0 0, .slice none 0 0, .slice none 0 0], .blk gc 29 (cRl r), .blk gn 26 (cNt x), .row A m m 32 1 (Ms.flatMap R.cSl)]) (R.Own.callF hP hO8)
              clear hP hO8
              refine ⟨_, rfl, ?_⟩
              cases hcc : mayV r.b.L (2 * ((i : Nat) : Int) + ((j : Nat) : Int)) (nth (nth Ms (nth x.e.L i).b.toNat).L q) ab with
              | true =>
                rw [Bool.true_and, hcc, if_pos rfl] at hnx
                (refine R.stepN ?_; (repeat' (first | (with_reducible refine And.intro ?_ ?_) | (with_reducible intro _))); all_goals refine R.Lft.mk ?_)
                rename_i la2 lc2 _ hM
                have eln : (turnR x.e.L r.b.L true (2 * ((i : Nat) : Int) + ((j : Nat) : Int)) ab ((nth Ms (nth x.e.L i).b.toNat).L.take q)).length + 1 = (turnR x.e.L r.b.L true (2 * ((i : Nat) : Int) + ((j : Nat) : Int)) ab ((nth Ms (nth x.e.L i).b.toNat).L.take (q + 1))).length := by rw [hnx, List.length_append]; rfl
                rw [eln, ← hnx] at hM
                refine ⟨(q + 1, la2, lc2), ⟨rfl, rfl, rfl, rfl, rfl, rfl, rfl, rfl, rfl, rfl, rfl, rfl, rfl, rfl, rfl, rfl, rfl, rfl, rfl, rfl, rfl, R.viaS rfl (by dsimp only; rw [hnx, List.length_append]; rfl), rfl, rfl, R.viaI rfl (by dsimp only; omega), trivial⟩, ⟨by dsimp only; omega, hM⟩, by dsimp only; omega⟩
              | false =>
                rw [Bool.true_and, hcc, if_neg (by decide), List.append_nil] at hnx
                (refine R.stepN ?_; (repeat' (first | (with_reducible refine And.intro ?_ ?_) | (with_reducible intro _))); all_goals refine R.Lft.mk ?_)
                refine ⟨(q + 1, la, lc), ⟨rfl, rfl, rfl, rfl, rfl, rfl, rfl, rfl, rfl, rfl, rfl, rfl, rfl, rfl, rfl, rfl, rfl, rfl, rfl, rfl, rfl, R.viaS rfl (by dsimp only; rw [hnx]), rfl, rfl, R.viaI rfl (by dsimp only; omega), trivial⟩, ⟨by dsimp only; omega, by dsimp only; rw [hnx]; exact hM⟩, by dsimp only; omega⟩
          · obtain rfl : q = (nth Ms (nth x.e.L i).b.toNat).n := by omega
            rw [show (nth Ms (nth x.e.L i).b.toNat).L.take (nth Ms (nth x.e.L i).b.toNat).n = (nth Ms (nth x.e.L i).b.toNat).L by rw [hWn]; exact List.take_length, ← hrow] at hM ⊢
            (refine R.stepN ?_; (repeat' (first | (with_reducible refine And.intro ?_ ?_) | (with_reducible intro _))); all_goals refine R.Lft.mk ?_)
            have hM := nst_unfocus (pre := [.row la (nth M (2 * i + j)).length lc 61 2 ((nth M (2 * i + j)).flatMap cItem), .row hA (hdM M (2 * i + j)).length hc 3 1 ((hdM M (2 * i + j)).flatMap R.cI), .row wA (wtM M (2 * i + j)).length wc 3 1 ((wtM M (2 * i + j)).flatMap R.cI), .row sA (stM M (2 * i + j)).length sc 3 1 ((stM M (2 * i + j)).flatMap R.cI), .blk gg 34 [.slice sA (stM M (2 * i + j)).length sc, .slice hA (hdM M (2 * i + j)).length hc, .slice wA (wtM M (2 * i + j)).length wc], .row gB 2 cB 4 1 ([(nth x.e.L i).f, (nth x.e.L i).k].flatMap R.cB), .blk ge 55 (cEd (nth x.e.L i)), .map b es clk, .row D m cd 4 1 ((deadL x.e.L m x.e.n).flatMap R.cB), .blk go 34 [.slice none 0 0, .slice none 0 0, .slice none 0 0], .blk gc 29 (cRl r), .blk gn 26 (cNt x), .row A m m 32 1 (Ms.flatMap R.cSl)] ++ gst Gs) hM hNM
            have hP : R.Own [] w _ ((.row la (nth M (2 * i + j)).length lc 61 2 ((nth M (2 * i + j)).flatMap cItem) :: .row gB 2 cB 4 1 ([(nth x.e.L i).f, (nth x.e.L i).k].flatMap R.cB) :: .blk ge 55 (cEd (nth x.e.L i)) :: .map b es clk :: .row D m cd 4 1 ((deadL x.e.L m x.e.n).flatMap R.cB) :: .blk go 34 [.slice none 0 0, .slice none 0 0, .slice none 0 0] :: .blk gc 29 (cRl r) :: .blk gn 26 (cNt x) :: .row A m m 32 1 (Ms.flatMap R.cSl) :: (gst Gs ++ nst 3 1 R.cI Ms)) ++ gRes gg sA hA wA (stM M (2 * i + j)) (hdM M (2 * i + j)) (wtM M (2 * i + j)) sc hc wc) := R.Own.perm hM (List.Perm.cons _ List.perm_append_comm)
            clear hM
            refine R.WO_call2 rfl rfl R.vv R.vv ?_
            have ho2 := off_succ (M := M) (j := 2 * i + j) (by omega)
            have hof2 := hO (2 * i + j + 1) (by omega)
            refine (aadd_any gg sA hA wA _ _ _ sc hc wc ⟨la, (nth M (2 * i + j)).length, lc, nth M (2 * i + j)⟩ _ (R.Own.has hP) (R.Own.inpF hP (.head _)) rfl (by omega) (by omega) (by omega) (by dsimp only; omega)).mono ?_
            rintro _ w8 ⟨rfl, sA2, hA2, wA2, sc2, hc2, wc2, hO8⟩
            have hM := R.Own.callF hP hO8
            clear hP hO8
            have hs2 := stM_succ M (2 * i + j)
            rw [ho2, ← hhl] at hs2
            rw [← hs2, ← hdM_succ (by omega), ← wtM_succ (by omega)] at hM
            refine ⟨_, rfl, ?_⟩
            have hM := (R.Own.tl hM).perm List.perm_append_comm
            (refine R.stepN ?_; (repeat' (first | (with_reducible refine And.intro ?_ ?_) | (with_reducible intro _))); all_goals refine R.Lft.mk ?_)
            exact ⟨(j + 1, sA2, hA2, wA2, sc2, hc2, wc2), ⟨rfl, rfl, rfl, rfl, rfl, rfl, rfl, rfl, rfl, rfl, rfl, rfl, rfl, rfl, rfl, R.viaI rfl (by dsimp only; omega), trivial⟩, ⟨by dsimp only; omega, hM⟩, by dsimp only; omega⟩
        · have hNM : (nth x.e.L i).b.toNat < Ms.length := by omega
          have hWn := hMn _ (R.nth_mem hNM)
          have hWE : nth lv (nth x.e.L i).b.toNat = (nth Ms (nth x.e.L i).b.toNat).L := by rw [← hMf]; exact nth_mapF hNM
          have hWb := hw.2 _ (R.nth_mem (L := lv) (i := (nth x.e.L i).b.toNat) (by rw [hw.1]; omega))
          rw [hWE] at hWb
          obtain ⟨hWc, hWb⟩ := hWb
          have hrow : nth M (2 * i + j) = turnR x.e.L r.b.L is (2 * (i : Nat) + (j : Nat)) ab (nth Ms (nth x.e.L i).b.toNat).L := by
            rw [← hMM, rowsR_nth (by omega), show (2 * i + j) / 2 = i by omega, show (2 * i + j) % 2 = j by omega]
            unfold rowAtR
            rw [hisE, show headE (nth x.e.L i) j = (nth x.e.L i).b by unfold headE; simp [hj1], hWE, hab]
          (refine R.stepN ?_; (repeat' (first | (with_reducible refine And.intro ?_ ?_) | (with_reducible intro _))); all_goals refine R.Lft.mk ?_)
          have hM := nst_focus (pre := [.row none 0 0 61 2 [], .row hA (hdM M (2 * i + j)).length hc 3 1 ((hdM M (2 * i + j)).flatMap R.cI), .row wA (wtM M (2 * i + j)).length wc 3 1 ((wtM M (2 * i + j)).flatMap R.cI), .row sA (stM M (2 * i + j)).length sc 3 1 ((stM M (2 * i + j)).flatMap R.cI), .blk gg 34 [.slice sA (stM M (2 * i + j)).length sc, .slice hA (hdM M (2 * i + j)).length hc, .slice wA (wtM M (2 * i + j)).length wc], .row gB 2 cB 4 1 ([(nth x.e.L i).f, (nth x.e.L i).k].flatMap R.cB), .blk ge 55 (cEd (nth x.e.L i)), .map b es clk, .row D m cd 4 1 ((deadL x.e.L m x.e.n).flatMap R.cB), .blk go 34 [.slice none 0 0, .slice none 0 0, .slice none 0 0], .blk gc 29 (cRl r), .blk gn 26 (cNt x), .row A m m 32 1 (Ms.flatMap R.cSl)] ++ gst Gs) (R.Own.nil (show R.Own [] w _ (.row hA (hdM M (2 * i + j)).length hc 3 1 ((hdM M (2 * i + j)).flatMap R.cI) :: .row wA (wtM M (2 * i + j)).length wc 3 1 ((wtM M (2 * i + j)).flatMap R.cI) :: .row sA (stM M (2 * i + j)).length sc 3 1 ((stM M (2 * i + j)).flatMap R.cI) :: .blk gg 34 [.slice sA (stM M (2 * i + j)).length sc, .slice hA (hdM M (2 * i + j)).length hc, .slice wA (wtM M (2 * i + j)).length wc] :: .row gB 2 cB 4 1 ([(nth x.e.L i).f, (nth x.e.L i).k].flatMap R.cB) :: .blk ge 55 (cEd (nth x.e.L i)) :: .map b es clk :: .row D m cd 4 1 ((deadL x.e.L m x.e.n).flatMap R.cB) :: .blk go 34 [.slice none 0 0, .slice none 0 0, .slice none 0 0] :: .blk gc 29 (cRl r) :: .blk gn 26 (cNt x) :: .row A m m 32 1 (Ms.flatMap R.cSl) :: (gst Gs ++ nst 3 1 R.cI Ms)) from R.ohm) 61 2) hNM
          refine R.WC_loop (fun q : Nat × Option Addr × Nat => [(2, .pointer (some ⟨gn, 0, none⟩)), (3, .pointer (some ⟨gc, 0, none⟩)), (4, .pointer (some ⟨go, 0, none⟩)), (5, .int .i64 0), (6, .pointer (some ⟨gg, 0, none⟩)), (7, .slice D m cd), (8, .slice A m m), (9, .map (some b)), (42, .slice x.e.A x.e.n x.e.c), (43, .int .i64 (x.e.n : Nat)), (44, .int .i64 (i : Nat)), (10, .int .i64 (i : Nat)), (11, .pointer (some ⟨ge, 0, none⟩)), (53, .slice gB 2 cB), (54, .int .i64 2), (55, .int .i64 (j : Nat)), (12, .int .i64 (j : Nat)), (13, .bool is), (14, .int .i64 (2 * (i : Nat) + (j : Nat))), (15, .int .i64 (nth x.e.L i).b), (16, .bool ab), (17, .slice q.2.1 (turnR x.e.L r.b.L is (2 * (i : Nat) + (j : Nat)) ab ((nth Ms (nth x.e.L i).b.toNat).L.take q.1)).length q.2.2), (87, .slice (nth Ms (nth x.e.L i).b.toNat).A (nth Ms (nth x.e.L i).b.toNat).n (nth Ms (nth x.e.L i).b.toNat).c), (88, .int .i64 ((nth Ms (nth x.e.L i).b.toNat).n : Nat)), (89, .int .i64 (q.1 : Nat))])
            (fun q w2 => q.1 ≤ (nth Ms (nth x.e.L i).b.toNat).n ∧ R.Own [] w w2 (.row (nth Ms (nth x.e.L i).b.toNat).A (nth Ms (nth x.e.L i).b.toNat).n (nth Ms (nth x.e.L i).b.toNat).c 3 1 ((nth Ms (nth x.e.L i).b.toNat).L.flatMap R.cI) :: .row q.2.1 (turnR x.e.L r.b.L is (2 * (i : Nat) + (j : Nat)) ab ((nth Ms (nth x.e.L i).b.toNat).L.take q.1)).length q.2.2 61 2 ((turnR x.e.L r.b.L is (2 * (i : Nat) + (j : Nat)) ab ((nth Ms (nth x.e.L i).b.toNat).L.take q.1)).flatMap cItem) :: .row hA (hdM M (2 * i + j)).length hc 3 1 ((hdM M (2 * i + j)).flatMap R.cI) :: .row wA (wtM M (2 * i + j)).length wc 3 1 ((wtM M (2 * i + j)).flatMap R.cI) :: .row sA (stM M (2 * i + j)).length sc 3 1 ((stM M (2 * i + j)).flatMap R.cI) :: .blk gg 34 [.slice sA (stM M (2 * i + j)).length sc, .slice hA (hdM M (2 * i + j)).length hc, .slice wA (wtM M (2 * i + j)).length wc] :: .row gB 2 cB 4 1 ([(nth x.e.L i).f, (nth x.e.L i).k].flatMap R.cB) :: .blk ge 55 (cEd (nth x.e.L i)) :: .map b es clk :: .row D m cd 4 1 ((deadL x.e.L m x.e.n).flatMap R.cB) :: .blk go 34 [.slice none 0 0, .slice none 0 0, .slice none 0 0] :: .blk gc 29 (cRl r) :: .blk gn 26 (cNt x) :: .row A m m 32 1 (Ms.flatMap R.cSl) :: (gst Gs ++ (nst 3 1 R.cI (Ms.take (nth x.e.L i).b.toNat) ++ nst 3 1 R.cI (Ms.drop ((nth x.e.L i).b.toNat + 1)))))) (fun q => (nth Ms (nth x.e.L i).b.toNat).n - q.1)
            ⟨(0, none, 0), ⟨rfl, rfl, rfl, rfl, rfl, rfl, rfl, rfl, rfl, rfl, rfl, rfl, rfl, rfl, rfl, rfl, rfl, R.viaB rfl his, rfl, rfl, R.viaB (a := nth (deadL x.e.L m x.e.n) (nth x.e.L i).b.toNat) rfl (by rw [← hab]; unfold aboutR; simp [hp]), rfl, rfl, rfl, rfl, trivial⟩, Nat.zero_le _, hM⟩ ?_
          clear hM
          rintro ⟨q, la, lc⟩ f w7 ⟨hq, hM⟩
          dsimp only at hq hM ⊢
          by_cases hql : q < (nth Ms (nth x.e.L i).b.toNat).n
          · obtain ⟨y1, y2⟩ := hWb _ (R.nth_mem (L := (nth Ms (nth x.e.L i).b.toNat).L) (i := q) (by omega))
            have hnx := turnR_next (E := x.e.L) (L := r.b.L) (is := is) (v := 2 * ((i : Nat) : Int) + ((j : Nat) : Int)) (ab := ab) (W := (nth Ms (nth x.e.L i).b.toNat).L) (q := q) (by omega)
            have htl := turnR_le (E := x.e.L) (L := r.b.L) is (2 * ((i : Nat) : Int) + ((j : Nat) : Int)) ab ((nth Ms (nth x.e.L i).b.toNat).L.take q)
            rw [List.length_take] at htl
            cases is with
            | false =>
              rw [Bool.false_and, if_neg (by decide), List.append_nil] at hnx
              (refine R.stepN ?_; (repeat' (first | (with_reducible refine And.intro ?_ ?_) | (with_reducible intro _))); all_goals refine R.Lft.mk ?_)
              refine ⟨(q + 1, la, lc), ⟨rfl, rfl, rfl, rfl, rfl, rfl, rfl, rfl, rfl, rfl, rfl, rfl, rfl, rfl, rfl, rfl, rfl, rfl, rfl, rfl, rfl, R.viaS rfl (by dsimp only; rw [hnx]), rfl, rfl, R.viaI rfl (by dsimp only; omega), trivial⟩, ⟨by dsimp only; omega, by dsimp only; rw [hnx]; exact R.ohm⟩, by dsimp only; omega⟩
            | true =>
              (refine R.stepN ?_; (repeat' (first | (with_reducible refine And.intro ?_ ?_) | (with_reducible intro _))); all_goals refine R.Lft.mk ?_)
              refine R.WO_lkK rfl rfl rfl (by unfold In64; omega) R.ohm R.memb hS.out ?_
              (refine R.stepN ?_; (repeat' (first | (with_reducible refine And.intro ?_ ?_) | (with_reducible intro _))); all_goals refine R.Lft.mk ?_)
              refine R.WO_call4 rfl rfl R.vv R.vv R.vv R.vv ?_
              have hP := own_out (P := [.row (nth Ms (nth x.e.L i).b.toNat).A (nth Ms (nth x.e.L i).b.toNat).n (nth Ms (nth x.e.L i).b.toNat).c 3 1 ((nth Ms (nth x.e.L i).b.toNat).L.flatMap R.cI), .row la (turnR x.e.L r.b.L true (2 * (i : Nat) + (j : Nat)) ab ((nth Ms (nth x.e.L i).b.toNat).L.take q)).length lc 61 2 ((turnR x.e.L r.b.L true (2 * (i : Nat) + (j : Nat)) ab ((nth Ms (nth x.e.L i).b.toNat).L.take q)).flatMap cItem), .row hA (hdM M (2 * i + j)).length hc 3 1 ((hdM M (2 * i + j)).flatMap R.cI), .row wA (wtM M (2 * i + j)).length wc 3 1 ((wtM M (2 * i + j)).flatMap R.cI), .row sA (stM M (2 * i + j)).length sc 3 1 ((stM M (2 * i + j)).flatMap R.cI), .blk gg 34 [.slice sA (stM M (2 * i + j)).length sc, .slice hA (hdM M (2 * i + j)).length hc, .slice wA (wtM M (2 * i + j)).length wc], .row gB 2 cB 4 1 ([(nth x.e.L i).f, (nth x.e.L i).k].flatMap R.cB), .blk ge 55 (cEd (nth x.e.L i)), .map b es clk, .row D m cd 4 1 ((deadL x.e.L m x.e.n).flatMap R.cB), .blk go 34 [.slice none 0 0, .slice none 0 0, .slice none 0 0], .blk gc 29 (cRl r), .blk gn 26 (cNt x), .row A m m 32 1 (Ms.flatMap R.cSl)]) (show R.Own [] w _ (.row (nth Ms (nth x.e.L i).b.toNat).A (nth Ms (nth x.e.L i).b.toNat).n (nth Ms (nth x.e.L i).b.toNat).c 3 1 ((nth Ms (nth x.e.L i).b.toNat).L.flatMap R.cI) :: .row la (turnR x.e.L r.b.L true (2 * (i : Nat) + (j : Nat)) ab ((nth Ms (nth x.e.L i).b.toNat).L.take q)).length lc 61 2 ((turnR x.e.L r.b.L true (2 * (i : Nat) + (j : Nat)) ab ((nth Ms (nth x.e.L i).b.toNat).L.take q)).flatMap cItem) :: .row hA (hdM M (2 * i + j)).length hc 3 1 ((hdM M (2 * i + j)).flatMap R.cI) :: .row wA (wtM M (2 * i + j)).length wc 3 1 ((wtM M (2 * i + j)).flatMap R.cI) :: .row sA (stM M (2 * i + j)).length sc 3 1 ((stM M (2 * i + j)).flatMap R.cI) :: .blk gg 34 [.slice sA (stM M (2 * i + j)).length sc, .slice hA (hdM M (2 * i + j)).length hc, .slice wA (wtM M (2 * i + j)).length wc] :: .row gB 2 cB 4 1 ([(nth x.e.L i).f, (nth x.e.L i).k].flatMap R.cB) :: .blk ge 55 (cEd (nth x.e.L i)) :: .map b es clk :: .row D m cd 4 1 ((deadL x.e.L m x.e.n).flatMap R.cB) :: .blk go 34 [.slice none 0 0, .slice none 0 0, .slice none 0 0] :: .blk gc 29 (cRl r) :: .blk gn 26 (cNt x) :: .row A m m 32 1 (Ms.flatMap R.cSl) :: (gst Gs ++ (nst 3 1 R.cI (Ms.take (nth x.e.L i).b.toNat) ++ nst 3 1 R.cI (Ms.drop ((nth x.e.L i).b.toNat + 1))))) from R.ohm)
              refine (said_call r.b.L r.b.n r.b.n Gs es clk hS hrn hL64 (2 * ((i : Nat) : Int) + ((j : Nat) : Int)) (nth (nth Ms (nth x.e.L i).b.toNat).L q) ab _ (R.Own.has hP) (by omega) (by omega) (by unfold In64; omega) (by unfold In64; omega)).mono ?_
              rintro _ w8 ⟨rfl, hO8⟩
              have hM : R.Own [] w w8 (.row (nth Ms (nth x.e.L i).b.toNat).A (nth Ms (nth x.e.L i).b.toNat).n (nth Ms (nth x.e.L i).b.toNat).c 3 1 ((nth Ms (nth x.e.L i).b.toNat).L.flatMap R.cI) :: .row la (turnR x.e.L r.b.L true (2 * (i : Nat) + (j : Nat)) ab ((nth Ms (nth x.e.L i).b.toNat).L.take q)).length lc 61 2 ((turnR x.e.L r.b.L true (2 * (i : Nat) + (j : Nat)) ab ((nth Ms (nth x.e.L i).b.toNat).L.take q)).flatMap cItem) :: .row hA (hdM M (2 * i + j)).length hc 3 1 ((hdM M (2 * i + j)).flatMap R.cI) :: .row wA (wtM M (2 * i + j)).length wc 3 1 ((wtM M (2 * i + j)).flatMap R.cI) :: .row sA (stM M (2 * i + j)).length sc 3 1 ((stM M (2 * i + j)).flatMap R.cI) :: .blk gg 34 [.slice sA (stM M (2 * i + j)).length sc, .slice hA (hdM M (2 * i + j)).length hc, .slice wA (wtM M (2 * i + j)).length wc] :: .row gB 2 cB 4 1 ([(nth x.e.L i).f, (nth x.e.L i).k].flatMap R.cB) :: .blk ge 55 (cEd (nth x.e.L i)) :: .map b es clk :: .row D m cd 4 1 ((deadL x.e.L m x.e.n).flatMap R.cB) :: .blk go 34 [.slice none 0 0, .slice none 0 0, .slice none 0 0] :: .blk gc 29 (cRl r) :: .blk gn 26 (cNt x) :: .row A m m 32 1 (Ms.flatMap R.cSl) :: (gst Gs ++ (nst 3 1 R.cI (Ms.take (nth x.e.L i).b.toNat) ++ nst 3 1 R.cI (Ms.drop ((nth x.e.L i).b.toNat + 1))))) := own_in (P := [.row (nth Ms (nth x.e.L i).b.toNat).A (nth Ms (nth x.e.L i).b.toNat).n (nth Ms (nth x.e.L i).b.toNat).c 3 1 ((nth Ms (nth x.e.L i).b.toNat).L.flatMap R.cI), .row la (turnR x.e.L r.b.L true (2 * (i : Nat) + (j : Nat)) ab ((nth Ms (nth x.e.L i).b.toNat).L.take q)).length lc 61 2 ((turnR x.e.L r.b.L true (2 * (i : Nat) + (j : Nat)) ab ((nth Ms (nth x.e.L i).b.toNat).L.take q)).flatMap cItem), .row hA (hdM M (2 * i + j)).length hc 3 1 ((hdM M (2 * i + j)).flatMap R.cI), .row wA (wtM M (2 * i + j)).length wc 3 1 ((wtM M (2 * i + j)).flatMap R.cI), .row sA (stM M (2 * i + j)).length sc 3 1 ((stM M (2 * i + j)).flatMap R.cI), .blk gg 34 [.slice sA (stM M (2 * i + j)).length sc, .slice hA (hdM M (2 * i + j)).length hc, .slice wA (wtM M (2 * i + j)).length wc], .row gB 2 cB 4 1 ([(nth x.e.L i).f, (nth x.e.L i).k].flatMap R.cB), .blk ge 55 (cEd (nth x.e.L i)), .map b es clk, .row D m cd 4 1 ((deadL x.e.L m x.e.n).flatMap R.cB), .blk go 34 [.slice none 0 0, .slice none 0 0, .slice none 0 0], .blk gc 29 (cRl r), .blk gn 26 (cNt x), .row A m m 32 1 (Ms.flatMap R.cSl)]) (R.Own.callF hP hO8)
              clear hP hO8
              refine ⟨_, rfl, ?_⟩
              cases hcc : mayV r.b.L (2 * ((i : Nat) : Int) + ((j : Nat) : Int)) (nth (nth Ms (nth x.e.L i).b.toNat).L q) ab with
              | true =>
                rw [Bool.true_and, hcc, if_pos rfl] at hnx
                (refine R.stepN ?_; (repeat' (first | (with_reducible refine And.intro ?_ ?_) | (with_reducible intro _))); all_goals refine R.Lft.mk ?_)
                rename_i la2 lc2 _ hM
                have eln : (turnR x.e.L r.b.L true (2 * ((i : Nat) : Int) + ((j : Nat) : Int)) ab ((nth Ms (nth x.e.L i).b.toNat).L.take q)).length + 1 = (turnR x.e.L r.b.L true (2 * ((i : Nat) : Int) + ((j : Nat) : Int)) ab ((nth Ms (nth x.e.L i).b.toNat).L.take (q + 1))).length := by rw [hnx, List.length_append]; rfl
                rw [eln, ← hnx] at hM
                refine ⟨(q + 1, la2, lc2), ⟨rfl, rfl, rfl, rfl, rfl, rfl, rfl, rfl, rfl, rfl, rfl, rfl, rfl, rfl, rfl, rfl, rfl, rfl, rfl, rfl, rfl, R.viaS rfl (by dsimp only; rw [hnx, List.length_append]; rfl), rfl, rfl, R.viaI rfl (by dsimp only; omega), trivial⟩, ⟨by dsimp only; omega, hM⟩, by dsimp only; omega⟩
              | false =>
                rw [Bool.true_and, hcc, if_neg (by decide), List.append_nil] at hnx
                (refine R.stepN ?_; (repeat' (first | (with_reducible refine And.intro ?_ ?_) | (with_reducible intro _))); all_goals refine R.Lft.mk ?_)
                refine ⟨(q + 1, la, lc), ⟨rfl, rfl, rfl, rfl, rfl, rfl, rfl, rfl, rfl, rfl, rfl, rfl, rfl, rfl, rfl, rfl, rfl, rfl, rfl, rfl, rfl, R.viaS rfl (by dsimp only; rw [hnx]), rfl, rfl, R.viaI rfl (by dsimp only; omega), trivial⟩, ⟨by dsimp only; omega, by dsimp only; rw [hnx]; exact hM⟩, by dsimp only; omega⟩
          · obtain rfl : q = (nth Ms (nth x.e.L i).b.toNat).n := by omega
            rw [show (nth Ms (nth x.e.L i).b.toNat).L.take (nth Ms (nth x.e.L i).b.toNat).n = (nth Ms (nth x.e.L i).b.toNat).L by rw [hWn]; exact List.take_length, ← hrow] at hM ⊢
            (refine R.stepN ?_; (repeat' (first | (with_reducible refine And.intro ?_ ?_) | (with_reducible intro _))); all_goals refine R.Lft.mk ?_)
            have hM := nst_unfocus (pre := [.row la (nth M (2 * i + j)).length lc 61 2 ((nth M (2 * i + j)).flatMap cItem), .row hA (hdM M (2 * i + j)).length hc 3 1 ((hdM M (2 * i + j)).flatMap R.cI), .row wA (wtM M (2 * i + j)).length wc 3 1 ((wtM M (2 * i + j)).flatMap R.cI), .row sA (stM M (2 * i + j)).length sc 3 1 ((stM M (2 * i + j)).flatMap R.cI), .blk gg 34 [.slice sA (stM M (2 * i + j)).length sc, .slice hA (hdM M (2 * i + j)).length hc, .slice wA (wtM M (2 * i + j)).length wc], .row gB 2 cB 4 1 ([(nth x.e.L i).f, (nth x.e.L i).k].flatMap R.cB), .blk ge 55 (cEd (nth x.e.L i)), .map b es clk, .row D m cd 4 1 ((deadL x.e.L m x.e.n).flatMap R.cB), .blk go 34 [.slice none 0 0, .slice none 0 0, .slice none 0 0], .blk gc 29 (cRl r), .blk gn 26 (cNt x), .row A m m 32 1 (Ms.flatMap R.cSl)] ++ gst Gs) hM hNM
            have hP : R.Own [] w _ ((.row la (nth M (2 * i + j)).length lc 61 2 ((nth M (2 * i + j)).flatMap cItem) :: .row gB 2 cB 4 1 ([(nth x.e.L i).f, (nth x.e.L i).k].flatMap R.cB) :: .blk ge 55 (cEd (nth x.e.L i)) :: .map b es clk :: .row D m cd 4 1 ((deadL x.e.L m x.e.n).flatMap R.cB) :: .blk go 34 [.slice none 0 0, .slice none 0 0, .slice none 0 0] :: .blk gc 29 (cRl r) :: .blk gn 26 (cNt x) :: .row A m m 32 1 (Ms.flatMap R.cSl) :: (gst Gs ++ nst 3 1 R.cI Ms)) ++ gRes gg sA hA wA (stM M (2 * i + j)) (hdM M (2 * i + j)) (wtM M (2 * i + j)) sc hc wc) := R.Own.perm hM (List.Perm.cons _ List.perm_append_comm)
            clear hM
            refine R.WO_call2 rfl rfl R.vv R.vv ?_
            have ho2 := off_succ (M := M) (j := 2 * i + j) (by omega)
            have hof2 := hO (2 * i + j + 1) (by omega)
            refine (aadd_any gg sA hA wA _ _ _ sc hc wc ⟨la, (nth M (2 * i + j)).length, lc, nth M (2 * i + j)⟩ _ (R.Own.has hP) (R.Own.inpF hP (.head _)) rfl (by omega) (by omega) (by omega) (by dsimp only; omega)).mono ?_
            rintro _ w8 ⟨rfl, sA2, hA2, wA2, sc2, hc2, wc2, hO8⟩
            have hM := R.Own.callF hP hO8
            clear hP hO8
            have hs2 := stM_succ M (2 * i + j)
            rw [ho2, ← hhl] at hs2
            rw [← hs2, ← hdM_succ (by omega), ← wtM_succ (by omega)] at hM
            refine ⟨_, rfl, ?_⟩
            have hM := (R.Own.tl hM).perm List.perm_append_comm
            (refine R.stepN ?_; (repeat' (first | (with_reducible refine And.intro ?_ ?_) | (with_reducible intro _))); all_goals refine R.Lft.mk ?_)
            exact ⟨(j + 1, sA2, hA2, wA2, sc2, hc2, wc2), ⟨rfl, rfl, rfl, rfl, rfl, rfl, rfl, rfl, rfl, rfl, rfl, rfl, rfl, rfl, rfl, R.viaI rfl (by dsimp only; omega), trivial⟩, ⟨by dsimp only; omega, hM⟩, by dsimp only; omega⟩
        · have hNM : (nth x.e.L i).b.toNat < Ms.length := by omega
          have hWn := hMn _ (R.nth_mem hNM)
          have hWE : nth lv (nth x.e.L i).b.toNat = (nth Ms (nth x.e.L i).b.toNat).L := by rw [← hMf]; exact nth_mapF hNM
          have hWb := hw.2 _ (R.nth_mem (L := lv) (i := (nth x.e.L i).b.toNat) (by rw [hw.1]; omega))
          rw [hWE] at hWb
          obtain ⟨hWc, hWb⟩ := hWb
          have hrow : nth M (2 * i + j) = turnR x.e.L r.b.L is (2 * (i : Nat) + (j : Nat)) ab (nth Ms (nth x.e.L i).b.toNat).L := by
            rw [← hMM, rowsR_nth (by omega), show (2 * i + j) / 2 = i by omega, show (2 * i + j) % 2 = j by omega]
            unfold rowAtR
            rw [hisE, show headE (nth x.e.L i) j = (nth x.e.L i).b by unfold headE; simp [hj1], hWE, hab]
          (refine R.stepN ?_; (repeat' (first | (with_reducible refine And.intro ?_ ?_) | (with_reducible intro _))); all_goals refine R.Lft.mk ?_)
          have hM := nst_focus (pre := [.row none 0 0 61 2 [], .row hA (hdM M (2 * i + j)).length hc 3 1 ((hdM M (2 * i + j)).flatMap R.cI), .row wA (wtM M (2 * i + j)).length wc 3 1 ((wtM M (2 * i + j)).flatMap R.cI), .row sA (stM M (2 * i + j)).length sc 3 1 ((stM M (2 * i + j)).flatMap R.cI), .blk gg 34 [.slice sA (stM M (2 * i + j)).length sc, .slice hA (hdM M (2 * i + j)).length hc, .slice wA (wtM M (2 * i + j)).length wc], .row gB 2 cB 4 1 ([(nth x.e.L i).f, (nth x.e.L i).k].flatMap R.cB), .blk ge 55 (cEd (nth x.e.L i)), .map b es clk, .row D m cd 4 1 ((deadL x.e.L m x.e.n).flatMap R.cB), .blk go 34 [.slice none 0 0, .slice none 0 0, .slice none 0 0], .blk gc 29 (cRl r), .blk gn 26 (cNt x), .row A m m 32 1 (Ms.flatMap R.cSl)] ++ gst Gs) (R.Own.nil (show R.Own [] w _ (.row hA (hdM M (2 * i + j)).length hc 3 1 ((hdM M (2 * i + j)).flatMap R.cI) :: .row wA (wtM M (2 * i + j)).length wc 3 1 ((wtM M (2 * i + j)).flatMap R.cI) :: .row sA (stM M (2 * i + j)).length sc 3 1 ((stM M (2 * i + j)).flatMap R.cI) :: .blk gg 34 [.slice sA (stM M (2 * i + j)).length sc, .slice hA (hdM M (2 * i + j)).length hc, .slice wA (wtM M (2 * i + j)).length wc] :: .row gB 2 cB 4 1 ([(nth x.e.L i).f, (nth x.e.L i).k].flatMap R.cB) :: .blk ge 55 (cEd (nth x.e.L i)) :: .map b es clk :: .row D m cd 4 1 ((deadL x.e.L m x.e.n).flatMap R.cB) :: .blk go 34 [.slice none 0 0, .slice none 0 0, .slice none 0 0] :: .blk gc 29 (cRl r) :: .blk gn 26 (cNt x) :: .row A m m 32 1 (Ms.flatMap R.cSl) :: (gst Gs ++ nst 3 1 R.cI Ms)) from R.ohm) 61 2) hNM
          refine R.WC_loop (fun q : Nat × Option Addr × Nat => [(2, .pointer (some ⟨gn, 0, none⟩)), (3, .pointer (some ⟨gc, 0, none⟩)), (4, .pointer (some ⟨go, 0, none⟩)), (5, .int .i64 0), (6, .pointer (some ⟨gg, 0, none⟩)), (7, .slice D m cd), (8, .slice A m m), (9, .map (some b)), (42, .slice x.e.A x.e.n x.e.c), (43, .int .i64 (x.e.n : Nat)), (44, .int .i64 (i : Nat)), (10, .int .i64 (i : Nat)), (11, .pointer (some ⟨ge, 0, none⟩)), (53, .slice gB 2 cB), (54, .int .i64 2), (55, .int .i64 (j : Nat)), (12, .int .i64 (j : Nat)), (13, .bool is), (14, .int .i64 (2 * (i : Nat) + (j : Nat))), (15, .int .i64 (nth x.e.L i).b), (16, .bool ab), (17, .slice q.2.1 (turnR x.e.L r.b.L is (2 * (i : Nat) + (j : Nat)) ab ((nth Ms (nth x.e.L i).b.toNat).L.take q.1)).length q.2.2), (87, .slice (nth Ms (nth x.e.L i).b.toNat).A (nth Ms (nth x.e.L i).b.toNat).n (nth Ms (nth x.e.L i).b.toNat).c), (88, .int .i64 ((nth Ms (nth x.e.L i).b.toNat).n : Nat)), (89, .int .i64 (q.1 : Nat))])
            (fun q w2 => q.1 ≤ (nth Ms (nth x.e.L i).b.toNat).n ∧ R.Own [] w w2 (.row (nth Ms (nth x.e.L i).b.toNat).A (nth Ms (nth x.e.L i).b.toNat).n (nth Ms (nth x.e.L i).b.toNat).c 3 1 ((nth Ms (nth x.e.L i).b.toNat).L.flatMap R.cI) :: .row q.2.1 (turnR x.e.L r.b.L is (2 * (i : Nat) + (j : Nat)) ab ((nth Ms (nth x.e.L i).b.toNat).L.take q.1)).length q.2.2 61 2 ((turnR x.e.L r.b.L is (2 * (i : Nat) + (j : Nat)) ab ((nth Ms (nth x.e.L i).b.toNat).L.take q.1)).flatMap cItem) :: .row hA (hdM M (2 * i + j)).length hc 3 1 ((hdM M (2 * i + j)).flatMap R.cI) :: .row wA (wtM M (2 * i + j)).length wc 3 1 ((wtM M (2 * i + j)).flatMap R.cI) :: .row sA (stM M (2 * i + j)).length sc 3 1 ((stM M (2 * i + j)).flatMap R.cI) :: .blk gg 34 [.slice sA (stM M (2 * i + j)).length sc, .slice hA (hdM M (2 * i + j)).length hc, .slice wA (wtM M (2 * i + j)).length wc] :: .row gB 2 cB 4 1 ([(nth x.e.L i).f, (nth x.e.L i).k].flatMap R.cB) :: .blk ge 55 (cEd (nth x.e.L i)) :: .map b es clk :: .row D m cd 4 1 ((deadL x.e.L m x.e.n).flatMap R.cB) :: .blk go 34 [.slice none 0 0, .slice none 0 0, .slice none 0 0] :: .blk gc 29 (cRl r) :: .blk gn 26 (cNt x) :: .row A m m 32 1 (Ms.flatMap R.cSl) :: (gst Gs ++ (nst 3 1 R.cI (Ms.take (nth x.e.L i).b.toNat) ++ nst 3 1 R.cI (Ms.drop ((nth x.e.L i).b.toNat + 1)))))) (fun q => (nth Ms (nth x.e.L i).b.toNat).n - q.1)
            ⟨(0, none, 0), ⟨rfl, rfl, rfl, rfl, rfl, rfl, rfl, rfl, rfl, rfl, rfl, rfl, rfl, rfl, rfl, rfl, rfl, R.viaB rfl his, rfl, rfl, R.viaB (a := true) rfl (by rw [← hab]; unfold aboutR; simp [hp]), rfl, rfl, rfl, rfl, trivial⟩, Nat.zero_le _, hM⟩ ?_
          clear hM
          rintro ⟨q, la, lc⟩ f w7 ⟨hq, hM⟩
          dsimp only at hq hM ⊢
          by_cases hql : q < (nth Ms (nth x.e.L i).b.toNat).n
          · obtain ⟨y1, y2⟩ := hWb _ (R.nth_mem (L := (nth Ms (nth x.e.L i).b.toNat).L) (i := q) (by omega))
            have hnx := turnR_next (E := x.e.L) (L := r.b.L) (is := is) (v := 2 * ((i : Nat) : Int) + ((j : Nat) : Int)) (ab := ab) (W := (nth Ms (nth x.e.L i).b.toNat).L) (q := q) (by omega)
            have htl := turnR_le (E := x.e.L) (L := r.b.L) is (2 * ((i : Nat) : Int) + ((j : Nat) : Int)) ab ((nth Ms (nth x.e.L i).b.toNat).L.take q)
            rw [List.length_take] at htl
            cases is with
            | false =>
              rw [Bool.false_and, if_neg (by decide), List.append_nil] at hnx
              (refine R.stepN ?_; (repeat' (first | (with_reducible refine And.intro ?_ ?_) | (with_reducible intro _))); all_goals refine R.Lft.mk ?_)
              refine ⟨(q + 1, la, lc), ⟨rfl, rfl, rfl, rfl, rfl, rfl, rfl, rfl, rfl, rfl, rfl, rfl, rfl, rfl, rfl, rfl, rfl, rfl, rfl, rfl, rfl, R.viaS rfl (by dsimp only; rw [hnx]), rfl, rfl, R.viaI rfl (by dsimp only; omega), trivial⟩, ⟨by dsimp only; omega, by dsimp only; rw [hnx]; exact R.ohm⟩, by dsimp only; omega⟩
            | true =>
              (refine R.stepN ?_; (repeat' (first | (with_reducible refine And.intro ?_ ?_) | (with_reducible intro _))); all_goals refine R.Lft.mk ?_)
              refine R.WO_lkK rfl rfl rfl (by unfold In64; omega) R.ohm R.memb hS.out ?_
              (refine R.stepN ?_; (repeat' (first | (with_reducible refine And.intro ?_ ?_) | (with_reducible intro _))); all_goals refine R.Lft.mk ?_)
              refine R.WO_call4 rfl rfl R.vv R.vv R.vv R.vv ?_
              have hP := own_out (P := [.row (nth Ms (nth x.e.L i).b.toNat).A (nth Ms (nth x.e.L i).b.toNat).n (nth Ms (nth x.e.L i).b.toNat).c 3 1 ((nth Ms (nth x.e.L i).b.toNat).L.flatMap R.cI), .row la (turnR x.e.L r.b.L true (2 * (i : Nat) + (j : Nat)) ab ((nth Ms (nth x.e.L i).b.toNat).L.take q)).length lc 61 2 ((turnR x.e.L r.b.L true (2 * (i : Nat) + (j : Nat)) ab ((nth Ms (nth x.e.L i).b.toNat).L.take q)).flatMap cItem), .row hA (hdM M (2 * i + j)).length hc 3 1 ((hdM M (2 * i + j)).flatMap R.cI), .row wA (wtM M (2 * i + j)).length wc 3 1 ((wtM M (2 * i + j)).flatMap R.cI), .row sA (stM M (2 * i + j)).length sc 3 1 ((stM M (2 * i + j)).flatMap R.cI), .blk gg 34 [.slice sA (stM M (2 * i + j)).length sc, .slice hA (hdM M (2 * i + j)).length hc, .slice wA (wtM M (2 * i + j)).length wc], .row gB 2 cB 4 1 ([(nth x.e.L i).f, (nth x.e.L i).k].flatMap R.cB), .blk ge 55 (cEd (nth x.e.L i)), .map b es clk, .row D m cd 4 1 ((deadL x.e.L m x.e.n).flatMap R.cB), .blk go 34 [.slice none 0 0, .slice none 0 0, .slice none 0 0], .blk gc 29 (cRl r), .blk gn 26 (cNt x), .row A m m 32 1 (Ms.flatMap R.cSl)]) (show R.Own [] w _ (.row (nth Ms (nth x.e.L i).b.toNat).A (nth Ms (nth x.e.L i).b.toNat).n (nth Ms (nth x.e.L i).b.toNat).c 3 1 ((nth Ms (nth x.e.L i).b.toNat).L.flatMap R.cI) :: .row la (turnR x.e.L r.b.L true (2 * (i : Nat) + (j : Nat)) ab ((nth Ms (nth x.e.L i).b.toNat).L.take q)).length lc 61 2 ((turnR x.e.L r.b.L true (2 * (i : Nat) + (j : Nat)) ab ((nth Ms (nth x.e.L i).b.toNat).L.take q)).flatMap cItem) :: .row hA (hdM M (2 * i + j)).length hc 3 1 ((hdM M (2 * i + j)).flatMap R.cI) :: .row wA (wtM M (2 * i + j)).length wc 3 1 ((wtM M (2 * i + j)).flatMap R.cI) :: .row sA (stM M (2 * i + j)).length sc 3 1 ((stM M (2 * i + j)).flatMap R.cI) :: .blk gg 34 [.slice sA (stM M (2 * i + j)).length sc, .slice hA (hdM M (2 * i + j)).length hc, .slice wA (wtM M (2 * i + j)).length wc] :: .row gB 2 cB 4 1 ([(nth x.e.L i).f, (nth x.e.L i).k].flatMap R.cB) :: .blk ge 55 (cEd (nth x.e.L i)) :: .map b es clk :: .row D m cd 4 1 ((deadL x.e.L m x.e.n).flatMap R.cB) :: .blk go 34 [.slice none 0 0, .slice none 0 0, .slice none 0 0] :: .blk gc 29 (cRl r) :: .blk gn 26 (cNt x) :: .row A m m 32 1 (Ms.flatMap R.cSl) :: (gst Gs ++ (nst 3 1 R.cI (Ms.take (nth x.e.L i).b.toNat) ++ nst 3 1 R.cI (Ms.drop ((nth x.e.L i).b.toNat + 1))))) from R.ohm)
              refine (said_call r.b.L r.b.n r.b.n Gs es clk hS hrn hL64 (2 * ((i : Nat) : Int) + ((j : Nat) : Int)) (nth (nth Ms (nth x.e.L i).b.toNat).L q) ab _ (R.Own.has hP) (by omega) (by omega) (by unfold In64; omega) (by unfold In64; omega)).mono ?_
              rintro _ w8 ⟨rfl, hO8⟩
              have hM : R.Own [] w w8 (.row (nth Ms (nth x.e.L i).b.toNat).A (nth Ms (nth x.e.L i).b.toNat).n (nth Ms (nth x.e.L i).b.toNat).c 3 1 ((nth Ms (nth x.e.L i).b.toNat).L.flatMap R.cI) :: .row la (turnR x.e.L r.b.L true (2 * (i : Nat) + (j : Nat)) ab ((nth Ms (nth x.e.L i).b.toNat).L.take q)).length lc 61 2 ((turnR x.e.L r.b.L true (2 * (i : Nat) + (j : Nat)) ab ((nth Ms (nth x.e.L i).b.toNat).L.take q)).flatMap cItem) :: .row hA (hdM M (2 * i + j)).length hc 3 1 ((hdM M (2 * i + j)).flatMap R.cI) :: .row wA (wtM M (2 * i + j)).length wc 3 1 ((wtM M (2 * i + j)).flatMap R.cI) :: .row sA (stM M (2 * i + j)).length sc 3 1 ((stM M (2 * i + j)).flatMap R.cI) :: .blk gg 34 [.slice sA (stM M (2 * i + j)).length sc, .slice hA (hdM M (2 * i + j)).length hc, .slice wA (wtM M (2 * i + j)).length wc] :: .row gB 2 cB 4 1 ([(nth x.e.L i).f, (nth x.e.L i).k].flatMap R.cB) :: .blk ge 55 (cEd (nth x.e.L i)) :: .map b es clk :: .row D m cd 4 1 ((deadL x.e.L m x.e.n).flatMap R.cB) :: .blk go 34 [.slice none 0 0, .slice none 0 0, .slice none 0 0] :: .blk gc 29 (cRl r) :: .blk gn 26 (cNt x) :: .row A m m 32 1 (Ms.flatMap R.cSl) :: (gst Gs ++ (nst 3 1 R.cI (Ms.take (nth x.e.L i).b.toNat) ++ nst 3 1 R.cI (Ms.drop ((nth x.e.L i).b.toNat + 1))))) := own_in (P := [.row (nth Ms (nth x.e.L i).b.toNat).A (nth Ms (nth x.e.L i).b.toNat).n (nth Ms (nth x.e.L i).b.toNat).c 3 1 ((nth Ms (nth x.e.L i).b.toNat).L.flatMap R.cI), .row la (turnR x.e.L r.b.L true (2 * (i : Nat) + (j : Nat)) ab ((nth Ms (nth x.e.L i).b.toNat).L.take q)).length lc 61 2 ((turnR x.e.L r.b.L true (2 * (i : Nat) + (j : Nat)) ab ((nth Ms (nth x.e.L i).b.toNat).L.take q)).flatMap cItem), .row hA (hdM M (2 * i + j)).length hc 3 1 ((hdM M (2 * i + j)).flatMap R.cI), .row wA (wtM M (2 * i + j)).length wc 3 1 ((wtM M (2 * i + j)).flatMap R.cI), .row sA (stM M (2 * i + j)).length sc 3 1 ((stM M (2 * i + j)).flatMap R.cI), .blk gg 34 [.slice sA (stM M (2 * i + j)).length sc, .slice hA (hdM M (2 * i + j)).length hc, .slice wA (wtM M (2 * i + j)).length wc], .row gB 2 cB 4 1 ([(nth x.e.L i).f, (nth x.e.L i).k].flatMap R.cB), .blk ge 55 (cEd (nth x.e.L i)), .map b es clk, .row D m cd 4 1 ((deadL x.e.L m x.e.n).flatMap R.cB), .blk go 34 [.slice none 0 0, .slice none 0 0, .slice none 0 0], .blk gc 29 (cRl r), .blk gn 26 (cNt x), .row A m m 32 1 (Ms.flatMap R.cSl)]) (R.Own.callF hP hO8)
              clear hP hO8
              refine ⟨_, rfl, ?_⟩
              cases hcc : mayV r.b.L (2 * ((i : Nat) : Int) + ((j : Nat) : Int)) (nth (nth Ms (nth x.e.L i).b.toNat).L q) ab with
              | true =>
                rw [Bool.true_and, hcc, if_pos rfl] at hnx
                (refine R.stepN ?_; (repeat' (first | (with_reducible refine And.intro ?_ ?_) | (with_reducible intro _))); all_goals refine R.Lft.mk ?_)
                rename_i la2 lc2 _ hM
                have eln : (turnR x.e.L r.b.L true (2 * ((i : Nat) : Int) + ((j : Nat) : Int)) ab ((nth Ms (nth x.e.L i).b.toNat).L.take q)).length + 1 = (turnR x.e.L r.b.L true (2 * ((i : Nat) : Int) + ((j : Nat) : Int)) ab ((nth Ms (nth x.e.L i).b.toNat).L.take (q + 1))).length := by rw [hnx, List.length_append]; rfl
                rw [eln, ← hnx] at hM
                refine ⟨(q + 1, la2, lc2), ⟨rfl, rfl, rfl, rfl, rfl, rfl, rfl, rfl, rfl, rfl, rfl, rfl, rfl, rfl, rfl, rfl, rfl, rfl, rfl, rfl, rfl, R.viaS rfl (by dsimp only; rw [hnx, List.length_append]; rfl), rfl, rfl, R.viaI rfl (by dsimp only; omega), trivial⟩, ⟨by dsimp only; omega, hM⟩, by dsimp only; omega⟩
              | false =>
                rw [Bool.true_and, hcc, if_neg (by decide), List.append_nil] at hnx
                (refine R.stepN ?_; (repeat' (first | (with_reducible refine And.intro ?_ ?_) | (with_reducible intro _))); all_goals refine R.Lft.mk ?_)
                refine ⟨(q + 1, la, lc), ⟨rfl, rfl, rfl, rfl, rfl, rfl, rfl, rfl, rfl, rfl, rfl, rfl, rfl, rfl, rfl, rfl, rfl, rfl, rfl, rfl, rfl, R.viaS rfl (by dsimp only; rw [hnx]), rfl, rfl, R.viaI rfl (by dsimp only; omega), trivial⟩, ⟨by dsimp only; omega, by dsimp only; rw [hnx]; exact hM⟩, by dsimp only; omega⟩
          · obtain rfl : q = (nth Ms (nth x.e.L i).b.toNat).n := by omega
            rw [show (nth Ms (nth x.e.L i).b.toNat).L.take (nth Ms (nth x.e.L i).b.toNat).n = (nth Ms (nth x.e.L i).b.toNat).L by rw [hWn]; exact List.take_length, ← hrow] at hM ⊢
            (refine R.stepN ?_; (repeat' (first | (with_reducible refine And.intro ?_ ?_) | (with_reducible intro _))); all_goals refine R.Lft.mk ?_)
            have hM := nst_unfocus (pre := [.row la (nth M (2 * i + j)).length lc 61 2 ((nth M (2 * i + j)).flatMap cItem), .row hA (hdM M (2 * i + j)).length hc 3 1 ((hdM M (2 * i + j)).flatMap R.cI), .row wA (wtM M (2 * i + j)).length wc 3 1 ((wtM M (2 * i + j)).flatMap R.cI), .row sA (stM M (2 * i + j)).length sc 3 1 ((stM M (2 * i + j)).flatMap R.cI), .blk gg 34 [.slice sA (stM M (2 * i + j)).length sc, .slice hA (hdM M (2 * i + j)).length hc, .slice wA (wtM M (2 * i + j)).length wc], .row gB 2 cB 4 1 ([(nth x.e.L i).f, (nth x.e.L i).k].flatMap R.cB), .blk ge 55 (cEd (nth x.e.L i)), .map b es clk, .row D m cd 4 1 ((deadL x.e.L m x.e.n).flatMap R.cB), .blk go 34 [.slice none 0 0, .slice none 0 0, .slice none 0 0], .blk gc 29 (cRl r), .blk gn 26 (cNt x), .row A m m 32 1 (Ms.flatMap R.cSl)] ++ gst Gs) hM hNM
            have hP : R.Own [] w _ ((.row la (nth M (2 * i + j)).length lc 61 2 ((nth M (2 * i + j)).flatMap cItem) :: .row gB 2 cB 4 1 ([(nth x.e.L i).f, (nth x.e.L i).k].flatMap R.cB) :: .blk ge 55 (cEd (nth x.e.L i)) :: .map b es clk :: .row D m cd 4 1 ((deadL x.e.L m x.e.n).flatMap R.cB) :: .blk go 34 [.slice none 0 0, .slice none 0 0, .slice none 0 0] :: .blk gc 29 (cRl r) :: .blk gn 26 (cNt x) :: .row A m m 32 1 (Ms.flatMap R.cSl) :: (gst Gs ++ nst 3 1 R.cI Ms)) ++ gRes gg sA hA wA (stM M (2 * i + j)) (hdM M (2 * i + j)) (wtM M (2 * i + j)) sc hc wc) := R.Own.perm hM (List.Perm.cons _ List.perm_append_comm)
            clear hM
            refine R.WO_call2 rfl rfl R.vv R.vv ?_
            have ho2 := off_succ (M := M) (j := 2 * i + j) (by omega)
            have hof2 := hO (2 * i + j + 1) (by omega)
            refine (aadd_any gg sA hA wA _ _ _ sc hc wc ⟨la, (nth M (2 * i + j)).length, lc, nth M (2 * i + j)⟩ _ (R.Own.has hP) (R.Own.inpF hP (.head _)) rfl (by omega) (by omega) (by omega) (by dsimp only; omega)).mono ?_
            rintro _ w8 ⟨rfl, sA2, hA2, wA2, sc2, hc2, wc2, hO8⟩
            have hM := R.Own.callF hP hO8
            clear hP hO8
            have hs2 := stM_succ M (2 * i + j)
            rw [ho2, ← hhl] at hs2
            rw [← hs2, ← hdM_succ (by omega), ← wtM_succ (by omega)] at hM
            refine ⟨_, rfl, ?_⟩
            have hM := (R.Own.tl hM).perm List.perm_append_comm
            (refine R.stepN ?_; (repeat' (first | (with_reducible refine And.intro ?_ ?_) | (with_reducible intro _))); all_goals refine R.Lft.mk ?_)
            exact ⟨(j + 1, sA2, hA2, wA2, sc2, hc2, wc2), ⟨rfl, rfl, rfl, rfl, rfl, rfl, rfl, rfl, rfl, rfl, rfl, rfl, rfl, rfl, rfl, R.viaI rfl (by dsimp only; omega), trivial⟩, ⟨by dsimp only; omega, hM⟩, by dsimp only; omega⟩
    · obtain rfl : j = 2 := by omega
      clear hM
      (refine R.stepN ?_; (repeat' (first | (with_reducible refine And.intro ?_ ?_) | (with_reducible intro _))); all_goals refine R.Lft.mk ?_)
      exact ⟨(i + 1, sA, hA, wA, sc, hc, wc), ⟨rfl, rfl, rfl, rfl, rfl, rfl, rfl, rfl, rfl, rfl, R.viaI rfl (by dsimp only; omega), trivial⟩, ⟨by dsimp only; omega, R.Own.sub (R.ohm : R.Own [] w _ (.row hA (hdM M (2 * i + 2)).length hc 3 1 ((hdM M (2 * i + 2)).flatMap R.cI) :: .row wA (wtM M (2 * i + 2)).length wc 3 1 ((wtM M (2 * i + 2)).flatMap R.cI) :: .row sA (stM M (2 * i + 2)).length sc 3 1 ((stM M (2 * i + 2)).flatMap R.cI) :: .blk gg 34 [.slice sA (stM M (2 * i + 2)).length sc, .slice hA (hdM M (2 * i + 2)).length hc, .slice wA (wtM M (2 * i + 2)).length wc] :: .row gB 2 cB 4 1 ([(nth x.e.L i).f, (nth x.e.L i).k].flatMap R.cB) :: .blk ge 55 (cEd (nth x.e.L i)) :: .map b es clk :: .row D m cd 4 1 ((deadL x.e.L m x.e.n).flatMap R.cB) :: .blk go 34 [.slice none 0 0, .slice none 0 0, .slice none 0 0] :: .blk gc 29 (cRl r) :: .blk gn 26 (cNt x) :: .row A m m 32 1 (Ms.flatMap R.cSl) :: (gst Gs ++ nst 3 1 R.cI Ms))) (by dsimp only; exact List.Sublist.append_left (l := [_, _, _, _]) (List.Sublist.cons _ (List.Sublist.cons _ (List.Sublist.refl _))))⟩, by dsimp only; omega⟩
  · obtain rfl : i = x.e.n := by omega
    have hsl := stM_len M (2 * x.e.n)
    have hhl := hdM_len (M := M) (k := 2 * x.e.n) (by omega)
    have hwl := wtM_len (M := M) (k := 2 * x.e.n) (by omega)
    have hM : R.Own [] w w5 (.row hA (hdM M (2 * x.e.n)).length hc 3 1 ((hdM M (2 * x.e.n)).flatMap R.cI) :: .row wA (wtM M (2 * x.e.n)).length wc 3 1 ((wtM M (2 * x.e.n)).flatMap R.cI) :: .row sA (stM M (2 * x.e.n)).length sc 3 1 ((stM M (2 * x.e.n)).flatMap R.cI) :: .blk gg 34 [.slice sA (stM M (2 * x.e.n)).length sc, .slice hA (hdM M (2 * x.e.n)).length hc, .slice wA (wtM M (2 * x.e.n)).length wc] :: .map b es clk :: .row D m cd 4 1 ((deadL x.e.L m x.e.n).flatMap R.cB) :: .blk go 34 [.slice none 0 0, .slice none 0 0, .slice none 0 0] :: .blk gc 29 (cRl r) :: .blk gn 26 (cNt x) :: .row A m m 32 1 (Ms.flatMap R.cSl) :: (gst Gs ++ nst 3 1 R.cI Ms)) := hM
    (refine R.stepN ?_; (repeat' (first | (with_reducible refine And.intro ?_ ?_) | (with_reducible intro _))); all_goals refine R.Lft.mk ?_)
    refine ⟨⟨⟨sA, (stM M (2 * x.e.n)).length, sc, stM M (2 * x.e.n)⟩, ⟨hA, (hdM M (2 * x.e.n)).length, hc, hdM M (2 * x.e.n)⟩, ⟨wA, (wtM M (2 * x.e.n)).length, wc, wtM M (2 * x.e.n)⟩⟩, ⟨hsl, hhl, hwl, rfl, rfl, rfl⟩, rfl, ?_⟩
    exact R.Own.sub R.ohm (List.Sublist.cons_cons _ (List.Sublist.cons_cons _ (List.Sublist.cons_cons _ (List.nil_sublist _))))
end Go.Proofs.YtdiodefooipojaaGreat
