/- Maps from numbers to pairs of numbers, of the call's own. Short searches past a vertex: the plain law. -/
import Derived.Test.YtegbidklcaccjaaMp
import Derived.Test.YtegbidklcaccjaaDb
namespace Go.Proofs.Ytegbidklcaccjaa
open Go.ChangeMaps Go.MapKept Go.WideShapes Go.WideElems Go.RowKit
open Go.Maps (Keyed IsMap)
open R (In64 InU64 lo64 nth)
namespace R
def pairV (p : Int × Int) : List Value := [.int .i64 p.1, .int .i64 p.2]
def pairD (p : Int × Int) : DataW Unit := .agg [.lit (.int .i64 p.1), .lit (.int .i64 p.2)]
/-- How a pair of numbers reads. -/
def pairElem (v : Value) : Option (DataW Unit × List MemPlace) :=
  match v with
  | .agg cs => match cs.toList with
    | [.int .i64 a, .int .i64 b] => some (pairD (a, b), [])
    | _ => none
  | _ => none
theorem pairElem_of (p : Int × Int) : pairElem (.agg (pairV p).toArray) = some (pairD p, []) := by
  simp [pairElem, pairV]
theorem pairElem_inv {v : Value} {d : DataW Unit} {ps : List MemPlace} (h : pairElem v = some (d, ps)) : ∃ p, v = .agg (pairV p).toArray ∧ d = pairD p := by
  unfold pairElem at h
  split at h
  · rename_i cs
    split at h
    · rename_i a b hcs
      injection h with h
      injection h with h1 h2
      refine ⟨(a, b), ?_, h1.symm⟩
      have : cs = (pairV (a, b)).toArray := by
        apply Array.ext'
        rw [hcs]
        rfl
      rw [this]
    · cases h
  · cases h
theorem pairD_inj {p q : Int × Int} (h : pairD p = pairD q) : p = q := by
  unfold pairD at h
  injection h with h
  injection h with h1 h2
  injection h2 with h2 _
  injection h1 with h1
  injection h1 with _ h1
  injection h2 with h2
  injection h2 with _ h2
  exact Prod.ext h1 h2
def ViewQ (D : DataW Unit) (m : Int → Option (Int × Int)) : Prop := ∀ a, In64 a → Maps.has D (.int .i64 a) = (m a).isSome ∧ ∀ v, m a = some v → ∀ z, D.atKey (.int .i64 a) z = pairD v
def IsQ (P : Program) (k : TypeId) (es : Array MapEntry) (clk n : Nat) (m : Int → Option (Int × Int)) : Prop := ∀ (w : World) (b : Nat), w.heap[b]? = some (.map es clk) → ∃ D : DataW Unit, w.ownsMap P k pairElem b n D ∧ ViewQ D m
class MapIP (P : Program) (t : TypeId) (k e : outParam TypeId) : Prop where
  h : P.underlying t = some (.map k e)
  hk : P.underlying k = some (.int .i64)
  hz : ∀ w, (zeroValue e).run P w = .ok (.agg (pairV (0, 0)).toArray) w
def putQ (m : Int → Option (Int × Int)) (a : Int) (v : Int × Int) : Int → Option (Int × Int) := fun q => if q = a then some v else m q
theorem putQ_same (m : Int → Option (Int × Int)) (a : Int) (v : Int × Int) : putQ m a v a = some v := if_pos rfl
theorem putQ_ne {m : Int → Option (Int × Int)} {a q : Int} {v : Int × Int} (h : q ≠ a) : putQ m a v q = m q := if_neg h
variable {P : Program} {C : CallH} {o : Oper} {f : Fr} {w : World} {K : Value → World → Prop} {t k e : TypeId} {x y z : Operand} {F : List Nat} {W : World} {l : List Res} {b n : Nat} {es : Array MapEntry} {clk : Nat} {m : Int → Option (Int × Int)} {a : Int} {v : Int × Int}
theorem isQ_of {es' : Array MapEntry} {clk' n' : Nat} {D : DataW Unit} {m' : Int → Option (Int × Int)} (h : w.ownsMap P k pairElem b n' D) (hb : w.heap[b]? = some (.map es' clk')) (hv : ViewQ D m') : IsQ P k es' clk' n' m' := fun w2 b2 h2 => by
  obtain ⟨es1, clk1, hb1, Ft, hs, hD⟩ := h
  rw [hb] at hb1
  injection hb1 with hb1
  injection hb1 with e1 e2
  subst e1 e2
  exact ⟨D, ⟨es', clk', h2, Ft, hs, hD⟩, hv⟩
theorem isQ_empty (P : Program) (k : TypeId) : IsQ P k #[] 0 0 (fun _ => none) := fun w b h =>
  ⟨.map [], ⟨#[], 0, h, ⟨by simp, stamped_empty 0, by simp⟩, Nat.le_refl _, rfl⟩, fun a _ => ⟨rfl, fun v hv => by cases hv⟩⟩
theorem ViewQ.put {D : DataW Unit} (hD : IsMap D) (h : ViewQ D m) (ha : In64 a) : ViewQ (D.put (.int .i64 a) (pairD v)) (putQ m a v) := fun q hq => by
  by_cases hqa : q = a
  · subst hqa
    rw [putQ_same, Maps.has_put_same (k := .int .i64 q) hD trivial]
    exact ⟨rfl, fun v' hv' z => by cases hv'; exact Maps.atKey_put_same (k := .int .i64 q) hD trivial _ _⟩
  · have hne : Lit.int .i64 q ≠ Lit.int .i64 a := fun c => hqa (by injection c)
    rw [putQ_ne hqa, Maps.has_put_other hne]
    exact ⟨(h q hq).1, fun v' hv' z => by rw [Maps.atKey_put_other hne]; exact (h q hq).2 v' hv' z⟩
theorem lookQ_val {D : DataW Unit} (hV : ViewQ D m) (ha : In64 a) {u : Value} {ps : List MemPlace} (hu : pairElem u = some (D.atKey (.int .i64 a) (pairD (0, 0)), ps)) : u = .agg (pairV ((m a).getD (0, 0))).toArray := by
  obtain ⟨p, rfl, hp⟩ := pairElem_inv hu
  obtain ⟨h1, h2⟩ := hV a ha
  cases hm : m a with
  | none =>
    rw [hm] at h1
    have h1 : Maps.has D (.int .i64 a) = false := h1
    rw [Maps.atKey_of_not_has h1] at hp
    rw [pairD_inj hp]
    rfl
  | some v =>
    rw [h2 v hm] at hp
    rw [pairD_inj hp]
    rfl
theorem WO_lkQ1 (hop : o.op = .lookup t x y true) [T : MapIP P t k e] (hx : ev f x = .map (some b)) (hy : ev f y = .int .i64 a) (ha : In64 a) (hM : Own F W w l) (hm : .map b es clk ∈ l) (hI : IsQ P k es clk n m) (hk : K (.tuple #[.agg (pairV ((m a).getD (0, 0))).toArray, .bool (m a).isSome]) w) : WO P C o f w K := by
  obtain ⟨D, ho, hV⟩ := hI w b (hM.ok _ hm)
  obtain ⟨u, ps, hrun, hu⟩ := ho.look_ok (Maps.int_keyed T.hk) T.h (T.hz w) (pairElem_of (0, 0)) (Maps.keyOf_int_mk T.hk (wf64 ha))
  rw [lookQ_val hV ha hu, (hV a ha).1] at hrun
  refine WO_val ?_ hk
  simp [execOp, hop, hx, hy, hrun]
theorem WO_lkQ (hop : o.op = .lookup t x y false) [T : MapIP P t k e] (hx : ev f x = .map (some b)) (hy : ev f y = .int .i64 a) (ha : In64 a) (hM : Own F W w l) (hm : .map b es clk ∈ l) (hI : IsQ P k es clk n m) (hk : K (.agg (pairV ((m a).getD (0, 0))).toArray) w) : WO P C o f w K := by
  obtain ⟨D, ho, hV⟩ := hI w b (hM.ok _ hm)
  obtain ⟨u, ps, hrun, hu⟩ := ho.lookup (Maps.int_keyed T.hk) T.h (T.hz w) (pairElem_of (0, 0)) (Maps.keyOf_int_mk T.hk (wf64 ha))
  rw [lookQ_val hV ha hu] at hrun
  refine WO_val ?_ hk
  simp [execOp, hop, hx, hy, hrun]
theorem WO_mapSetQ {l' : Array MapEntry → Nat → List Res} (hop : o.op = .mapUpdate t x y z) [T : MapIP P t k e] (hx : ev f x = .map (some b)) (hy : ev f y = .int .i64 a) (hz : ev f z = .agg (pairV v).toArray) (ha : In64 a) (hM : Own F W w l) (hI : IsQ P k es clk n m) (hn : n < maxLen)
    (hu : ∀ es' clk', Upd l (.map b es clk) (.map b es' clk') (l' es' clk')) (hk : ∀ es' clk' w', IsQ P k es' clk' (n + 1) (putQ m a v) → Own F W w' (l' es' clk') → K undef w') : WO P C o f w K := by
  have hb : w.heap[b]? = some (.map es clk) := hM.ok _ (hu es clk).old
  obtain ⟨D, ho, hV⟩ := hI w b hb
  obtain ⟨w', hrun, h1, h2⟩ := ho.store (Maps.int_keyed T.hk) T.h hn (Maps.keyOf_int_mk T.hk (wf64 ha)) (pairElem_of v)
  obtain ⟨es', clk', hb', _⟩ := id h1
  refine WO_do (w' := w') ?_ (hk es' clk' w' (isQ_of h1 hb' (hV.put ho.isMap ha)) (turned_own hM h2 hb' (hu es' clk')))
  simp [execOp, hop, hx, hy, hz, hrun]
end R
instance mapIP_at : R.MapIP Try.prog 124 3 131 := ⟨by kernel_rfl, by kernel_rfl, Try.zeroValue131⟩
end Go.Proofs.Ytegbidklcaccjaa
namespace Go.Proofs.Ytegbidklcaccjaa
open R (In64 InU64 lo64 nth)
/-- A short search: costs and hops as the map tells them, what is near, what was settled; the arcs of x are gone through up to j. -/
structure Wv (I : Ins) (src : Nat) (most hop : Int) (cs hs : Nat → Int) (κ : Int → Option Int) (S : List Nat) (k : Int) (x j : Nat) : Prop where
  bd : ∀ v, v < I.n → cs v = 4611686018427387904 ∨ (0 ≤ cs v ∧ cs v ≤ most ∧ cs v ≤ S.length * 2147483648)
  ka : ∀ a c, κ a = some c ↔ ∃ v : Nat, v < I.n ∧ a = (v : Nat) ∧ v ∉ S ∧ cs v = c ∧ c < 4611686018427387904
  fi : ∀ u ∈ S, u < I.n ∧ cs u < 4611686018427387904
  nd : S.Nodup
  mx : ∀ u ∈ S, cs u ≤ k
  mn : ∀ v, v < I.n → v ∉ S → k ≤ cs v
  re : ∀ u ∈ S, hs u ≠ hop → ∀ i, I.S u ≤ i → i < I.S (u + 1) → (u = x → i < j) → I.op (I.H i) = true → cs u + I.W i ≤ most → cs (I.H i) ≤ cs u + I.W i
  su : ∀ v, v < I.n → cs v < 4611686018427387904 → I.op v = true ∧ 0 ≤ hs v ∧ hs v ≤ S.idxOf v ∧ ((v = src ∧ cs v = 0) ∨ ∃ u i, u ∈ S ∧ I.S u ≤ i ∧ i < I.S (u + 1) ∧ I.H i = v ∧ cs v = cs u + I.W i ∧ S.idxOf u < S.idxOf v)
  sr : cs src = 0
  so : S.Pairwise fun a b => cs a ≤ cs b
section
variable {I : Ins} {src : Nat} {most hop : Int} {cs hs cs' hs' : Nat → Int} {κ : Int → Option Int} {S : List Nat} {k : Int} {x j : Nat}
theorem Wv.len (h : Wv I src most hop cs hs κ S k x j) : S.length ≤ I.n := nodup_le h.nd fun u hu => (h.fi u hu).1
theorem Wv.put (h : Wv I src most hop cs hs κ S k x j) (hI : I.Ok) (hx : x ∈ S) (hk : cs x = k) (hb : k + 2147483648 ≤ S.length * 2147483648) (h1 : I.S x ≤ j) (h2 : j < I.S (x + 1)) (hop1 : I.op (I.H j) = true) (hm : k + I.W j ≤ most) (hc : k + I.W j < cs (I.H j))
    (hcs : ∀ w, cs' w = if I.H j = w then k + I.W j else cs w) (hhs : ∀ w, hs' w = if I.H j = w then hs x + 1 else hs w) : Wv I src most hop cs' hs' (R.putM κ ((I.H j : Nat) : Int) (k + I.W j)) S k x (j + 1) ∧ ∀ u ∈ S, cs' u = cs u ∧ hs' u = hs u := by
  have hxn := (h.fi x hx).1
  obtain ⟨hv, w0, w1⟩ := hI.hd x j hxn h1 h2
  have hbx := h.bd x hxn
  have hxf := (h.fi x hx).2
  have hvS : I.H j ∉ S := fun q => by have := h.mx _ q; omega
  obtain ⟨v, hvd⟩ : ∃ v, I.H j = v := ⟨_, rfl⟩
  obtain ⟨c, hcd⟩ : ∃ c, k + I.W j = c := ⟨_, rfl⟩
  rw [hvd] at hv hop1 hc hcs hhs hvS ⊢
  rw [hcd] at hm hc hcs ⊢
  have hxv : v ≠ x := fun e => hvS (by rw [e]; exact hx)
  have hsx := (h.su x hxn hxf)
  have hcS : ∀ u ∈ S, cs' u = cs u := fun u hu => by rw [hcs, if_neg (fun e => hvS (by rw [e]; exact hu))]
  have hhS : ∀ u ∈ S, hs' u = hs u := fun u hu => by rw [hhs, if_neg (fun e => hvS (by rw [e]; exact hu))]
  have hle : ∀ w, cs' w ≤ cs w := fun w => by
    rw [hcs]
    split
    · rename_i e; rw [← e]; omega
    · exact Int.le_refl _
  have hlen := h.len
  have hn1 := hI.n1
  refine ⟨⟨fun w hw => ?_, fun a e => ?_, fun u hu => ?_, h.nd, fun u hu => ?_, fun w hw hwS => ?_, fun u hu hne i q1 q2 q3 q4 q5 => ?_, fun w hw hf => ?_, ?_, h.so.imp_of_mem fun ha hb hab => by rw [hcS _ ha, hcS _ hb]; exact hab⟩, fun u hu => ⟨hcS u hu, hhS u hu⟩⟩
  · rw [hcs]
    split
    · omega
    · exact h.bd w hw
  · by_cases ha : a = (v : Nat)
    · rw [ha, R.putM_same]
      constructor
      · intro q
        injection q with q
        exact ⟨v, hv, rfl, hvS, by rw [hcs, if_pos rfl]; exact q, by omega⟩
      · rintro ⟨w, hw, e1, e2, e3, e4⟩
        obtain rfl : v = w := by omega
        rw [hcs, if_pos rfl] at e3
        rw [e3]
    · rw [R.putM_ne ha, h.ka]
      constructor
      · rintro ⟨w, hw, e1, e2, e3, e4⟩
        exact ⟨w, hw, e1, e2, by rw [hcs, if_neg (fun q => ha (by rw [e1, q]))]; exact e3, e4⟩
      · rintro ⟨w, hw, e1, e2, e3, e4⟩
        rw [hcs, if_neg (fun q => ha (by rw [e1, q]))] at e3
        exact ⟨w, hw, e1, e2, e3, e4⟩
  · rw [hcS u hu]; exact h.fi u hu
  · rw [hcS u hu]; exact h.mx u hu
  · rw [hcs]
    split
    · omega
    · exact h.mn w hw hwS
  · rw [hcS u hu] at q5 ⊢
    rw [hhS u hu] at hne
    by_cases e : u = x ∧ i = j
    · obtain ⟨rfl, rfl⟩ := e
      rw [hcs, if_pos hvd.symm]
      omega
    · exact Int.le_trans (hle _) (h.re u hu hne i q1 q2 (fun q => by have := q3 q; have : i ≠ j := fun q' => e ⟨q, q'⟩; omega) q4 q5)
  · by_cases e : v = w
    · subst e
      refine ⟨hop1, ?_, ?_, .inr ⟨x, j, hx, h1, h2, hvd, ?_, ?_⟩⟩
      · rw [hhs, if_pos rfl]; omega
      · rw [hhs, if_pos rfl, List.idxOf_eq_length hvS]
        have := List.idxOf_lt_length_iff.2 hx
        omega
      · rw [hcs, if_pos rfl, hcS x hx]; omega
      · rw [List.idxOf_eq_length hvS]
        exact List.idxOf_lt_length_iff.2 hx
    · rw [hcs, if_neg e] at hf
      obtain ⟨q1, q2, q3, q4⟩ := h.su w hw hf
      refine ⟨q1, by rw [hhs, if_neg e]; exact q2, by rw [hhs, if_neg e]; exact q3, ?_⟩
      rcases q4 with ⟨r1, r2⟩ | ⟨u, i, r1, r3, r4, r5, r6, r7⟩
      · exact .inl ⟨r1, by rw [hcs, if_neg e]; exact r2⟩
      · exact .inr ⟨u, i, r1, r3, r4, r5, by rw [hcs, if_neg e, hcS u r1]; exact r6, r7⟩
  · rw [hcs]
    split
    · rename_i e
      have := h.sr
      rw [← e] at this
      omega
    · exact h.sr
theorem Wv.skip (h : Wv I src most hop cs hs κ S k x j) (hk : cs x = k) (hno : I.op (I.H j) = true → k + I.W j ≤ most → cs (I.H j) ≤ k + I.W j) : Wv I src most hop cs hs κ S k x (j + 1) :=
  ⟨h.bd, h.ka, h.fi, h.nd, h.mx, h.mn, fun u hu hne i q1 q2 q3 q4 q5 => by
    by_cases e : u = x ∧ i = j
    · obtain ⟨rfl, rfl⟩ := e
      rw [hk] at q5 ⊢
      exact hno q4 q5
    · exact h.re u hu hne i q1 q2 (fun q => by have := q3 q; have : i ≠ j := fun q' => e ⟨q, q'⟩; omega) q4 q5, h.su, h.sr, h.so⟩
theorem Wv.pop (h : Wv I src most hop cs hs κ S k I.n 0) {v : Nat} (hv : v < I.n) (hvS : v ∉ S) (hf : cs v < 4611686018427387904) (hmin : ∀ w, w < I.n → w ∉ S → cs v ≤ cs w) :
    Wv I src most hop cs hs (R.delM κ (v : Nat)) (S ++ [v]) (cs v) v (I.S v) ∧ cs v + 2147483648 ≤ (S ++ [v]).length * 2147483648 := by
  have hb := h.bd v hv
  have hl : (S ++ [v]).length = S.length + 1 := by simp
  refine ⟨⟨fun w hw => ?_, fun a e => ?_, fun u hu => ?_, ?_, fun u hu => ?_, fun w hw hwS => ?_, fun u hu hne i h1 h2 h3 h4 h5 => ?_, fun w hw hff => ?_, h.sr, ?_⟩, by rw [hl]; omega⟩
  · rw [hl]
    have := h.bd w hw
    omega
  · by_cases ha : a = (v : Nat)
    · rw [ha, R.delM_same]
      constructor
      · intro q; cases q
      · rintro ⟨w, hw, e1, e2, e3, e4⟩
        obtain rfl : v = w := by omega
        exact absurd (List.mem_append.2 (.inr (List.mem_singleton.2 rfl))) e2
    · rw [R.delM_ne ha, h.ka]
      constructor
      · rintro ⟨w, hw, e1, e2, e3, e4⟩
        refine ⟨w, hw, e1, fun q => ?_, e3, e4⟩
        rcases List.mem_append.1 q with q | q
        · exact e2 q
        · exact ha (by rw [e1, List.mem_singleton.1 q])
      · rintro ⟨w, hw, e1, e2, e3, e4⟩
        exact ⟨w, hw, e1, fun q => e2 (List.mem_append.2 (.inl q)), e3, e4⟩
  · rcases List.mem_append.1 hu with q | q
    · exact h.fi u q
    · rw [List.mem_singleton.1 q]; exact ⟨hv, hf⟩
  · rw [List.nodup_append]
    refine ⟨h.nd, by simp, fun a ha b hb e => ?_⟩
    rw [List.mem_singleton.1 hb] at e
    exact hvS (by rw [← e]; exact ha)
  · rcases List.mem_append.1 hu with q | q
    · have := h.mx u q
      have := h.mn v hv hvS
      omega
    · rw [List.mem_singleton.1 q]; exact Int.le_refl _
  · exact hmin w hw fun q => hwS (List.mem_append.2 (.inl q))
  · rcases List.mem_append.1 hu with q | q
    · exact h.re u q hne i h1 h2 (fun e => by have := (h.fi u q).1; omega) h4 h5
    · rw [List.mem_singleton.1 q] at h1 h2 h3
      have := h3 rfl
      omega
  · obtain ⟨q1, q2, q3, q4⟩ := h.su w hw hff
    refine ⟨q1, q2, ?_, ?_⟩
    · rw [List.idxOf_append]
      split
      · exact q3
      · rename_i hn
        rw [List.idxOf_eq_length hn] at q3
        omega
    · rcases q4 with q4 | ⟨u, i, r1, r3, r4, r5, r6, r7⟩
      · exact .inl q4
      · exact .inr ⟨u, i, List.mem_append.2 (.inl r1), r3, r4, r5, r6, idx_app r1 r7⟩
  · rw [List.pairwise_append]
    refine ⟨h.so, by simp, fun a ha b hb => ?_⟩
    rw [List.mem_singleton.1 hb]
    have := h.mx a ha
    have := h.mn v hv hvS
    omega
theorem Wv.close (h : Wv I src most hop cs hs κ S k x j) (hj : I.S (x + 1) ≤ j ∨ hs x = hop) : Wv I src most hop cs hs κ S k I.n 0 :=
  ⟨h.bd, h.ka, h.fi, h.nd, h.mx, h.mn, fun u hu hne i h1 h2 _ h4 h5 => h.re u hu hne i h1 h2 (fun e => by
    rcases hj with hj | hj
    · rw [e] at h2; omega
    · rw [e] at hne; exact absurd hj hne) h4 h5, h.su, h.sr, h.so⟩
end
/-- What a short search told, beside the least costs. -/
structure Told (I : Ins) (most hop cnt : Int) (cs : Nat → Int) (S : List Nat) (C : List Int) : Prop where
  nd : S.Nodup
  inn : ∀ u ∈ S, u < I.n ∧ I.op u = true ∧ nth C u ≤ cs u ∧ cs u ≤ most
  all : (I.n : Int) ≤ hop → (I.n : Int) ≤ cnt → (∀ u ∈ S, cs u = nth C u) ∧ ∀ v, v < I.n → nth C v < 4611686018427387904 → nth C v ≤ most → v ∈ S
  fin : ∀ u ∈ S, cs u < 4611686018427387904
theorem Wv.told {I : Ins} {src : Nat} {most hop cnt : Int} {cs hs : Nat → Int} {κ : Int → Option Int} {S T : List Nat} {k : Int} {C P : List Int} (h : Wv I src most hop cs hs κ S k I.n 0) (hI : I.Ok) (hst : I.st = [(src, 0)]) (hso : I.op src = true) (hL : Least I C P T)
    (hend : (∀ a, κ a = none) ∨ cnt ≤ (S.length : Nat)) : Told I most hop cnt cs S C := by
  have hlow : ∀ (t v : Nat), S.idxOf v < t → v < I.n → cs v < 4611686018427387904 → nth C v ≤ cs v := by
    intro t
    induction t with
    | zero => intro v h1; exact absurd h1 (Nat.not_lt_zero _)
    | succ t ih =>
      intro v h1 hv hf
      obtain ⟨q1, q2, q3, q4⟩ := h.su v hv hf
      rcases q4 with ⟨r1, r2⟩ | ⟨u, i, r1, r3, r4, r5, r6, r7⟩
      · have := hL.sa (src, 0) (by rw [hst]; exact .head _) hso
        rw [r1]
        rw [r1] at r2
        rw [r2]
        exact this
      · have hu := h.fi u r1
        have h2 := ih u (by omega) hu.1 hu.2
        have hw := hI.hd u i hu.1 r3 r4
        have h3 := hL.cl u hu.1 (by omega) i r3 r4 (by rw [r5]; exact q1)
        rw [r5] at h3
        omega
  refine ⟨h.nd, fun u hu => ?_, fun h1 h2 => ?_, fun u hu => (h.fi u hu).2⟩
  · have hf := h.fi u hu
    have hb := h.bd u hf.1
    exact ⟨hf.1, (h.su u hf.1 hf.2).1, hlow _ u (Nat.lt_succ_self _) hf.1 hf.2, by omega⟩
  · have hin : ∀ v, v < I.n → cs v < 4611686018427387904 → v ∈ S := fun v hv hf => by
      rcases hend with hκ | hc
      · rcases Classical.em (v ∈ S) with q | q
        · exact q
        · have := (h.ka (v : Nat) (cs v)).2 ⟨v, hv, rfl, q, rfl, hf⟩
          rw [hκ] at this
          cases this
      · have hl : I.n ≤ S.length := by omega
        rcases Classical.em (v ∈ S) with q | q
        · exact q
        · have hnd : (v :: S).Nodup := List.nodup_cons.2 ⟨q, h.nd⟩
          have := nodup_le (n := I.n) hnd fun u hu => by
            rcases List.mem_cons.1 hu with rfl | q
            · exact hv
            · exact (h.fi u q).1
          rw [List.length_cons] at this
          omega
    have key : ∀ (t v : Nat), T.idxOf v < t → v < I.n → nth C v < 4611686018427387904 → nth C v ≤ most → cs v ≤ nth C v := by
      intro t
      induction t with
      | zero => intro v h1; exact absurd h1 (Nat.not_lt_zero _)
      | succ t ih =>
        intro v h3 hv hf hm
        obtain ⟨q1, q2⟩ := hL.su v hv hf
        rcases q2 with ⟨r1, r2⟩ | ⟨u, i, r1, r2, r3, r4, r5, r6, r7⟩
        · rw [hst] at r2
          have hx := List.mem_singleton.1 r2
          injection hx with x0 x1
          rw [x0, h.sr, ← x0, x1]
          exact Int.le_refl _
        · have hu := (hL.fi u).1 r1
          have hw := hI.hd u i hu.1 r3 r4
          have h4 := ih u (by omega) hu.1 hu.2 (by omega)
          have h5 := hlow _ u (Nat.lt_succ_self _) hu.1 (by omega)
          have huS := hin u hu.1 (by omega)
          have hsu := (h.su u hu.1 (by omega)).2.2.1
          have hidx := List.idxOf_lt_length_iff.2 huS
          have hlen := h.len
          have h6 := h.re u huS (by omega) i r3 r4 (fun e => by omega) (by rw [r5]; exact q1) (by omega)
          rw [r5] at h6
          omega
    refine ⟨fun u hu => ?_, fun v hv hf hm => hin v hv (by have := key _ v (Nat.lt_succ_self _) hv hf hm; omega)⟩
    have hf := h.fi u hu
    have hb := h.bd u hf.1
    have hl := hlow _ u (Nat.lt_succ_self _) hf.1 hf.2
    have := key _ u (Nat.lt_succ_self _) hf.1 (by omega) (by omega)
    omega
/-- What the map tells. -/
def csQ (q : Int → Option (Int × Int)) (v : Nat) : Int := match q (v : Nat) with | some p => p.1 | none => 4611686018427387904
def hsQ (q : Int → Option (Int × Int)) (v : Nat) : Int := match q (v : Nat) with | some p => p.2 | none => 0
theorem csQ_put (q : Int → Option (Int × Int)) (v w : Nat) (p : Int × Int) : csQ (R.putQ q (v : Nat) p) w = if v = w then p.1 else csQ q w := by
  unfold csQ
  by_cases e : v = w
  · rw [if_pos e, e, R.putQ_same]
  · rw [if_neg e, R.putQ_ne (by omega)]
theorem hsQ_put (q : Int → Option (Int × Int)) (v w : Nat) (p : Int × Int) : hsQ (R.putQ q (v : Nat) p) w = if v = w then p.2 else hsQ q w := by
  unfold hsQ
  by_cases e : v = w
  · rw [if_pos e, e, R.putQ_same]
  · rw [if_neg e, R.putQ_ne (by omega)]
/-- What is reached. -/
def rchQ (past most : Int) (κ : Int → Option Int) (q : Int → Option (Int × Int)) (v : Nat) (c h : Int) : (Int → Option Int) × (Int → Option (Int × Int)) := if ((v : Nat) : Int) ≠ past ∧ c ≤ most ∧ c < csQ q v then (R.putM κ (v : Nat) c, R.putQ q (v : Nat) (c, h)) else (κ, q)
theorem Wv.start {I : Ins} {src : Nat} {most hop : Int} (hs : src < I.n) (hso : I.op src = true) (hm : 0 ≤ most) : Wv I src most hop (csQ (R.putQ (fun _ => none) (src : Nat) (0, 0))) (hsQ (R.putQ (fun _ => none) (src : Nat) (0, 0))) (R.putM (fun _ => none) (src : Nat) 0) [] 0 I.n 0 := by
  have hc : ∀ w, csQ (R.putQ (fun _ => none) (src : Nat) (0, 0)) w = if src = w then 0 else 4611686018427387904 := fun w => csQ_put _ _ _ _
  have hh : ∀ w, hsQ (R.putQ (fun _ => none) (src : Nat) (0, 0)) w = if src = w then 0 else 0 := fun w => hsQ_put _ _ _ _
  refine ⟨fun v hv => ?_, fun a c => ?_, fun u hu => (by cases hu), List.nodup_nil, fun u hu => (by cases hu), fun v hv _ => ?_, fun u hu => (by cases hu), fun v hv hf => ?_, by rw [hc, if_pos rfl], .nil⟩
  · rw [hc]
    split
    · exact .inr ⟨Int.le_refl _, hm, by simp⟩
    · exact .inl rfl
  · by_cases ha : a = (src : Nat)
    · rw [ha, R.putM_same]
      constructor
      · intro q
        injection q with q
        exact ⟨src, hs, rfl, by simp, by rw [hc, if_pos rfl]; exact q, by omega⟩
      · rintro ⟨w, hw, e1, e2, e3, e4⟩
        obtain rfl : src = w := by omega
        rw [hc, if_pos rfl] at e3
        rw [e3]
    · rw [R.putM_ne ha]
      constructor
      · intro q; cases q
      · rintro ⟨w, hw, e1, e2, e3, e4⟩
        rw [hc, if_neg (fun q => ha (by rw [e1, q]))] at e3
        omega
  · rw [hc]
    split <;> omega
  · rw [hc] at hf
    by_cases e : src = v
    · subst e
      exact ⟨hso, by rw [hh]; simp, by rw [hh]; simp, .inl ⟨rfl, by rw [hc, if_pos rfl]⟩⟩
    · rw [if_neg e] at hf
      omega
/-- An arc gone through. -/
theorem Wv.relax {I : Ins} {src : Nat} {most hop past : Int} {κ : Int → Option Int} {q : Int → Option (Int × Int)} {S : List Nat} {k : Int} {x j : Nat} (h : Wv I src most hop (csQ q) (hsQ q) κ S k x j) (hI : I.Ok) (hop1 : ∀ u, u < I.n → (I.op u = true ↔ ((u : Nat) : Int) ≠ past)) (hx : x ∈ S) (hk : csQ q x = k) (hb : k + 2147483648 ≤ S.length * 2147483648) (h1 : I.S x ≤ j) (h2 : j < I.S (x + 1)) :
    Wv I src most hop (csQ (rchQ past most κ q (I.H j) (k + I.W j) (hsQ q x + 1)).2) (hsQ (rchQ past most κ q (I.H j) (k + I.W j) (hsQ q x + 1)).2) (rchQ past most κ q (I.H j) (k + I.W j) (hsQ q x + 1)).1 S k x (j + 1) ∧ ∀ u ∈ S, csQ (rchQ past most κ q (I.H j) (k + I.W j) (hsQ q x + 1)).2 u = csQ q u ∧ hsQ (rchQ past most κ q (I.H j) (k + I.W j) (hsQ q x + 1)).2 u = hsQ q u := by
  have hxn := (h.fi x hx).1
  obtain ⟨hv, _⟩ := hI.hd x j hxn h1 h2
  unfold rchQ
  by_cases hc : ((I.H j : Nat) : Int) ≠ past ∧ k + I.W j ≤ most ∧ k + I.W j < csQ q (I.H j)
  · rw [if_pos hc]
    exact h.put hI hx hk hb h1 h2 ((hop1 _ hv).2 hc.1) hc.2.1 hc.2.2 (fun w => csQ_put _ _ _ _) (fun w => hsQ_put _ _ _ _)
  · rw [if_neg hc]
    refine ⟨h.skip hk fun ho hm => ?_, fun u _ => ⟨rfl, rfl⟩⟩
    have : ¬ (k + I.W j < csQ q (I.H j)) := fun e => hc ⟨(hop1 _ hv).1 ho, hm, e⟩
    omega
/-- How many hold. -/
theorem cnt_eq (L : List Int) (p : Int → Bool) : L.countP p = ((List.range L.length).filter fun i => p (nth L i)).length := by
  have e : L = (List.range L.length).map (nth L) := by
    refine List.ext_getElem (by simp) fun i h1 h2 => ?_
    rw [List.getElem_map, List.getElem_range, R.nth_eq h1]
  rw [List.countP_eq_length_filter]
  conv => lhs; rw [e]
  rw [List.filter_map, List.length_map]
  rfl
theorem cnt_mem {L : List Int} {p : Int → Bool} {S : List Nat} (hn : S.Nodup) (h : ∀ v, v ∈ S ↔ v < L.length ∧ p (nth L v) = true) : L.countP p = S.length := by
  rw [cnt_eq]
  refine Nat.le_antisymm (((range_nodup _).sublist List.filter_sublist).length_le_of_subset fun v hv => ?_) (hn.length_le_of_subset fun v hv => ?_)
  · obtain ⟨h1, h2⟩ := List.mem_filter.1 hv
    exact (h v).2 ⟨List.mem_range.1 h1, h2⟩
  · exact List.mem_filter.2 ⟨List.mem_range.2 ((h v).1 hv).1, ((h v).1 hv).2⟩
end Go.Proofs.Ytegbidklcaccjaa
