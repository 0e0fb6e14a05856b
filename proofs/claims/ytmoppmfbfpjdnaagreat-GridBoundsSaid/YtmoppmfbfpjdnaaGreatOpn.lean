/- What an argument is, by its type: whole numbers, bools, slices, structs of these. -/
import Derived.Test.YtmoppmfbfpjdnaaGreatGo
import Derived.Test.YtmoppmfbfpjdnaaGreatFrame
import Derived.ProofKit
import Derived.OpenShut
import Derived.Deep.Slices
namespace Go.Proofs.YtmoppmfbfpjdnaaGreat.R
open Go.ChangeShapes Go.WideShapes Go.ChangeAt Go.RowKit

/-- What reads at the type t is 'enc z', for a z that is good. -/
class Opn (P : Program) (t : TypeId) (T : outParam Type) (enc : outParam (T → List Value)) (G : outParam (World → T → Prop)) : Prop where
  h : ∀ {H : Type} {eh : TypeId × Value → H} {W : World} {base : Nat} {sp : Nat → Bool} {held : Bool} {fuel : Nat} {cs : List Value} {x : DataW H × List MemPlace}, DataW.trod eh P W base sp held fuel t cs = some x → ∃ z, cs = enc z ∧ G W z
/-- A slice: where it lies, and what it reads as. -/
structure Sl (T : Type) where
  A : Option Addr
  n : Nat
  c : Nat
  L : List T
instance {T : Type} : Inhabited (Sl T) := ⟨⟨none, 0, 0, []⟩⟩
def cSl {T : Type} (s : Sl T) : List Value := [.slice s.A s.n s.c]
def GSl {T : Type} (enc : T → List Value) (sz : Nat) (G : World → T → Prop) (W : World) (s : Sl T) : Prop := Inp [] W s.A s.n sz (s.L.flatMap enc) ∧ s.n = s.L.length ∧ (s.n ≤ s.c ∧ s.c ≤ 9223372036854775807) ∧ ∀ x ∈ s.L, G W x
instance encc_Sl {T : Type} : EncC (cSl (T := T)) 1 := ⟨fun _ => rfl, by simp [cSl, Value.oneCell'], by decide⟩
section
variable {P : Program} {t e : TypeId}
theorem opn_int {k : IntKind} {c : Int → List Value} (h : P.underlying t = some (.int k)) (hc : ∀ n, c n = [.int k n]) : Opn P t Int c (fun _ n => (Lit.int k n).wf = true) := ⟨fun hx => by
  obtain ⟨n, h1, _, hw⟩ := DataW.trod_int h hx
  exact ⟨n, by rw [hc]; exact h1, hw⟩⟩
theorem opn_bool (h : P.underlying t = some .bool) : Opn P t Bool cB (fun _ _ => True) := ⟨fun hx => by
  obtain ⟨b, h1, _⟩ := DataW.trod_bool h hx
  exact ⟨b, h1, trivial⟩⟩
theorem cells_read {w : World} {base n : Nat} {a : Addr} {l : List Value} (h : w.cells? base a n = some l) : l.length = n ∧ ∀ i v, l[i]? = some v → w.cell? (a.add i) = some v := by
  unfold World.cells? at h
  split at h
  · have key : ∀ (k m : Nat) (l : List Value), (List.range' k m).mapM (fun i => w.cell? (a.add i)) = some l → l.length = m ∧ ∀ i v, l[i]? = some v → w.cell? (a.add (k + i)) = some v := by
      intro k m
      induction m generalizing k with
      | zero => intro l h; simp at h; subst h; simp
      | succ m ih =>
        intro l h
        rw [List.range'_succ, List.mapM_cons] at h
        simp only [bind, Option.bind_eq_some_iff, pure, Option.some.injEq] at h
        obtain ⟨v0, h0, l', h1, rfl⟩ := h
        obtain ⟨h2, h3⟩ := ih (k + 1) l' h1
        refine ⟨by simp [h2], fun i v hi => ?_⟩
        cases i with
        | zero => simp at hi; subst hi; exact h0
        | succ i =>
          have := h3 i v (by simpa using hi)
          rwa [Nat.add_assoc, Nat.add_comm 1 i] at this
    have := key 0 n l (by rwa [List.range_eq_range'] at h)
    simpa using this
  · cases h
theorem opn_slice {T : Type} [Inhabited T] {enc : T → List Value} {sz : Nat} {G : World → T → Prop} (h : P.underlying t = some (.slice e)) (hc : P.cellsOf e = sz) [E : EncC enc sz] [O : Opn P e T enc G] : Opn P t (Sl T) cSl (GSl enc sz G) := ⟨fun {H eh W base sp held fuel cs x} hx => by
  rcases Go.Deep.open_slice h hx with ⟨rfl, _⟩ | ⟨a, len, cap, m, n, D, Pl, rfl, hb, hl, hm, hmm, _, hel⟩
  · exact ⟨⟨none, 0, 0, []⟩, rfl, Inp.nil _ _ _ _, rfl, by simp, by simp⟩
  · have hle : len ≤ m := by rw [hmm]; split <;> omega
    have key : ∀ i, ∃ z : T, i < len → (W.cells? base (a.add (i * sz)) sz = some (enc z) ∧ G W z) := fun i => by
      by_cases hi : i < len
      · obtain ⟨cs', h1, h2⟩ := hel i (by omega)
        obtain ⟨z, rfl, hg⟩ := O.h h2
        rw [hc] at h1
        exact ⟨z, fun _ => ⟨h1, hg⟩⟩
      · exact ⟨default, fun hi' => absurd hi' hi⟩
    let z : Nat → T := fun i => Classical.choose (key i)
    have hz : ∀ i, i < len → W.cells? base (a.add (i * sz)) sz = some (enc (z i)) ∧ G W (z i) := fun i hi => Classical.choose_spec (key i) hi
    refine ⟨⟨some a, len, cap, (List.range len).map z⟩, rfl, ⟨?_, ?_⟩, by simp, by simp only [maxLen] at hm; exact ⟨hl, by omega⟩, ?_⟩
    · rw [flat_len E.len]; simp
    · intro j v hj
      have hlt : j < ((List.range len).map z).length * sz := by
        have := (List.getElem?_eq_some_iff.1 hj).1
        rwa [flat_len E.len] at this
      have hp := E.pos
      have hi : j / sz < len := by
        rw [List.length_map, List.length_range] at hlt
        exact Nat.div_lt_of_lt_mul (by rw [Nat.mul_comm]; exact hlt)
      have hr : j % sz < sz := Nat.mod_lt _ hp
      have hd : j / sz * sz + j % sz = j := by rw [Nat.mul_comm]; exact Nat.div_add_mod j sz
      rw [← hd, flat_get E.len _ (j / sz) (j % sz) (z (j / sz)) (by simp [hi]) hr] at hj
      obtain ⟨h1, _⟩ := hz _ hi
      have hcell := (cells_read h1).2 _ _ hj
      rw [add_twice, hd] at hcell
      refine ⟨a, rfl, ?_, by simp, hcell⟩
      have hlt2 : (a.add j).block < W.heap.size := World.block_lt_of_cell? W _ hcell
      rwa [add_block] at hlt2
    · intro x hx
      obtain ⟨i, hi, rfl⟩ := List.mem_map.1 hx
      exact (hz i (List.mem_range.1 hi)).2⟩
/-- A struct's i-th field: where it lies, its type, how many cells it has. -/
def fldAt (P : Program) (t : TypeId) (i : Nat) : Option (Nat × TypeId × Nat) := match P.underlying t with
  | some (.struct fs) => (fs[i]?).map fun f => (f.offset, f.type, P.cellsOf f.type)
  | _ => none
theorem mapM_all {α β : Type} {f : α → Option β} : ∀ {l : List α} {ys : List β}, l.mapM f = some ys → ∀ a ∈ l, ∃ y, f a = some y
  | [], _, _, a, h => by cases h
  | b :: l, ys, hm, a, h => by
    rw [List.mapM_cons] at hm
    simp only [bind, Option.bind_eq_some_iff, pure] at hm
    obtain ⟨y, hy, zs, hz, _⟩ := hm
    rcases List.mem_cons.1 h with rfl | h
    · exact ⟨y, hy⟩
    · exact mapM_all hz a h
theorem trod_fld {H : Type} {eh : TypeId × Value → H} {W : World} {base : Nat} {sp : Nat → Bool} {held : Bool} {fuel : Nat} {cs : List Value} {x : DataW H × List MemPlace} {i off ty n : Nat} (hf : fldAt P t i = some (off, ty, n)) (h : DataW.trod eh P W base sp held fuel t cs = some x) :
    cs.length = P.cellsOf t ∧ ∃ m y, DataW.trod eh P W base sp held m ty ((cs.drop off).take n) = some y := by
  unfold fldAt at hf
  split at hf
  · rename_i fs hu
    rw [Option.map_eq_some_iff] at hf
    obtain ⟨fd, h1, h2⟩ := hf
    simp only [Prod.mk.injEq] at h2
    obtain ⟨rfl, rfl, rfl⟩ := h2
    cases fuel with
    | zero => simp [DataW.trod] at h
    | succ m =>
      rw [DataW.trod_step] at h
      unfold DataW.trodStep at h
      simp only [hu] at h
      split at h
      · rename_i hl
        rw [Option.map_eq_some_iff] at h
        obtain ⟨ys, hy, _⟩ := h
        exact ⟨hl, m, mapM_all hy fd (by rw [Array.mem_toList_iff]; exact Array.mem_of_getElem? h1)⟩
      · cases h
  · cases hf
theorem cat_cons {cs x r : List Value} {o n : Nat} (h1 : (cs.drop o).take n = x) (h2 : cs.drop (o + n) = r) : cs.drop o = x ++ r := by
  rw [← h1, ← h2, ← List.drop_drop, List.take_append_drop]
theorem cat_nil {cs : List Value} {o : Nat} (h : cs.length = o) : cs.drop o = [] := List.drop_of_length_le (by omega)

theorem opn_struct1 {T0 : Type} {e0 : T0 → List Value} {G0 : World → T0 → Prop} {t0 n0 : Nat} {o0 : Nat} {T : Type} {enc : T → List Value} {G : World → T → Prop} (f0 : fldAt P t 0 = some (o0, t0, n0)) [O0 : Opn P t0 T0 e0 G0] (q0 : o0 = 0) (qt : P.cellsOf t = 0 + n0) (mk : T0 → T)
    (hm : ∀ z0, enc (mk z0) = e0 z0 ++ ([])) (hg : ∀ W z0, G0 W z0 → G W (mk z0)) : Opn P t T enc G := ⟨fun {H eh W base sp held fuel cs x} hx => by
  subst q0
  obtain ⟨hl0, m0, y0, hy0⟩ := trod_fld f0 hx
  obtain ⟨z0, hz0, g0⟩ := O0.h hy0
  refine ⟨mk z0, ?_, hg W z0 g0⟩
  rw [hm]
  have := (cat_cons (o := 0) (n := n0) hz0 (cat_nil (o := 0 + n0) (by rw [hl0, qt])))
  simpa using this⟩
theorem opn_struct2 {T0 : Type} {e0 : T0 → List Value} {G0 : World → T0 → Prop} {t0 n0 : Nat} {T1 : Type} {e1 : T1 → List Value} {G1 : World → T1 → Prop} {t1 n1 : Nat} {o0 o1 : Nat} {T : Type} {enc : T → List Value} {G : World → T → Prop} (f0 : fldAt P t 0 = some (o0, t0, n0)) [O0 : Opn P t0 T0 e0 G0] (f1 : fldAt P t 1 = some (o1, t1, n1)) [O1 : Opn P t1 T1 e1 G1] (q0 : o0 = 0) (q1 : o1 = 0 + n0) (qt : P.cellsOf t = 0 + n0 + n1) (mk : T0 → T1 → T)
    (hm : ∀ z0 z1, enc (mk z0 z1) = e0 z0 ++ (e1 z1 ++ ([]))) (hg : ∀ W z0 z1, G0 W z0 → G1 W z1 → G W (mk z0 z1)) : Opn P t T enc G := ⟨fun {H eh W base sp held fuel cs x} hx => by
  subst q0 q1
  obtain ⟨hl0, m0, y0, hy0⟩ := trod_fld f0 hx
  obtain ⟨z0, hz0, g0⟩ := O0.h hy0
  obtain ⟨hl1, m1, y1, hy1⟩ := trod_fld f1 hx
  obtain ⟨z1, hz1, g1⟩ := O1.h hy1
  refine ⟨mk z0 z1, ?_, hg W z0 z1 g0 g1⟩
  rw [hm]
  have := (cat_cons (o := 0) (n := n0) hz0 (cat_cons (o := 0 + n0) (n := n1) hz1 (cat_nil (o := 0 + n0 + n1) (by rw [hl0, qt]))))
  simpa using this⟩
theorem opn_struct3 {T0 : Type} {e0 : T0 → List Value} {G0 : World → T0 → Prop} {t0 n0 : Nat} {T1 : Type} {e1 : T1 → List Value} {G1 : World → T1 → Prop} {t1 n1 : Nat} {T2 : Type} {e2 : T2 → List Value} {G2 : World → T2 → Prop} {t2 n2 : Nat} {o0 o1 o2 : Nat} {T : Type} {enc : T → List Value} {G : World → T → Prop} (f0 : fldAt P t 0 = some (o0, t0, n0)) [O0 : Opn P t0 T0 e0 G0] (f1 : fldAt P t 1 = some (o1, t1, n1)) [O1 : Opn P t1 T1 e1 G1] (f2 : fldAt P t 2 = some (o2, t2, n2)) [O2 : Opn P t2 T2 e2 G2] (q0 : o0 = 0) (q1 : o1 = 0 + n0) (q2 : o2 = 0 + n0 + n1) (qt : P.cellsOf t = 0 + n0 + n1 + n2) (mk : T0 → T1 → T2 → T)
    (hm : ∀ z0 z1 z2, enc (mk z0 z1 z2) = e0 z0 ++ (e1 z1 ++ (e2 z2 ++ ([])))) (hg : ∀ W z0 z1 z2, G0 W z0 → G1 W z1 → G2 W z2 → G W (mk z0 z1 z2)) : Opn P t T enc G := ⟨fun {H eh W base sp held fuel cs x} hx => by
  subst q0 q1 q2
  obtain ⟨hl0, m0, y0, hy0⟩ := trod_fld f0 hx
  obtain ⟨z0, hz0, g0⟩ := O0.h hy0
  obtain ⟨hl1, m1, y1, hy1⟩ := trod_fld f1 hx
  obtain ⟨z1, hz1, g1⟩ := O1.h hy1
  obtain ⟨hl2, m2, y2, hy2⟩ := trod_fld f2 hx
  obtain ⟨z2, hz2, g2⟩ := O2.h hy2
  refine ⟨mk z0 z1 z2, ?_, hg W z0 z1 z2 g0 g1 g2⟩
  rw [hm]
  have := (cat_cons (o := 0) (n := n0) hz0 (cat_cons (o := 0 + n0) (n := n1) hz1 (cat_cons (o := 0 + n0 + n1) (n := n2) hz2 (cat_nil (o := 0 + n0 + n1 + n2) (by rw [hl0, qt])))))
  simpa using this⟩
theorem opn_struct4 {T0 : Type} {e0 : T0 → List Value} {G0 : World → T0 → Prop} {t0 n0 : Nat} {T1 : Type} {e1 : T1 → List Value} {G1 : World → T1 → Prop} {t1 n1 : Nat} {T2 : Type} {e2 : T2 → List Value} {G2 : World → T2 → Prop} {t2 n2 : Nat} {T3 : Type} {e3 : T3 → List Value} {G3 : World → T3 → Prop} {t3 n3 : Nat} {o0 o1 o2 o3 : Nat} {T : Type} {enc : T → List Value} {G : World → T → Prop} (f0 : fldAt P t 0 = some (o0, t0, n0)) [O0 : Opn P t0 T0 e0 G0] (f1 : fldAt P t 1 = some (o1, t1, n1)) [O1 : Opn P t1 T1 e1 G1] (f2 : fldAt P t 2 = some (o2, t2, n2)) [O2 : Opn P t2 T2 e2 G2] (f3 : fldAt P t 3 = some (o3, t3, n3)) [O3 : Opn P t3 T3 e3 G3] (q0 : o0 = 0) (q1 : o1 = 0 + n0) (q2 : o2 = 0 + n0 + n1) (q3 : o3 = 0 + n0 + n1 + n2) (qt : P.cellsOf t = 0 + n0 + n1 + n2 + n3) (mk : T0 → T1 → T2 → T3 → T)
    (hm : ∀ z0 z1 z2 z3, enc (mk z0 z1 z2 z3) = e0 z0 ++ (e1 z1 ++ (e2 z2 ++ (e3 z3 ++ ([]))))) (hg : ∀ W z0 z1 z2 z3, G0 W z0 → G1 W z1 → G2 W z2 → G3 W z3 → G W (mk z0 z1 z2 z3)) : Opn P t T enc G := ⟨fun {H eh W base sp held fuel cs x} hx => by
  subst q0 q1 q2 q3
  obtain ⟨hl0, m0, y0, hy0⟩ := trod_fld f0 hx
  obtain ⟨z0, hz0, g0⟩ := O0.h hy0
  obtain ⟨hl1, m1, y1, hy1⟩ := trod_fld f1 hx
  obtain ⟨z1, hz1, g1⟩ := O1.h hy1
  obtain ⟨hl2, m2, y2, hy2⟩ := trod_fld f2 hx
  obtain ⟨z2, hz2, g2⟩ := O2.h hy2
  obtain ⟨hl3, m3, y3, hy3⟩ := trod_fld f3 hx
  obtain ⟨z3, hz3, g3⟩ := O3.h hy3
  refine ⟨mk z0 z1 z2 z3, ?_, hg W z0 z1 z2 z3 g0 g1 g2 g3⟩
  rw [hm]
  have := (cat_cons (o := 0) (n := n0) hz0 (cat_cons (o := 0 + n0) (n := n1) hz1 (cat_cons (o := 0 + n0 + n1) (n := n2) hz2 (cat_cons (o := 0 + n0 + n1 + n2) (n := n3) hz3 (cat_nil (o := 0 + n0 + n1 + n2 + n3) (by rw [hl0, qt]))))))
  simpa using this⟩
theorem opn_struct5 {T0 : Type} {e0 : T0 → List Value} {G0 : World → T0 → Prop} {t0 n0 : Nat} {T1 : Type} {e1 : T1 → List Value} {G1 : World → T1 → Prop} {t1 n1 : Nat} {T2 : Type} {e2 : T2 → List Value} {G2 : World → T2 → Prop} {t2 n2 : Nat} {T3 : Type} {e3 : T3 → List Value} {G3 : World → T3 → Prop} {t3 n3 : Nat} {T4 : Type} {e4 : T4 → List Value} {G4 : World → T4 → Prop} {t4 n4 : Nat} {o0 o1 o2 o3 o4 : Nat} {T : Type} {enc : T → List Value} {G : World → T → Prop} (f0 : fldAt P t 0 = some (o0, t0, n0)) [O0 : Opn P t0 T0 e0 G0] (f1 : fldAt P t 1 = some (o1, t1, n1)) [O1 : Opn P t1 T1 e1 G1] (f2 : fldAt P t 2 = some (o2, t2, n2)) [O2 : Opn P t2 T2 e2 G2] (f3 : fldAt P t 3 = some (o3, t3, n3)) [O3 : Opn P t3 T3 e3 G3] (f4 : fldAt P t 4 = some (o4, t4, n4)) [O4 : Opn P t4 T4 e4 G4] (q0 : o0 = 0) (q1 : o1 = 0 + n0) (q2 : o2 = 0 + n0 + n1) (q3 : o3 = 0 + n0 + n1 + n2) (q4 : o4 = 0 + n0 + n1 + n2 + n3) (qt : P.cellsOf t = 0 + n0 + n1 + n2 + n3 + n4) (mk : T0 → T1 → T2 → T3 → T4 → T)
    (hm : ∀ z0 z1 z2 z3 z4, enc (mk z0 z1 z2 z3 z4) = e0 z0 ++ (e1 z1 ++ (e2 z2 ++ (e3 z3 ++ (e4 z4 ++ ([])))))) (hg : ∀ W z0 z1 z2 z3 z4, G0 W z0 → G1 W z1 → G2 W z2 → G3 W z3 → G4 W z4 → G W (mk z0 z1 z2 z3 z4)) : Opn P t T enc G := ⟨fun {H eh W base sp held fuel cs x} hx => by
  subst q0 q1 q2 q3 q4
  obtain ⟨hl0, m0, y0, hy0⟩ := trod_fld f0 hx
  obtain ⟨z0, hz0, g0⟩ := O0.h hy0
  obtain ⟨hl1, m1, y1, hy1⟩ := trod_fld f1 hx
  obtain ⟨z1, hz1, g1⟩ := O1.h hy1
  obtain ⟨hl2, m2, y2, hy2⟩ := trod_fld f2 hx
  obtain ⟨z2, hz2, g2⟩ := O2.h hy2
  obtain ⟨hl3, m3, y3, hy3⟩ := trod_fld f3 hx
  obtain ⟨z3, hz3, g3⟩ := O3.h hy3
  obtain ⟨hl4, m4, y4, hy4⟩ := trod_fld f4 hx
  obtain ⟨z4, hz4, g4⟩ := O4.h hy4
  refine ⟨mk z0 z1 z2 z3 z4, ?_, hg W z0 z1 z2 z3 z4 g0 g1 g2 g3 g4⟩
  rw [hm]
  have := (cat_cons (o := 0) (n := n0) hz0 (cat_cons (o := 0 + n0) (n := n1) hz1 (cat_cons (o := 0 + n0 + n1) (n := n2) hz2 (cat_cons (o := 0 + n0 + n1 + n2) (n := n3) hz3 (cat_cons (o := 0 + n0 + n1 + n2 + n3) (n := n4) hz4 (cat_nil (o := 0 + n0 + n1 + n2 + n3 + n4) (by rw [hl0, qt])))))))
  simpa using this⟩
/-- The argument itself. -/
theorem open_arg {H : Type} {eh : TypeId × Value → H} {W : World} {base : Nat} {sp : Nat → Bool} {held : Bool} {r : Reach} {b0 : Nat} {v : Value} {d : DataW H} {ps : List MemPlace} {T : Type} {enc : T → List Value} {G : World → T → Prop} [O : Opn P t T enc G] (hval : Value.okWide P W r b0 t v) (hd : DataW.Trod eh P W base sp held t v d ps) :
    ∃ z, v.cells.toList = enc z ∧ G W z ∧ (kindT P t = some true → v = .agg (enc z).toArray) ∧ (kindT P t = some false → ∀ c, enc z = [c] → v = c) := by
  obtain ⟨fuel, hf⟩ := hd
  obtain ⟨z, hz, hg⟩ := O.h hf
  refine ⟨z, hz, hg, fun hk => ?_, fun hk c hc => ?_⟩
  · unfold kindT at hk
    unfold Value.okWide at hval
    split at hval
    · obtain ⟨cs, rfl, _⟩ := hval; rw [← hz]; rfl
    · obtain ⟨cs, rfl, _⟩ := hval; rw [← hz]; rfl
    · rename_i h1 h2
      cases hu : P.underlying t with
      | none => simp [hu] at hk
      | some d => cases d <;> simp_all
  · rw [hc] at hz
    cases v with
    | agg cs =>
      exfalso
      unfold kindT at hk
      unfold Value.okWide at hval
      split at hval
      · rename_i fs hu; simp [hu] at hk
      · rename_i hu; simp [hu] at hk
      · unfold Cell.okWide at hval
        split at hval <;> first | (rename_i hh; cases hh) | (unfold Cell.ok at hval; split at hval <;> first | (rename_i hh; cases hh) | exact hval.elim | simp_all) | simp_all
    | _ => simpa [Value.cells] using hz
end
end Go.Proofs.YtmoppmfbfpjdnaaGreat.R
