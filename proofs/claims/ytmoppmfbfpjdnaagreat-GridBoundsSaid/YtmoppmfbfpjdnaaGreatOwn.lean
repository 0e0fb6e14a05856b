/- What a call holds of its own: blocks, rows that grow, maps: ONE fact, carried from world to world; what it was given and only reads. -/
import Derived.Test.YtmoppmfbfpjdnaaGreatHold
namespace Go.Proofs.YtmoppmfbfpjdnaaGreat.R
open Go.RowKit

inductive Res where
  | blk (g : Nat) (t : TypeId) (cs : List Value)
  | row (A : Option Addr) (n c : Nat) (e : TypeId) (sz : Nat) (cs : List Value)
  | map (b : Nat) (es : Array MapEntry) (clock : Nat)
def Res.key : Res → Option Nat
  | .blk g _ _ => some g
  | .row A _ _ _ _ _ => blockOf A
  | .map b _ _ => some b
def Res.ok (w : World) : Res → Prop
  | .blk g t cs => w.heap[g]? = some (.cells cs.toArray t (0, 0))
  | .row A n c e sz cs => w.ownsRow 0 e sz (.slice A n c) n cs
  | .map b es k => w.heap[b]? = some (.map es k)
theorem ownBlock_slice (A : Option Addr) (n c : Nat) : (Value.slice A n c).ownBlock = blockOf A := by cases A <;> rfl
theorem Res.ok.lt {w : World} {r : Res} (h : r.ok w) {k : Nat} (hk : r.key = some k) : k < w.heap.size := by
  cases r with
  | blk g t cs => cases hk; exact (Array.getElem?_eq_some_iff.1 h).1
  | row A n c e sz cs => exact (World.ownsRow.lt h k (by rw [ownBlock_slice]; exact hk)).2
  | map b es c => cases hk; exact (Array.getElem?_eq_some_iff.1 h).1
theorem Res.ok.keep {w w' : World} {r : Res} {row : Option Nat} (h : r.ok w) (hg : w.grownBy w' row) (hne : ∀ k, r.key = some k → row ≠ some k) : r.ok w' := by
  have hl := fun k hk => h.lt (k := k) hk
  cases r with
  | blk g t cs => exact (hg.block g (hl g rfl) (fun e => hne g rfl e.symm)).trans h
  | row A n c e sz cs =>
    refine World.ownsRow.kept h hg ?_
    rw [ownBlock_slice]
    cases hA : blockOf A with
    | none => exact .inl rfl
    | some k => exact .inr fun e => hne k hA e.symm
  | map b es c => exact (hg.block b (hl b rfl) (fun e => hne b rfl e.symm)).trans h

/-- Since W: what was there is as it was, but for the blocks of F; the things of the list are the call's own. -/
structure Own (F : List Nat) (W w : World) (l : List Res) : Prop where
  os : w.os = W.os
  tape : w.tape = W.tape
  output : w.output = W.output
  size : W.heap.size ≤ w.heap.size
  kept : ∀ k, k < W.heap.size → k ∉ F → w.heap[k]? = W.heap[k]?
  ok : ∀ r ∈ l, r.ok w
  own : ∀ r ∈ l, ∀ k, r.key = some k → W.heap.size ≤ k ∨ k ∈ F
  nodup : (l.filterMap Res.key).Nodup
inductive Upd : List Res → Res → Res → List Res → Prop
  | head {r r' l} : Upd (r :: l) r r' (r' :: l)
  | tail {p r r' l l'} (h : Upd l r r' l') : Upd (p :: l) r r' (p :: l')
section
variable {F : List Nat} {W w w' : World} {l l' : List Res} {r r' : Res}
theorem grown_of_below (h : Below w.heap.size w w') : w.grownBy w' none := ⟨h.os, h.tape, h.output, h.size, fun k hk _ => h.block k hk⟩
theorem below_of_grown (h : w.grownBy w' none) : Below w.heap.size w w' := ⟨h.os, h.tape, h.output, h.size, fun k hk => h.block k hk (by simp)⟩
theorem Own.start (F : List Nat) (W : World) : Own F W W [] := ⟨rfl, rfl, rfl, Nat.le_refl _, fun _ _ _ => rfl, by simp, by simp, by simp⟩
theorem Own.drew (h : Own F W w l) : Own F W w.drew l := ⟨h.os, h.tape, h.output, h.size, h.kept, h.ok, h.own, h.nodup⟩
theorem Own.below (h : Own [] W w l) : Below W.heap.size W w := ⟨h.os, h.tape, h.output, h.size, fun k hk => h.kept k hk (by simp)⟩
theorem Own.lt (h : Own F W w l) (hm : r ∈ l) {k : Nat} (hk : r.key = some k) : k < w.heap.size := (h.ok _ hm).lt hk
theorem Own.grown_kept (h : Own F W w l) {row : Option Nat} (hg : w.grownBy w' row) (hr : ∀ k, row = some k → W.heap.size ≤ k ∨ k ∈ F) : ∀ k, k < W.heap.size → k ∉ F → w'.heap[k]? = W.heap[k]? := fun k hk hF => by
  have := h.size
  refine (hg.block k (by omega) (fun e => ?_)).trans (h.kept k hk hF)
  rcases hr k e.symm with h1 | h1
  · omega
  · exact hF h1
theorem Own.add (h : Own F W w l) (hg : w.grownBy w' none) (hr : r.ok w') (hk : ∀ k, r.key = some k → w.heap.size ≤ k) : Own F W w' (r :: l) := by
  refine ⟨hg.os.trans h.os, hg.tape.trans h.tape, hg.output.trans h.output, Nat.le_trans h.size hg.size, h.grown_kept hg (by simp), ?_, ?_, ?_⟩
  · intro x hx
    rcases List.mem_cons.1 hx with rfl | hx
    · exact hr
    · exact (h.ok x hx).keep hg (by simp)
  · intro x hx k e
    rcases List.mem_cons.1 hx with rfl | hx
    · exact .inl (Nat.le_trans h.size (hk k e))
    · exact h.own x hx k e
  · rw [List.filterMap_cons]
    cases hkey : r.key with
    | none => exact h.nodup
    | some k =>
      refine List.nodup_cons.2 ⟨fun hm => ?_, h.nodup⟩
      obtain ⟨x, hx, hx'⟩ := List.mem_filterMap.1 hm
      have := h.lt hx hx'
      have := hk k hkey
      omega
theorem Own.call (h : Own F W w l) (hb : Below w.heap.size w w') : Own F W w' l := by
  have hg := grown_of_below hb
  exact ⟨hg.os.trans h.os, hg.tape.trans h.tape, hg.output.trans h.output, Nat.le_trans h.size hg.size, h.grown_kept hg (by simp), fun x hx => (h.ok x hx).keep hg (by simp), h.own, h.nodup⟩
theorem Own.none_ (h : Own F W w l) (hr : r.ok w) (hk : r.key = none) : Own F W w (r :: l) :=
  h.add ⟨rfl, rfl, rfl, Nat.le_refl _, fun _ _ _ => rfl⟩ hr (by rw [hk]; simp)
theorem Own.nil (h : Own F W w l) (e : TypeId) (sz : Nat) : Own F W w (.row none 0 0 e sz [] :: l) := h.none_ (World.ownsRow_nil _ _ _ _) rfl
theorem Upd.old (h : Upd l r r' l') : r ∈ l := by
  induction h with
  | head => exact .head _
  | tail _ ih => exact .tail _ ih
theorem Upd.mem (h : Upd l r r' l') (hn : (l.filterMap Res.key).Nodup) : ∀ x ∈ l', x = r' ∨ (x ∈ l ∧ ∀ k, x.key = some k → r.key ≠ some k) := by
  induction h with
  | @head r r' l =>
    intro x hx
    rcases List.mem_cons.1 hx with rfl | hx
    · exact .inl rfl
    · refine .inr ⟨.tail _ hx, fun k hk e => ?_⟩
      rw [List.filterMap_cons, e] at hn
      exact (List.nodup_cons.1 hn).1 (List.mem_filterMap.2 ⟨x, hx, hk⟩)
  | @tail p r r' l l' hu ih =>
    intro x hx
    have hn' : (l.filterMap Res.key).Nodup := by
      rw [List.filterMap_cons] at hn
      split at hn
      · exact hn
      · exact (List.nodup_cons.1 hn).2
    rcases List.mem_cons.1 hx with rfl | hx
    · refine .inr ⟨.head _, fun k hk e => ?_⟩
      rw [List.filterMap_cons, hk] at hn
      exact (List.nodup_cons.1 hn).1 (List.mem_filterMap.2 ⟨r, hu.old, e⟩)
    · rcases ih hn' x hx with h1 | h1
      · exact .inl h1
      · exact .inr ⟨.tail _ h1.1, h1.2⟩
theorem Upd.keys (h : Upd l r r' l') (hk : r'.key = r.key) : l'.filterMap Res.key = l.filterMap Res.key := by
  induction h with
  | head => simp only [List.filterMap_cons, hk]
  | tail _ ih => simp only [List.filterMap_cons, ih hk]
theorem Upd.keys_sub (h : Upd l r r' l') : ∀ k, k ∈ l'.filterMap Res.key → r'.key = some k ∨ k ∈ l.filterMap Res.key := by
  induction h with
  | @head r r' l =>
    intro k hm
    obtain ⟨x, hx, hx'⟩ := List.mem_filterMap.1 hm
    rcases List.mem_cons.1 hx with rfl | hx
    · exact .inl hx'
    · exact .inr (List.mem_filterMap.2 ⟨x, .tail _ hx, hx'⟩)
  | @tail p r r' l l' hu ih =>
    intro k hm
    obtain ⟨x, hx, hx'⟩ := List.mem_filterMap.1 hm
    rcases List.mem_cons.1 hx with rfl | hx
    · exact .inr (List.mem_filterMap.2 ⟨x, .head _, hx'⟩)
    · rcases ih k (List.mem_filterMap.2 ⟨x, hx, hx'⟩) with h1 | h1
      · exact .inl h1
      · obtain ⟨y, hy, hy'⟩ := List.mem_filterMap.1 h1
        exact .inr (List.mem_filterMap.2 ⟨y, .tail _ hy, hy'⟩)
theorem Upd.nodup (h : Upd l r r' l') {B : Nat} (hl : ∀ x ∈ l, ∀ k, x.key = some k → k < B) (hk : ∀ k, r'.key = some k → B ≤ k) (hn : (l.filterMap Res.key).Nodup) : (l'.filterMap Res.key).Nodup := by
  induction h with
  | @head r r' l =>
    rw [List.filterMap_cons] at hn ⊢
    have hn' : (l.filterMap Res.key).Nodup := by
      split at hn
      · exact hn
      · exact (List.nodup_cons.1 hn).2
    cases hr : r'.key with
    | none => exact hn'
    | some k =>
      refine List.nodup_cons.2 ⟨fun hm => ?_, hn'⟩
      obtain ⟨x, hx, hx'⟩ := List.mem_filterMap.1 hm
      have := hl x (.tail _ hx) k hx'
      have := hk k hr
      omega
  | @tail p r r' l l' hu ih =>
    rw [List.filterMap_cons] at hn ⊢
    cases hp : p.key with
    | none =>
      rw [hp] at hn
      exact ih (fun x hx => hl x (.tail _ hx)) hk hn
    | some k =>
      rw [hp] at hn
      obtain ⟨h1, h2⟩ := List.nodup_cons.1 hn
      refine List.nodup_cons.2 ⟨fun hm => ?_, ih (fun x hx => hl x (.tail _ hx)) hk h2⟩
      rcases hu.keys_sub k hm with h3 | h3
      · have := hl p (.head _) k hp
        have := hk k h3
        omega
      · exact h1 h3
theorem Own.upd (h : Own F W w l) (hu : Upd l r r' l') (hg : w.grownBy w' r.key) (hr : r'.ok w') (hk : r'.key = r.key ∨ ∀ k, r'.key = some k → w.heap.size ≤ k) : Own F W w' l' := by
  refine ⟨hg.os.trans h.os, hg.tape.trans h.tape, hg.output.trans h.output, Nat.le_trans h.size hg.size, h.grown_kept hg (fun k e => h.own r hu.old k e), ?_, ?_, ?_⟩
  · intro x hx
    rcases hu.mem h.nodup x hx with rfl | ⟨h1, h2⟩
    · exact hr
    · exact (h.ok x h1).keep hg h2
  · intro x hx k e
    rcases hu.mem h.nodup x hx with rfl | ⟨h1, _⟩
    · rcases hk with hk | hk
      · exact h.own r hu.old k (hk ▸ e)
      · exact .inl (Nat.le_trans h.size (hk k e))
    · exact h.own x h1 k e
  · rcases hk with hk | hk
    · rw [hu.keys hk]; exact h.nodup
    · exact hu.nodup (fun x hx k e => h.lt hx e) hk h.nodup
/-- Things may be let go, and stand in any order. -/
theorem Own.sub (h : Own F W w l) (hs : l'.Sublist l) : Own F W w l' :=
  ⟨h.os, h.tape, h.output, h.size, h.kept, fun x hx => h.ok x (hs.subset hx), fun x hx => h.own x (hs.subset hx), h.nodup.sublist (hs.filterMap _)⟩
theorem Own.perm (h : Own F W w l) (hs : l'.Perm l) : Own F W w l' :=
  ⟨h.os, h.tape, h.output, h.size, h.kept, fun x hx => h.ok x (hs.subset hx), fun x hx => h.own x (hs.subset hx), ((hs.filterMap _).nodup_iff).2 h.nodup⟩
theorem Own.nul (h : Own F W w l) : Own F W w [] := h.sub (List.nil_sublist _)
theorem Own.swap (h : Own F W w (r :: r' :: l)) : Own F W w (r' :: r :: l) := h.perm (List.Perm.swap ..)
theorem Own.tl (h : Own F W w (r :: l)) : Own F W w l := h.sub (List.sublist_cons_self _ _)
theorem Own.tl2 (h : Own F W w (r' :: r :: l)) : Own F W w (r' :: l) := h.sub (by simp)

/-! ### what is read -/
/-- A slice of n elements of sz cells reads as cs. -/
def Rd (w : World) (A : Option Addr) (n sz : Nat) (cs : List Value) : Prop := cs.length = n * sz ∧ ∀ j v, cs[j]? = some v → ∃ a, A = some a ∧ w.cell? (a.add j) = some v
/-- .. one that was there at W, not among the blocks of F. -/
def Inp (F : List Nat) (W : World) (A : Option Addr) (n sz : Nat) (cs : List Value) : Prop := cs.length = n * sz ∧ ∀ j v, cs[j]? = some v → ∃ a, A = some a ∧ a.block < W.heap.size ∧ a.block ∉ F ∧ W.cell? (a.add j) = some v
variable {A : Option Addr} {n c sz : Nat} {e : TypeId} {cs : List Value}
theorem Own.cell_in (h : Own F W w l) {a : Addr} {v : Value} (h1 : a.block < W.heap.size) (h2 : a.block ∉ F) (hc : W.cell? a = some v) : w.cell? a = some v := by
  rw [← hc]
  exact World.cell?_of_block (h.kept _ h1 h2)
theorem Own.rdIn (h : Own F W w l) (hi : Inp F W A n sz cs) : Rd w A n sz cs :=
  ⟨hi.1, fun j v hj => by
    obtain ⟨a, hA, h1, h2, hc⟩ := hi.2 j v hj
    exact ⟨a, hA, h.cell_in (by rw [add_block]; exact h1) (by rw [add_block]; exact h2) hc⟩⟩
theorem Own.inpIn (h : Own F W w l) (hi : Inp F W A n sz cs) : Inp [] w A n sz cs :=
  ⟨hi.1, fun j v hj => by
    obtain ⟨a, hA, h1, h2, hc⟩ := hi.2 j v hj
    exact ⟨a, hA, Nat.lt_of_lt_of_le h1 h.size, by simp, h.cell_in (by rw [add_block]; exact h1) (by rw [add_block]; exact h2) hc⟩⟩
theorem row_cells (hr : w.ownsRow 0 e sz (.slice A n c) n cs) : ∀ j v, cs[j]? = some v → ∃ a, A = some a ∧ a.block < w.heap.size ∧ w.cell? (a.add j) = some v := fun j v hj => by
  cases A with
  | none =>
    rcases hr.2 with ⟨hv, hn⟩ | ⟨g, cap, cur, hv, _⟩
    · have h1 := hr.1
      rw [hn, Nat.zero_mul] at h1
      rw [List.eq_nil_of_length_eq_zero h1] at hj
      cases hj
    · cases hv
  | some a =>
    refine ⟨a, rfl, (hr.lt a.block rfl).2, ?_⟩
    rcases hr.2 with ⟨hv, _⟩ | ⟨g, cap, cur, hv, _⟩
    · cases hv
    · obtain rfl : a = ⟨g, 0, none⟩ := by injection hv with h1; injection h1
      exact hr.cells (g := g) rfl j v hj
theorem Own.rd (h : Own F W w l) (hm : .row A n c e sz cs ∈ l) : Rd w A n sz cs :=
  ⟨(h.ok _ hm).1, fun j v hj => by
    obtain ⟨a, hA, _, hc⟩ := row_cells (h.ok _ hm) j v hj
    exact ⟨a, hA, hc⟩⟩
theorem Own.inp (h : Own F W w l) (hm : .row A n c e sz cs ∈ l) : Inp [] w A n sz cs :=
  ⟨(h.ok _ hm).1, fun j v hj => by
    obtain ⟨a, hA, h1, hc⟩ := row_cells (h.ok _ hm) j v hj
    exact ⟨a, hA, h1, by simp, hc⟩⟩
theorem Own.rdBlk (h : Own F W w l) {g : Nat} {t : TypeId} (hm : .blk g t cs ∈ l) (hn : cs.length = n * sz) : Rd w (some ⟨g, 0, none⟩) n sz cs :=
  ⟨hn, fun j v hj => ⟨_, rfl, by
    have := h.ok _ hm
    rw [Addr.add_lit, Nat.zero_add, cell_of_row _ _ _ _ _ _ this]
    simpa using hj⟩⟩
theorem Inp.nil (F : List Nat) (W : World) (A : Option Addr) (sz : Nat) : Inp F W A 0 sz [] := ⟨by simp, by simp⟩
theorem Rd.nil (W : World) (A : Option Addr) (sz : Nat) : Rd W A 0 sz [] := ⟨by simp, by simp⟩
theorem Inp.ext (h : Inp [] W A n sz cs) (hb : Below W.heap.size W w) : Inp [] w A n sz cs :=
  ⟨h.1, fun j v hj => by
    obtain ⟨a, hA, h1, h2, hc⟩ := h.2 j v hj
    exact ⟨a, hA, Nat.lt_of_lt_of_le h1 hb.size, h2, (hb.cell (by rw [add_block]; exact h1)).trans hc⟩⟩
theorem Inp.mono (h : Inp [] W A n sz cs) (hF : ∀ a, A = some a → a.block ∉ F) : Inp F W A n sz cs :=
  ⟨h.1, fun j v hj => by
    obtain ⟨a, hA, h1, h2, hc⟩ := h.2 j v hj
    exact ⟨a, hA, h1, hF a hA, hc⟩⟩
theorem Rd.take (h : Rd w A n sz cs) (k : Nat) (hk : k ≤ n) : Rd w A k sz (cs.take (k * sz)) := by
  refine ⟨by rw [List.length_take, h.1]; exact Nat.min_eq_left (Nat.mul_le_mul_right _ hk), fun j v hj => h.2 j v ?_⟩
  rw [List.getElem?_take] at hj
  split at hj
  · exact hj
  · cases hj
theorem Inp.take (h : Inp F W A n sz cs) (k : Nat) (hk : k ≤ n) : Inp F W A k sz (cs.take (k * sz)) := by
  refine ⟨by rw [List.length_take, h.1]; exact Nat.min_eq_left (Nat.mul_le_mul_right _ hk), fun j v hj => h.2 j v ?_⟩
  rw [List.getElem?_take] at hj
  split at hj
  · exact hj
  · cases hj
theorem Inp.cut (h : Inp F W A n sz cs) (k : Nat) (_hk : k ≤ n) : Inp F W (A.map (·.add (k * sz))) (n - k) sz (cs.drop (k * sz)) :=
  ⟨by rw [List.length_drop, h.1, Nat.sub_mul], fun j v hj => by
    rw [List.getElem?_drop] at hj
    obtain ⟨a, hA, h1, h2, hc⟩ := h.2 _ v hj
    subst hA
    exact ⟨_, rfl, by rw [add_block]; exact h1, by rw [add_block]; exact h2, by rw [add_twice]; exact hc⟩⟩
theorem Rd.some_ (h : Rd w A n sz cs) (hn : 0 < n) (hs : 0 < sz) : ∃ a, A = some a := by
  have hl := h.1
  have : 0 < cs.length := by rw [hl]; exact Nat.mul_pos hn hs
  obtain ⟨a, hA, _⟩ := h.2 0 _ (List.getElem?_eq_getElem this)
  exact ⟨a, hA⟩
end
/-! ### elements by their form -/
/-- The i-th element. -/
def nth {T : Type} [Inhabited T] (L : List T) (i : Nat) : T := L.getD i default
theorem nth_eq {T : Type} [Inhabited T] {L : List T} {i : Nat} (h : i < L.length) : nth L i = L[i] := by simp [nth, h]
theorem nth_some {T : Type} [Inhabited T] {L : List T} {i : Nat} (h : i < L.length) : L[i]? = some (nth L i) := by rw [nth_eq h]; exact List.getElem?_eq_getElem h
theorem nth_mem {T : Type} [Inhabited T] {L : List T} {i : Nat} (h : i < L.length) : nth L i ∈ L := by rw [nth_eq h]; exact List.getElem_mem h
/-- Elements of T take sz cells each. -/
class EncC {T : Type} (enc : T → List Value) (sz : outParam Nat) : Prop where
  len : ∀ x, (enc x).length = sz
  one : ∀ x, ∀ v ∈ enc x, v.oneCell' = true
  pos : 0 < sz
/-- The type e of the program has elements of T. -/
class EncT (P : Program) (e : TypeId) (T : outParam Type) (enc : outParam (T → List Value)) (sz : outParam Nat) : Prop extends EncC enc sz
class Iss {T : Type} (enc : T → List Value) (cs : List Value) (L : outParam (List T)) : Prop where h : cs = L.flatMap enc
instance iss_nil {T : Type} (enc : T → List Value) : Iss enc [] [] := ⟨rfl⟩
instance iss_flat {T : Type} (enc : T → List Value) (L : List T) : Iss enc (L.flatMap enc) L := ⟨rfl⟩
instance iss_one {T : Type} (enc : T → List Value) (x : T) : Iss enc (enc x) [x] := ⟨by simp⟩
def cI (x : Int) : List Value := [.int .i64 x]
def cU (x : Int) : List Value := [.int .u64 x]
def cY (x : Int) : List Value := [.int .u8 x]
def cB (x : Bool) : List Value := [.bool x]
instance encc_I : EncC cI 1 := ⟨fun _ => rfl, by simp [cI, Value.oneCell'], by decide⟩
instance encc_U : EncC cU 1 := ⟨fun _ => rfl, by simp [cU, Value.oneCell'], by decide⟩
instance encc_Y : EncC cY 1 := ⟨fun _ => rfl, by simp [cY, Value.oneCell'], by decide⟩
instance encc_B : EncC cB 1 := ⟨fun _ => rfl, by simp [cB, Value.oneCell'], by decide⟩
instance iss_I (x : Int) : Iss cI [.int .i64 x] [x] := ⟨rfl⟩
instance iss_U (x : Int) : Iss cU [.int .u64 x] [x] := ⟨rfl⟩
instance iss_Y (x : Int) : Iss cY [.int .u8 x] [x] := ⟨rfl⟩
instance iss_B (x : Bool) : Iss cB [.bool x] [x] := ⟨rfl⟩
theorem flat_len {T : Type} {enc : T → List Value} {sz : Nat} (h : ∀ x, (enc x).length = sz) : ∀ L : List T, (L.flatMap enc).length = L.length * sz
  | [] => by simp
  | x :: L => by rw [List.flatMap_cons, List.length_append, h, flat_len h L, List.length_cons, Nat.succ_mul, Nat.add_comm]
theorem flat_get {T : Type} {enc : T → List Value} {sz : Nat} (h : ∀ x, (enc x).length = sz) : ∀ (L : List T) (i off : Nat) (x : T), L[i]? = some x → off < sz → (L.flatMap enc)[i * sz + off]? = (enc x)[off]?
  | [], i, off, x, hi, _ => by simp at hi
  | y :: L, 0, off, x, hi, ho => by
    simp only [List.getElem?_cons_zero, Option.some.injEq] at hi
    subst hi
    rw [List.flatMap_cons, Nat.zero_mul, Nat.zero_add, List.getElem?_append_left (by rw [h]; exact ho)]
  | y :: L, i + 1, off, x, hi, ho => by
    have hl := h y
    rw [List.flatMap_cons, List.getElem?_append_right (by rw [hl, Nat.succ_mul]; omega), hl, show (i + 1) * sz + off - sz = i * sz + off by rw [Nat.succ_mul]; omega]
    exact flat_get h L i off x (by simpa using hi) ho
theorem flat_set {T : Type} {enc : T → List Value} {sz : Nat} (h : ∀ x, (enc x).length = sz) : ∀ (L : List T) (i off : Nat) (x y : T) (v : Value), L[i]? = some x → off < sz → enc y = (enc x).set off v → (L.flatMap enc).set (i * sz + off) v = (L.set i y).flatMap enc
  | [], i, off, x, y, v, hi, _, _ => by simp at hi
  | z :: L, 0, off, x, y, v, hi, ho, he => by
    simp only [List.getElem?_cons_zero, Option.some.injEq] at hi
    subst hi
    rw [List.flatMap_cons, Nat.zero_mul, Nat.zero_add, List.set_append_left _ _ (by rw [h]; exact ho), List.set_cons_zero, List.flatMap_cons, he]
  | z :: L, i + 1, off, x, y, v, hi, ho, he => by
    have hl := h z
    rw [List.flatMap_cons, List.set_append_right _ _ (by rw [hl, Nat.succ_mul]; omega), hl, show (i + 1) * sz + off - sz = i * sz + off by rw [Nat.succ_mul]; omega, List.set_cons_succ, List.flatMap_cons,
      flat_set h L i off x y v (by simpa using hi) ho he]
/-- A place in a slice: its i-th element (of sz cells), 'off' cells on. -/
def ptr (A : Option Addr) (i sz off : Nat) : Value := .pointer (A.map (·.add (i * sz + off)))
theorem ptr_some {a : Addr} {i sz off : Nat} : ptr (some a) i sz off = .pointer (some (a.add (i * sz + off))) := rfl
theorem notTup_ptr {A : Option Addr} {i sz off : Nat} : notTup (ptr A i sz off) = true := rfl
attribute [irreducible] ptr
/-- An int, as a natural number. -/
class ToN (j : Int) (k : outParam Nat) : Prop where h : j.toNat = k
instance (priority := low) toN_any (j : Int) : ToN j j.toNat := ⟨rfl⟩
instance toN_cast (k : Nat) : ToN (k : Int) k := ⟨rfl⟩
instance toN_lit (n : Nat) : ToN (OfNat.ofNat n : Int) n := ⟨rfl⟩
instance toN_add (k n : Nat) : ToN ((k : Int) + (OfNat.ofNat n : Int)) (k + n) := ⟨by show ((k : Int) + (n : Int)).toNat = _; omega⟩
instance toN_addc (k n : Nat) : ToN ((k : Int) + (n : Int)) (k + n) := ⟨by omega⟩
theorem eQ {u : Value} {A : Option Addr} {i sz off : Nat} (h : u = ptr A i sz off) : u = ptr A i sz off := h
section
variable {P : Program} {C : CallH} {o : Oper} {f : Fr} {F : List Nat} {W w : World} {K : Value → World → Prop} {l l' : List Res} {g j : Nat} {t u e : TypeId} {x y i : Operand} {cs ds : List Value} {A : Option Addr} {n c sz off m k : Nat} {v : Value}
theorem Own.alloc (h : Own F W w l) (cells : Array Value) (t : TypeId) : Own F W (w.alloc (.cells cells t)) (.blk w.heap.size t cells.toList :: l) :=
  h.add (World.grownBy_alloc w _ none) (show _ = _ from by simpa using heap_alloc_new w _) (fun k e => by cases e; exact Nat.le_refl _)
theorem WO_allocO {z : Value} (hop : o.op = .alloc t) [ZeroT P t z] (hM : Own F W w l) (hk : ∀ g w', Own F W w' (.blk g t z.cells.toList :: l) → K (.pointer (some ⟨g, 0, none⟩)) w') : WO P C o f w K :=
  WO_alloc hop (hk _ _ (hM.alloc _ _))
theorem WO_boxO1 (hop : o.op = .box t x) (hx : ev f x = v) (h1 : v.oneCell' = true) (hM : Own F W w l) (hk : ∀ g w', Own F W w' (.blk g t [v] :: l) → K (.pointer (some ⟨g, 0, none⟩)) w') : WO P C o f w K := by
  have hc : v.cells = #[v] := by cases v <;> first | rfl | (simp [Value.oneCell'] at h1)
  refine WO_box hop hx (hk _ _ ?_)
  rw [hc]
  exact hM.alloc _ _
theorem WO_mvQ {d : Option Nat} {ty : TypeId} {p : String} {af : Array Edge} {gd : Option (Nat × Bool)} [TyV P ty .p] (hx : ev f x = ptr A m sz off) (hk : K (ptr A m sz off) w) : WO P C ⟨d, .move x, ty, p, af, gd⟩ f w K := WO_mv (x := x) rfl hx hk
theorem WO_asQ {d : Option Nat} {ty : TypeId} {p : String} {af : Array Edge} {gd : Option (Nat × Bool)} [TyV P ty .p] (hx : ev f x = ptr A m sz off) (hk : K (ptr A m sz off) w) : WO P C ⟨d, .assign x, ty, p, af, gd⟩ f w K := WO_mv (x := x) rfl hx hk
theorem WO_boxOA (hop : o.op = .box t x) (hx : ev f x = .agg cs.toArray) (hM : Own F W w l) (hk : ∀ g w', Own F W w' (.blk g t cs :: l) → K (.pointer (some ⟨g, 0, none⟩)) w') : WO P C o f w K :=
  WO_box hop hx (hk _ _ (hM.alloc _ _))
theorem Own.rowAt (h : Own F W w l) (hm : .blk g t cs ∈ l) : RowAt w ⟨g, 0, none⟩ cs := RowAt.of_block (h.ok _ hm)
theorem WO_loadOA (hop : o.op = .load t x) (hx : ev f x = .pointer (some ⟨g, 0, none⟩)) [KindT P t true] [SzT P t m] (hM : Own F W w l) (hm : .blk g u cs ∈ l) (hn : cs.length = m) (hk : K (.agg cs.toArray) w) : WO P C o f w K :=
  WO_loadA hop hx hn (hM.rowAt hm) hk
/-- A part of a block that is itself of many cells. -/
theorem WO_loadOP {a : Addr} (hop : o.op = .load t x) (hx : ev f x = .pointer (some a)) [KindT P t true] [SzT P t m] (ha : a = ⟨g, j, none⟩) (hM : Own F W w l) (hm : .blk g u cs ∈ l) (hn : ((cs.drop j).take m).length = m) (hk : K (.agg ((cs.drop j).take m).toArray) w) : WO P C o f w K := by
  subst ha
  refine WO_loadA hop hx hn (fun i v hi => ?_) hk
  have h1 := hM.rowAt hm (j + i) v (by
    rw [List.getElem?_take] at hi
    split at hi
    · rwa [List.getElem?_drop] at hi
    · cases hi)
  rw [Addr.add_lit] at h1 ⊢
  rwa [Nat.zero_add] at h1
theorem WO_loadO {a : Addr} (hop : o.op = .load t x) (hx : ev f x = .pointer (some a)) [KindT P t false] (ha : a = ⟨g, j, none⟩) (hM : Own F W w l) (hm : .blk g u cs ∈ l) (hv : cs[j]? = some v) (hk : K v w) : WO P C o f w K :=
  WO_load hop hx (by have := hM.rowAt hm j v hv; rw [Addr.add_lit, Nat.zero_add] at this; rw [ha]; exact this) hk
theorem Own.setRow (h : Own F W w l) (hu : Upd l (.blk g t cs) (.blk g t ds) l') : Own F W (w.setRow g ds.toArray) l' :=
  h.upd hu ⟨rfl, rfl, rfl, by simp [World.setRow], fun k _ hk => setRow_other w g k _ (fun e => hk (by rw [e]; rfl))⟩ (setRow_heap w g _ _ _ _ (h.ok _ hu.old)) (.inl rfl)
theorem Own.setCell (h : Own F W w l) (hu : Upd l (.blk g t cs) (.blk g t (cs.set j v)) l') : Own F W (w.setCell ⟨g, j, none⟩ v) l' := by
  refine h.upd hu ⟨rfl, rfl, rfl, by simp, fun k _ hk => heap_setCell_other w ⟨g, j, none⟩ k v (fun e => hk (by simp [e, Res.key]))⟩ ?_ (.inl rfl)
  have := heap_setCell_same w g j _ t v (h.ok _ hu.old)
  show _ = _
  rw [this]
  simp
theorem WO_storeOA (hop : o.op = .store t x y) (hx : ev f x = .pointer (some ⟨g, 0, none⟩)) (hy : ev f y = .agg ds.toArray) [SzT P t m] (hM : Own F W w l) (hu : Upd l (.blk g u cs) (.blk g u ds) l') (hm : ds.length = m) (hn : cs.length = m) (h1 : ds.all (·.oneCell') = true) (hk : ∀ w', Own F W w' l' → K undef w') : WO P C o f w K :=
  WO_storeA hop hx hy (by simpa using hm) (hM.ok _ hu.old) (by simp [hm, hn]) (by simpa using h1) (hk _ (hM.setRow hu))
theorem WO_storeO {a : Addr} (hop : o.op = .store t x y) (hx : ev f x = .pointer (some a)) (hy : ev f y = v) [SzT P t 1] (h1 : v.oneCell' = true) (ha : a = ⟨g, j, none⟩) (hM : Own F W w l) (hu : Upd l (.blk g u cs) (.blk g u (cs.set j v)) l') (hj : j < cs.length) (hk : ∀ w', Own F W w' l' → K undef w') : WO P C o f w K := by
  subst ha
  have hb := hM.ok _ hu.old
  refine WO_store hop hx hy h1 ?_ ?_ (hk _ (hM.setCell hu))
  · have := hM.rowAt hu.old j cs[j] (by simp [hj])
    rw [Addr.add_lit, Nat.zero_add] at this
    rw [this]; rfl
  · simp only [Res.ok] at hb
    simp [World.frozen?, hb]
/-! ### slices -/
theorem WO_idxP {k : IntKind} {j : Int} {jn : Nat} (hop : o.op = .indexAddr t x i) [SliceT P t e sz] (hx : ev f x = .slice A n c) (hi : ev f i = .int k j) (hr : Rd w A n sz cs) (hs : 0 < sz) (h0 : 0 ≤ j) (h1 : j < n) [hj : ToN j jn] (hk : K (ptr A jn sz 0) w) : WO P C o f w K := by
  obtain ⟨a, rfl⟩ := hr.some_ (by omega) hs
  refine WO_index hop hx hi rfl h0 h1 ?_
  rw [ptr_some, Nat.add_zero, ← hj.h] at hk
  exact hk
theorem WO_fldP {fi : Nat} {q : Nat} (hop : o.op = .fieldAddr t x fi) (hx : ev f x = ptr A m sz off) [hf : FieldT P t fi q] (hA : ∃ a, A = some a) (hk : K (ptr A m sz (off + q)) w) : WO P C o f w K := by
  obtain ⟨a, rfl⟩ := hA
  refine WO_field_at hop (by rw [hx, ptr_some]) ?_
  rw [add_twice, Nat.add_assoc]
  rw [ptr_some] at hk
  exact hk
theorem Rd.at_ {T : Type} {enc : T → List Value} {L : List T} {z : T} (hr : Rd w A n sz (L.flatMap enc)) (hl : ∀ x, (enc x).length = sz) (hi : L[m]? = some z) (ho : off < sz) (hv : (enc z)[off]? = some v) : ∃ a, A = some a ∧ w.cell? (a.add (m * sz + off)) = some v :=
  hr.2 _ _ (by rw [flat_get hl L m off z hi ho]; exact hv)
theorem WO_ldP {T : Type} [Inhabited T] {enc : T → List Value} {L : List T} (hop : o.op = .load t x) (hx : ev f x = ptr A m sz off) [KindT P t false] [E : EncC enc sz] (hr : Rd w A n sz (L.flatMap enc)) (hm : m < L.length) (hv : (enc (nth L m))[off]? = some v) (hk : K v w) : WO P C o f w K := by
  have ho : off < sz := by
    rw [← E.len (nth L m)]
    exact (List.getElem?_eq_some_iff.1 hv).1
  obtain ⟨a, rfl, hc⟩ := hr.at_ E.len (nth_some hm) ho hv
  exact WO_load hop (by rw [hx, ptr_some]) hc hk
theorem WO_ldPA {T : Type} [Inhabited T] {enc : T → List Value} {L : List T} {q : Nat} (hop : o.op = .load t x) (hx : ev f x = ptr A m sz off) [KindT P t true] [SzT P t q] [E : EncC enc sz] (hr : Rd w A n sz (L.flatMap enc)) (hm : m < L.length) (hcs : ((enc (nth L m)).drop off).take q = cs) (hq : cs.length = q) (hk : K (.agg cs.toArray) w) : WO P C o f w K := by
  subst hcs
  have key : ∀ j v, ((((enc (nth L m)).drop off).take q))[j]? = some v → (enc (nth L m))[off + j]? = some v := fun j v hj => by
    rw [List.getElem?_take] at hj
    split at hj
    · rwa [List.getElem?_drop] at hj
    · cases hj
  obtain ⟨a, rfl⟩ := hr.some_ (by
    have h1 := hr.1
    rw [flat_len E.len] at h1
    rcases Nat.eq_zero_or_pos n with h2 | h2
    · rw [h2, Nat.zero_mul] at h1
      have := E.pos
      rcases Nat.mul_eq_zero.1 h1 with h3 | h3 <;> omega
    · exact h2) E.pos
  refine WO_loadA hop (by rw [hx, ptr_some]) hq (fun j v hj => ?_) hk
  have h1 := key j v hj
  obtain ⟨a', ha', hc⟩ := hr.at_ E.len (nth_some hm) (by rw [← E.len (nth L m)]; exact (List.getElem?_eq_some_iff.1 h1).1) h1
  cases ha'
  rw [add_twice, Nat.add_assoc]
  exact hc
theorem WO_ldPW {T : Type} [Inhabited T] {enc : T → List Value} {L : List T} (hop : o.op = .load t x) (hx : ev f x = ptr A m sz 0) [KindT P t true] [SzT P t sz] [E : EncC enc sz] (hr : Rd w A n sz (L.flatMap enc)) (hm : m < L.length) (hk : K (.agg (enc (nth L m)).toArray) w) : WO P C o f w K :=
  WO_ldPA hop hx hr hm (by rw [List.drop_zero, List.take_of_length_le (by rw [E.len]; exact Nat.le_refl _)]) (E.len _) hk
theorem Own.setP (h : Own F W w l) {a : Addr} (hu : Upd l (.row (some a) n c e sz cs) (.row (some a) n c e sz (cs.set j v)) l') : Own F W (w.setCell (a.add j) v) l' ∧ w.frozen? (a.add j) = false := by
  have hb : w.ownsRow 0 e sz (.slice (some a) n c) n cs := h.ok _ hu.old
  have hform : ∃ g cur, a = ⟨g, 0, none⟩ ∧ w.heap[g]? = some (.cells cur e (0, 0)) := by
    rcases hb.2 with ⟨hv, _⟩ | ⟨g, cap, cur, hv, _, hg, _⟩
    · cases hv
    · refine ⟨g, cur, ?_, hg⟩
      injection hv with h1; injection h1
  obtain ⟨g, cur, rfl, hg⟩ := hform
  rw [Addr.add_lit, Nat.zero_add]
  obtain ⟨h1, h2⟩ := hb.stored j v
  exact ⟨h.upd hu h2 h1 (.inl rfl), by simp [World.frozen?, hg]⟩
theorem WO_stP {T : Type} [Inhabited T] {enc : T → List Value} {L : List T} {z : T} (hop : o.op = .store t x y) (hx : ev f x = ptr A m sz off) (hy : ev f y = v) [SzT P t 1] (h1 : v.oneCell' = true) [E : EncC enc sz] (hM : Own F W w l)
    (hu : Upd l (.row A n c e sz (L.flatMap enc)) (.row A n c e sz ((L.set m z).flatMap enc)) l') (hm : m < L.length) (ho : off < sz) (hz : enc z = (enc (nth L m)).set off v) (hk : ∀ w', Own F W w' l' → K undef w') : WO P C o f w K := by
  have hr := hM.rd hu.old
  have hv : ∃ v0, (enc (nth L m))[off]? = some v0 := ⟨_, List.getElem?_eq_getElem (by rw [E.len]; exact ho)⟩
  obtain ⟨v0, hv0⟩ := hv
  obtain ⟨a, rfl, hc⟩ := hr.at_ E.len (nth_some hm) ho hv0
  rw [← flat_set E.len L m off (nth L m) z v (nth_some hm) ho hz] at hu
  obtain ⟨h2, h3⟩ := hM.setP hu
  exact WO_store hop (by rw [hx, ptr_some]) hy h1 (by rw [hc]; rfl) h3 (hk _ h2)
/-- A slice that is written out, of whatever elements: from its cells. -/
theorem WO_bsO {parts : Array (Nat × Operand)} {ps : Array (Nat × Value)} {z : Value} {cs : Array Value} (hop : o.op = .buildSlice t n parts) [SliceT P t e sz] [ZeroT P e z]
    (hps : parts.map (fun x => (x.1, ev f x.2)) = ps) (hn : n * sz ≤ 16777216)
    (hf : Instr.fill (fun i => some (i * sz, sz)) (if n * sz = 0 then (Array.range (n * sz)).map (fun i => (#[] : Array Value)[i % 0]!) else (Array.range (n * sz)).map fun i => z.cells[i % z.cells.size]!) ps.toList = some cs)
    (hs : cs.size = n * sz) (h0 : 0 < sz) (hM : Own F W w l) (hk : ∀ A c w', Own F W w' (.row A n c e sz cs.toList :: l) → K (.slice A n c) w') : WO P C o f w K := by
  refine WO_bs hop hps hn hf (hk _ _ _ ?_)
  refine hM.add (World.grownBy_alloc w _ none) ?_ (fun k e => by cases e; exact Nat.le_refl _)
  have := own_of_alloc (w := w) cs e sz n 0 (Nat.zero_le _) (by
    have : n ≤ n * sz := Nat.le_mul_of_pos_right n h0
    unfold maxLen; omega) hs
  exact this
end
end Go.Proofs.YtmoppmfbfpjdnaaGreat.R
