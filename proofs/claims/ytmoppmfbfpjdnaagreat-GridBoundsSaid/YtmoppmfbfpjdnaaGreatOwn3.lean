/- Calls that write what is handed to them; comparing with nil, and structs; slices cut. -/
import Derived.Test.YtmoppmfbfpjdnaaGreatOwn2
namespace Go.Proofs.YtmoppmfbfpjdnaaGreat.R
open Go.RowKit

theorem viaS {u : Value} {A : Option Addr} {n n' c : Nat} (hu : u = .slice A n c) (h : n = n') : u = .slice A n' c := h ▸ hu
def keysOf (l : List Res) : List Nat := l.filterMap Res.key
structure Has (w : World) (l : List Res) : Prop where
  ok : ∀ r ∈ l, r.ok w
  nodup : (keysOf l).Nodup
section
variable {F : List Nat} {W w w' : World} {l l' lc lc' : List Res} {r r' : Res} {A : Option Addr} {n c sz : Nat} {e : TypeId} {cs : List Value}
theorem Own.startF (h : Has w l) : Own (keysOf l) w w l :=
  ⟨rfl, rfl, rfl, Nat.le_refl _, fun _ _ _ => rfl, h.ok, fun r hr _ hk => .inr (List.mem_filterMap.2 ⟨r, hr, hk⟩), h.nodup⟩
theorem Own.has (h : Own F W w (l ++ lc)) : Has w lc := by
  have h1 : Own F W w lc := h.sub (List.sublist_append_right _ _)
  exact ⟨h1.ok, h1.nodup⟩
theorem Own.has0 (h : Own F W w l) : Has w l := ⟨h.ok, h.nodup⟩
/-- What is the call's own apart from what it hands on. -/
theorem Own.apart (h : Own F W w (l ++ lc)) (hr : r ∈ l) {k : Nat} (hk : r.key = some k) : k ∉ keysOf lc := fun hm => by
  have hn := h.nodup
  rw [List.filterMap_append, List.nodup_append] at hn
  exact hn.2.2 k (List.mem_filterMap.2 ⟨r, hr, hk⟩) k hm rfl
theorem Own.keys_from (h : Own F W w l) : ∀ k ∈ keysOf l, W.heap.size ≤ k ∨ k ∈ F := fun k hk => by
  obtain ⟨r, hr, hr'⟩ := List.mem_filterMap.1 hk
  exact h.own r hr k hr'
theorem Own.callF (h : Own F W w (l ++ lc)) (hc : Own (keysOf lc) w w' lc') : Own F W w' (l ++ lc') := by
  have hlt : ∀ k ∈ keysOf lc, k < w.heap.size := fun k hk => by
    obtain ⟨r, hr, hr'⟩ := List.mem_filterMap.1 hk
    exact h.lt (List.mem_append_right _ hr) hr'
  have hfrom : ∀ k ∈ keysOf lc, W.heap.size ≤ k ∨ k ∈ F := fun k hk => by
    obtain ⟨r, hr, hr'⟩ := List.mem_filterMap.1 hk
    exact h.own r (List.mem_append_right _ hr) k hr'
  refine ⟨hc.os.trans h.os, hc.tape.trans h.tape, hc.output.trans h.output, Nat.le_trans h.size hc.size, ?_, ?_, ?_, ?_⟩
  · intro k hk hF
    have := h.size
    refine (hc.kept k (by omega) fun hm => ?_).trans (h.kept k hk hF)
    rcases hfrom k hm with h1 | h1
    · omega
    · exact hF h1
  · intro r hr
    rcases List.mem_append.1 hr with hr | hr
    · have h0 := h.ok r (List.mem_append_left _ hr)
      have hsame : ∀ k, r.key = some k → w'.heap[k]? = w.heap[k]? := fun k hk => hc.kept k (h0.lt hk) (h.apart hr hk)
      cases r with
      | blk g t cs => exact (hsame g rfl).trans h0
      | row A n c e sz cs =>
        refine ⟨h0.1, h0.2.imp id fun ⟨g, cap, cur, h1, h2, h3, h4⟩ => ⟨g, cap, cur, h1, h2, (hsame g ?_).trans h3, h4⟩⟩
        injection h1 with hA
        show blockOf A = _
        rw [hA]; rfl
      | map b es c => exact (hsame b rfl).trans h0
    · exact hc.ok r hr
  · intro r hr k hk
    rcases List.mem_append.1 hr with hr | hr
    · exact h.own r (List.mem_append_left _ hr) k hk
    · rcases hc.own r hr k hk with h1 | h1
      · have := h.size
        exact .inl (by omega)
      · exact hfrom k h1
  · have hn := h.nodup
    rw [List.filterMap_append, List.nodup_append] at hn ⊢
    refine ⟨hn.1, hc.nodup, fun a ha b hb => ?_⟩
    obtain ⟨r, hr, hr'⟩ := List.mem_filterMap.1 ha
    obtain ⟨s, hs, hs'⟩ := List.mem_filterMap.1 hb
    have h1 := h.lt (List.mem_append_left _ hr) hr'
    rcases hc.own s hs b hs' with h2 | h2
    · omega
    · exact hn.2.2 a ha b h2
theorem Own.callF' (h : Own F W w lc) (hc : Own (keysOf lc) w w' lc') : Own F W w' lc' := Own.callF (l := []) h hc
theorem Own.inpF (h : Own F W w (l ++ lc)) (hm : .row A n c e sz cs ∈ l) : Inp (keysOf lc) w A n sz cs :=
  (Own.inp h (List.mem_append_left _ hm)).mono fun a hA => h.apart hm (by rw [hA]; rfl)
theorem Own.inpInF (h : Own F W w (l ++ lc)) (hi : Inp F W A n sz cs) : Inp (keysOf lc) w A n sz cs := by
  have h1 := h.inpIn hi
  refine ⟨h1.1, fun j v hj => ?_⟩
  obtain ⟨a, hA, hb, hF, _⟩ := hi.2 j v hj
  obtain ⟨a', hA', hb', _, hc'⟩ := h1.2 j v hj
  cases hA.symm.trans hA'
  refine ⟨a, hA, hb', fun hm => ?_, hc'⟩
  obtain ⟨r, hr, hr'⟩ := List.mem_filterMap.1 hm
  rcases h.own r (List.mem_append_right _ hr) _ hr' with h2 | h2
  · omega
  · exact hF h2
end
inductive Pick : List Res → Res → List Res → Prop
  | head {r l} : Pick (r :: l) r l
  | tail {p r l l'} (h : Pick l r l') : Pick (p :: l) r (p :: l')
theorem Pick.perm {l l' : List Res} {r : Res} (h : Pick l r l') : (r :: l').Perm l := by
  induction h with
  | head => exact List.Perm.refl _
  | tail _ ih => exact (List.Perm.swap _ _ _).trans (ih.cons _)
/-- A thing is laid in front. -/
theorem pk {F : List Nat} {W w : World} {l l' : List Res} {r : Res} (hM : Own F W w l) (h : Pick l r l' := by repeat (first | exact R.Pick.head | apply R.Pick.tail)) : Own F W w (r :: l') := hM.perm h.perm
/-- A thing is let go. -/
theorem dr {F : List Nat} {W w : World} {l l' : List Res} (r : Res) (hM : Own F W w l) (h : Pick l r l' := by repeat (first | exact R.Pick.head | apply R.Pick.tail)) : Own F W w l' := (hM.perm h.perm).tl
/-! ### comparing -/
def descB (q : Nat) : Option TypeDesc → Bool
  | some (.func _ _ _) => q == 0
  | some (.map _ _) => q == 1
  | some (.pointer _) => q == 2
  | _ => false
class FuncT (P : Program) (t : TypeId) : Prop where b : descB 0 (P.underlying t) = true
class MapT (P : Program) (t : TypeId) : Prop where b : descB 1 (P.underlying t) = true
class PtrT (P : Program) (t : TypeId) : Prop where b : descB 2 (P.underlying t) = true
theorem FuncT.h {P : Program} {t : TypeId} (x : FuncT P t) : ∃ a b c, P.underlying t = some (.func a b c) := by
  have := x.b
  revert this
  generalize P.underlying t = u
  intro h
  cases u with
  | none => cases h
  | some d => cases d <;> first | exact ⟨_, _, _, rfl⟩ | cases h
theorem MapT.h {P : Program} {t : TypeId} (x : MapT P t) : ∃ a b, P.underlying t = some (.map a b) := by
  have := x.b
  revert this
  generalize P.underlying t = u
  intro h
  cases u with
  | none => cases h
  | some d => cases d <;> first | exact ⟨_, _, rfl⟩ | cases h
theorem PtrT.h {P : Program} {t : TypeId} (x : PtrT P t) : ∃ a, P.underlying t = some (.pointer a) := by
  have := x.b
  revert this
  generalize P.underlying t = u
  intro h
  cases u with
  | none => cases h
  | some d => cases d <;> first | exact ⟨_, rfl⟩ | cases h
section
variable {P : Program} {C : CallH} {o : Oper} {f : Fr} {w : World} {K : Value → World → Prop} {t u : TypeId} {x y : Operand} {g : Fn} {a c : Array Value}
theorem WO_eqlF (hop : o.op = .binOp .eql t x y u) (hx : ev f x = .func g a c) (hy : ev f y = .nilFunc) [ht : FuncT P t] (hk : K (.bool false) w) : WO P C o f w K := by
  have hu := ht.h
  obtain ⟨q1, q2, q3, hu⟩ := hu
  refine WO_val (v := .bool false) ?_ hk
  have h1 : (binOp .eql t (.func g a c) (.nilFunc)).run P w = .ok (.bool false) w := by
    simp only [binOp, Op.equal, Op.maxDepth]
    rw [show (10000 : Nat) = 9999 + 1 from rfl, Op.equalIn]
    simp [run_underlying hu]
  simp only [execOp, hop, hx, hy, Sem.run_bind, eqGuard_at_func, Sem.run_pure, Result.andThen_ok, h1]
theorem WO_eqlF0 (hop : o.op = .binOp .eql t x y u) (hx : ev f x = .nilFunc) (hy : ev f y = .nilFunc) [ht : FuncT P t] (hk : K (.bool true) w) : WO P C o f w K := by
  have hu := ht.h
  obtain ⟨q1, q2, q3, hu⟩ := hu
  refine WO_val (v := .bool true) ?_ hk
  have h1 : (binOp .eql t (.nilFunc) (.nilFunc)).run P w = .ok (.bool true) w := by
    simp only [binOp, Op.equal, Op.maxDepth]
    rw [show (10000 : Nat) = 9999 + 1 from rfl, Op.equalIn]
    simp [run_underlying hu]
  simp only [execOp, hop, hx, hy, Sem.run_bind, eqGuard_at_nilFunc, Sem.run_pure, Result.andThen_ok, h1]
theorem WO_eqlP {p : Addr} (hop : o.op = .binOp .eql t x y u) (hx : ev f x = .pointer (some p)) (hy : ev f y = .pointer none) [ht : PtrT P t] (hk : K (.bool false) w) : WO P C o f w K := by
  have hu := ht.h
  obtain ⟨q1, hu⟩ := hu
  refine WO_val (v := .bool false) ?_ hk
  have h1 : (binOp .eql t (.pointer (some p)) (.pointer none)).run P w = .ok (.bool false) w := by
    simp only [binOp, Op.equal, Op.maxDepth]
    rw [show (10000 : Nat) = 9999 + 1 from rfl, Op.equalIn]
    simp [run_underlying hu]
  simp only [execOp, hop, hx, hy, Sem.run_bind, eqGuard_at_pointer, Sem.run_pure, Result.andThen_ok, h1]
theorem WO_eqlP0 (hop : o.op = .binOp .eql t x y u) (hx : ev f x = .pointer none) (hy : ev f y = .pointer none) [ht : PtrT P t] (hk : K (.bool true) w) : WO P C o f w K := by
  have hu := ht.h
  obtain ⟨q1, hu⟩ := hu
  refine WO_val (v := .bool true) ?_ hk
  have h1 : (binOp .eql t (.pointer none) (.pointer none)).run P w = .ok (.bool true) w := by
    simp only [binOp, Op.equal, Op.maxDepth]
    rw [show (10000 : Nat) = 9999 + 1 from rfl, Op.equalIn]
    simp [run_underlying hu]
  simp only [execOp, hop, hx, hy, Sem.run_bind, eqGuard_at_pointer, Sem.run_pure, Result.andThen_ok, h1]
theorem WO_eqlM {p : Nat} (hop : o.op = .binOp .eql t x y u) (hx : ev f x = .map (some p)) (hy : ev f y = .map none) [ht : MapT P t] (hk : K (.bool false) w) : WO P C o f w K := by
  have hu := ht.h
  obtain ⟨q1, q2, hu⟩ := hu
  refine WO_val (v := .bool false) ?_ hk
  have h1 : (binOp .eql t (.map (some p)) (.map none)).run P w = .ok (.bool false) w := by
    simp only [binOp, Op.equal, Op.maxDepth]
    rw [show (10000 : Nat) = 9999 + 1 from rfl, Op.equalIn]
    simp [run_underlying hu]
  simp only [execOp, hop, hx, hy, Sem.run_bind, eqGuard_at_map, Sem.run_pure, Result.andThen_ok, h1]
theorem WO_eqlM0 (hop : o.op = .binOp .eql t x y u) (hx : ev f x = .map none) (hy : ev f y = .map none) [ht : MapT P t] (hk : K (.bool true) w) : WO P C o f w K := by
  have hu := ht.h
  obtain ⟨q1, q2, hu⟩ := hu
  refine WO_val (v := .bool true) ?_ hk
  have h1 : (binOp .eql t (.map none) (.map none)).run P w = .ok (.bool true) w := by
    simp only [binOp, Op.equal, Op.maxDepth]
    rw [show (10000 : Nat) = 9999 + 1 from rfl, Op.equalIn]
    simp [run_underlying hu]
  simp only [execOp, hop, hx, hy, Sem.run_bind, eqGuard_at_map, Sem.run_pure, Result.andThen_ok, h1]
theorem WO_neqF (hop : o.op = .binOp .neq t x y u) (hx : ev f x = .func g a c) (hy : ev f y = .nilFunc) [ht : FuncT P t] (hk : K (.bool true) w) : WO P C o f w K := by
  have hu := ht.h
  obtain ⟨q1, q2, q3, hu⟩ := hu
  refine WO_val (v := .bool true) ?_ hk
  have h1 : (binOp .neq t (.func g a c) (.nilFunc)).run P w = .ok (.bool true) w := by
    simp only [binOp, Op.equal, Op.maxDepth]
    rw [show (10000 : Nat) = 9999 + 1 from rfl, Op.equalIn]
    simp [run_underlying hu]
  simp only [execOp, hop, hx, hy, Sem.run_bind, eqGuard_at_func, Sem.run_pure, Result.andThen_ok, h1]
theorem WO_neqF0 (hop : o.op = .binOp .neq t x y u) (hx : ev f x = .nilFunc) (hy : ev f y = .nilFunc) [ht : FuncT P t] (hk : K (.bool false) w) : WO P C o f w K := by
  have hu := ht.h
  obtain ⟨q1, q2, q3, hu⟩ := hu
  refine WO_val (v := .bool false) ?_ hk
  have h1 : (binOp .neq t (.nilFunc) (.nilFunc)).run P w = .ok (.bool false) w := by
    simp only [binOp, Op.equal, Op.maxDepth]
    rw [show (10000 : Nat) = 9999 + 1 from rfl, Op.equalIn]
    simp [run_underlying hu]
  simp only [execOp, hop, hx, hy, Sem.run_bind, eqGuard_at_nilFunc, Sem.run_pure, Result.andThen_ok, h1]
theorem WO_neqP {p : Addr} (hop : o.op = .binOp .neq t x y u) (hx : ev f x = .pointer (some p)) (hy : ev f y = .pointer none) [ht : PtrT P t] (hk : K (.bool true) w) : WO P C o f w K := by
  have hu := ht.h
  obtain ⟨q1, hu⟩ := hu
  refine WO_val (v := .bool true) ?_ hk
  have h1 : (binOp .neq t (.pointer (some p)) (.pointer none)).run P w = .ok (.bool true) w := by
    simp only [binOp, Op.equal, Op.maxDepth]
    rw [show (10000 : Nat) = 9999 + 1 from rfl, Op.equalIn]
    simp [run_underlying hu]
  simp only [execOp, hop, hx, hy, Sem.run_bind, eqGuard_at_pointer, Sem.run_pure, Result.andThen_ok, h1]
theorem WO_neqP0 (hop : o.op = .binOp .neq t x y u) (hx : ev f x = .pointer none) (hy : ev f y = .pointer none) [ht : PtrT P t] (hk : K (.bool false) w) : WO P C o f w K := by
  have hu := ht.h
  obtain ⟨q1, hu⟩ := hu
  refine WO_val (v := .bool false) ?_ hk
  have h1 : (binOp .neq t (.pointer none) (.pointer none)).run P w = .ok (.bool false) w := by
    simp only [binOp, Op.equal, Op.maxDepth]
    rw [show (10000 : Nat) = 9999 + 1 from rfl, Op.equalIn]
    simp [run_underlying hu]
  simp only [execOp, hop, hx, hy, Sem.run_bind, eqGuard_at_pointer, Sem.run_pure, Result.andThen_ok, h1]
theorem WO_neqM {p : Nat} (hop : o.op = .binOp .neq t x y u) (hx : ev f x = .map (some p)) (hy : ev f y = .map none) [ht : MapT P t] (hk : K (.bool true) w) : WO P C o f w K := by
  have hu := ht.h
  obtain ⟨q1, q2, hu⟩ := hu
  refine WO_val (v := .bool true) ?_ hk
  have h1 : (binOp .neq t (.map (some p)) (.map none)).run P w = .ok (.bool true) w := by
    simp only [binOp, Op.equal, Op.maxDepth]
    rw [show (10000 : Nat) = 9999 + 1 from rfl, Op.equalIn]
    simp [run_underlying hu]
  simp only [execOp, hop, hx, hy, Sem.run_bind, eqGuard_at_map, Sem.run_pure, Result.andThen_ok, h1]
theorem WO_neqM0 (hop : o.op = .binOp .neq t x y u) (hx : ev f x = .map none) (hy : ev f y = .map none) [ht : MapT P t] (hk : K (.bool false) w) : WO P C o f w K := by
  have hu := ht.h
  obtain ⟨q1, q2, hu⟩ := hu
  refine WO_val (v := .bool false) ?_ hk
  have h1 : (binOp .neq t (.map none) (.map none)).run P w = .ok (.bool false) w := by
    simp only [binOp, Op.equal, Op.maxDepth]
    rw [show (10000 : Nat) = 9999 + 1 from rfl, Op.equalIn]
    simp [run_underlying hu]
  simp only [execOp, hop, hx, hy, Sem.run_bind, eqGuard_at_map, Sem.run_pure, Result.andThen_ok, h1]
/-- Structs of the type t compare as what they hold. -/
class EqT (P : Program) (t : TypeId) (T : outParam Type) (enc : outParam (T → List Value)) : Prop where
  g : P.eqGuardType P.depth t = false
  h : ∀ (a b : T) (d : Nat) (w : World), ∃ r, (Op.equalIn (d + 9) t (.agg (enc a).toArray) (.agg (enc b).toArray)).run P w = .ok r w ∧ (r = true ↔ a = b)
class Iso {T : Type} (enc : T → List Value) (cs : List Value) (x : outParam T) : Prop where h : cs = enc x
instance iso_enc {T : Type} (enc : T → List Value) (x : T) : Iso enc (enc x) x := ⟨rfl⟩
theorem WO_eqlS {T : Type} [DecidableEq T] {enc : T → List Value} {cs ds : List Value} {p q : T} (hop : o.op = .binOp .eql t x y u) (hx : ev f x = .agg cs.toArray) (hy : ev f y = .agg ds.toArray) [E : EqT P t T enc] (hp : Iso enc cs p) (hq : Iso enc ds q) (hk : K (.bool (decide (p = q))) w) : WO P C o f w K := by
  refine WO_val ?_ hk
  obtain ⟨r, h1, h2⟩ := E.h p q 9991 w
  rw [hp.h] at hx
  rw [hq.h] at hy
  simp only [execOp, hop, hx, hy, Sem.run_bind, run_eqGuard_agg w .eql t x y _ _ E.g, Result.andThen_ok, run_eql_struct, h1]
  have : r = decide (p = q) := by rw [Bool.eq_iff_iff, h2]; simp
  simp [this]
theorem WO_neqS {T : Type} [DecidableEq T] {enc : T → List Value} {cs ds : List Value} {p q : T} (hop : o.op = .binOp .neq t x y u) (hx : ev f x = .agg cs.toArray) (hy : ev f y = .agg ds.toArray) [E : EqT P t T enc] (hp : Iso enc cs p) (hq : Iso enc ds q) (hk : K (.bool (decide (p ≠ q))) w) : WO P C o f w K := by
  refine WO_val ?_ hk
  obtain ⟨r, h1, h2⟩ := E.h p q 9991 w
  rw [hp.h] at hx
  rw [hq.h] at hy
  simp only [execOp, hop, hx, hy, Sem.run_bind, run_eqGuard_agg w .neq t x y _ _ E.g, Result.andThen_ok, run_neq_struct, h1]
  have : r = decide (p = q) := by rw [Bool.eq_iff_iff, h2]; simp
  simp [this]
/-- A field of a struct that is a value. -/
def fieldInfo (P : Program) (t : TypeId) (i : Nat) : Option (Nat × Bool × Nat) :=
  match P.underlying t with
  | some (.struct fs) => match fs[i]? with
    | some fd => match kindT P fd.type, szT P fd.type with
      | some b, some n => some (fd.offset, b, n)
      | _, _ => none
    | none => none
  | _ => none
class FieldV (P : Program) (t : TypeId) (i : Nat) (off : outParam Nat) (agg : outParam Bool) (n : outParam Nat) : Prop where b : fieldInfo P t i = some (off, agg, n)
theorem FieldV.h {P : Program} {t : TypeId} {i off n : Nat} {agg : Bool} (x : FieldV P t i off agg n) : ∃ fs fd, P.underlying t = some (.struct fs) ∧ fs[i]? = some fd ∧ fd.offset = off ∧ kindT P fd.type = some agg ∧ szT P fd.type = some n := by
  have h := x.b
  unfold fieldInfo at h
  split at h
  · rename_i fs hu
    split at h
    · rename_i fd hf
      split at h
      · rename_i b n' hb hn
        simp only [Option.some.injEq, Prod.mk.injEq] at h
        obtain ⟨h1, h2, h3⟩ := h
        exact ⟨fs, fd, hu, hf, h1, h2 ▸ hb, h3 ▸ hn⟩
      · cases h
    · cases h
  · cases h
theorem WO_fldV {i off n : Nat} {cs : List Value} {v : Value} (hop : o.op = .field t x i) (hx : ev f x = .agg cs.toArray) [hf : FieldV P t i off false n] (hv : cs[off]? = some v) (hk : K v w) : WO P C o f w K := by
  obtain ⟨fs, fd, h1, h2, h3, h4, h5⟩ := hf.h
  refine WO_val ?_ hk
  simp [execOp, hop, hx, Instr.field, run_underlying h1, h2, asAgg, part, run_kind h4, h3, hv]
theorem WO_fldVA {i off n : Nat} {cs ds : List Value} (hop : o.op = .field t x i) (hx : ev f x = .agg cs.toArray) [hf : FieldV P t i off true n] (hv : (cs.drop off).take n = ds) (hk : K (.agg ds.toArray) w) : WO P C o f w K := by
  obtain ⟨fs, fd, h1, h2, h3, h4, h5⟩ := hf.h
  refine WO_val ?_ hk
  subst hv
  simp [execOp, hop, hx, Instr.field, run_underlying h1, h2, asAgg, part, run_kind h4, h3, run_sz h5]
end
/-! ### structs that are written out -/
def putAll (offs : List (Nat × Nat)) : List Value → List (Nat × List Value) → Option (List Value)
  | cs, [] => some cs
  | cs, (i, v) :: l => match offs[i]? with
    | none => none
    | some (off, size) => if v.length = size ∧ off + size ≤ cs.length then putAll offs (cs.take off ++ (v ++ cs.drop (off + size))) l else none
theorem putAll_fill (offs : List (Nat × Nat)) : ∀ (l : List (Nat × Value)) (cs : Array Value) (ds : List Value), putAll offs cs.toList (l.map fun x => (x.1, x.2.cells.toList)) = some ds → Instr.fill (offs[·]?) cs l = some ds.toArray
  | [], cs, ds, h => by
    simp only [List.map_nil, putAll, Option.some.injEq] at h
    simp [Instr.fill, ← h]
  | (i, v) :: l, cs, ds, h => by
    simp only [List.map_cons, putAll] at h
    simp only [Instr.fill]
    cases ho : offs[i]? with
    | none => rw [ho] at h; cases h
    | some p =>
      obtain ⟨off, size⟩ := p
      rw [ho] at h
      simp only at h ⊢
      split at h
      · rename_i hc
        have h1 : v.cells.size = size := by simpa using hc.1
        have h2 : off + size ≤ cs.size := by simpa using hc.2
        have hcond : ¬ (v.cells.size ≠ size ∨ off + v.cells.size > cs.size) := by omega
        have hf := foldl_set off v.cells.toList 0 cs (by simp [h1]; omega)
        have hz : (v.cells.zipIdx.foldl (fun cs (c, j) => cs.setIfInBounds (off + j) c) cs) = (v.cells.toList.zipIdx 0).foldl (fun cs (c, j) => cs.setIfInBounds (off + j) c) cs := by
          rw [← Array.foldl_toList, Array.toList_zipIdx]
        have hb : (decide (v.cells.size ≠ size) || decide (off + v.cells.size > cs.size)) = false := by simp; omega
        rw [if_neg (by rw [hb]; simp)]
        refine putAll_fill offs l _ ds ?_
        rw [hz, hf]
        simp only [Nat.add_zero, List.append_assoc, Array.length_toList, h1]
        exact h
      · cases h
/-- The same, told without tests. -/
def spl : Nat → List Value → List Value → List Value
  | _, _, [] => []
  | n + 1, v, c :: cs => c :: spl n v cs
  | 0, [], c :: cs => c :: cs
  | 0, x :: v, _ :: cs => x :: spl 0 v cs
def putA (offs : List (Nat × Nat)) : List Value → List (Nat × List Value) → List Value
  | cs, [] => cs
  | cs, (i, v) :: l => putA offs (spl (offs.getD i (0, 0)).1 v cs) l
def okA (offs : List (Nat × Nat)) (len : Nat) : List (Nat × List Value) → Bool
  | [] => true
  | (i, v) :: l => Nat.blt i offs.length && Nat.beq v.length (offs.getD i (0, 0)).2 && Nat.ble ((offs.getD i (0, 0)).1 + (offs.getD i (0, 0)).2) len && okA offs len l
theorem spl_eq : ∀ (off : Nat) (v cs : List Value), off + v.length ≤ cs.length → spl off v cs = cs.take off ++ (v ++ cs.drop (off + v.length))
  | off, v, [], h => by
    have h1 : off = 0 := by rw [List.length_nil] at h; omega
    have h2 : v = [] := List.eq_nil_of_length_eq_zero (by rw [List.length_nil] at h; omega)
    subst h1 h2
    rfl
  | n + 1, v, c :: cs, h => by
    rw [spl, spl_eq n v cs (by simp at h; omega), show n + 1 + v.length = (n + v.length) + 1 by omega]
    simp
  | 0, [], c :: cs, _ => by simp [spl]
  | 0, x :: v, c :: cs, h => by
    rw [spl, spl_eq 0 v cs (by simp at h ⊢; omega)]
    simp
theorem putA_eq (offs : List (Nat × Nat)) : ∀ (l : List (Nat × List Value)) (cs : List Value), okA offs cs.length l = true → putAll offs cs l = some (putA offs cs l)
  | [], _, _ => rfl
  | (i, v) :: l, cs, h => by
    simp only [okA, Bool.and_eq_true, Nat.blt_eq, Nat.ble_eq] at h
    obtain ⟨⟨⟨h1, h2⟩, h3⟩, h4⟩ := h
    replace h2 := Nat.eq_of_beq_eq_true h2
    have ho : offs[i]? = some (offs.getD i (0, 0)) := by simp [h1]
    simp only [putAll, ho, putA]
    generalize offs.getD i (0, 0) = p at *
    obtain ⟨off, size⟩ := p
    simp only at h2 h3 ⊢
    rw [if_pos ⟨h2, h3⟩, spl_eq off v cs (by omega), h2]
    refine putA_eq offs l _ ?_
    rw [← h4]
    congr 1
    simp
    omega
class StrT (P : Program) (t : TypeId) (offs : outParam (List (Nat × Nat))) (z : outParam (List Value)) : Prop where
  h : ∀ parts, P.built t parts = Instr.fill (offs[·]?) z.toArray parts
def strInfo (P : Program) (t : TypeId) : Option (List (Nat × Nat) × List Value) :=
  match P.underlying t, P.info? t with
  | some (.struct fs), some it => match it.zero, fs.toList.mapM (fun f => (P.info? f.type).map fun i => (f.offset, i.size)) with
    | some (.agg z), some offs => some (offs, z.toList)
    | _, _ => none
  | _, _ => none
theorem strT_struct {P : Program} {t : TypeId} {offs : List (Nat × Nat)} {z : List Value} (h : strInfo P t = some (offs, z)) : StrT P t offs z := ⟨fun parts => by
  unfold strInfo at h
  split at h
  · rename_i fs it h1 h2
    split at h
    · rename_i z' offs' h3 h4
      simp only [Option.some.injEq, Prod.mk.injEq] at h
      obtain ⟨rfl, rfl⟩ := h
      unfold Program.built
      rw [h1, h2]
      simp only [h3, h4, Value.cells]
      congr 1
      funext i
      simp
    · cases h
  · cases h⟩
section
variable {P : Program} {C : CallH} {o : Oper} {f : Fr} {w : World} {K : Value → World → Prop} {t : TypeId}
theorem WO_buildL {parts : Array (Nat × Operand)} {offs : List (Nat × Nat)} {z cs : List Value} (vs : List (Nat × Value)) (hop : o.op = .build t parts) [S : StrT P t offs z] (hps : parts.toList.map (fun x => (x.1, ev f x.2)) = vs)
    (hc : putAll offs z (vs.map fun x => (x.1, x.2.cells.toList)) = some cs) (hk : K (.agg cs.toArray) w) : WO P C o f w K := by
  refine WO_build hop ?_ hk
  rw [S.h]
  have := putAll_fill offs vs z.toArray cs (by simpa using hc)
  rw [← this]
  congr 1
  rw [← hps]
  simp
theorem WO_buildN0 {offs : List (Nat × Nat)} {z cs : List Value} (hop : o.op = .build t #[]) [StrT P t offs z]   (hok : okA offs z.length [] = true) (hc : putA offs z [] = cs) (hk : K (.agg cs.toArray) w) : WO P C o f w K :=
  WO_buildL [] hop (by simp) (by have := putA_eq offs _ z hok; rw [hc] at this; simpa using this) hk
theorem WO_buildN1 {i0 : Nat} {x0 : Operand} {v0 : Value} {d0 : List Value} {offs : List (Nat × Nat)} {z cs : List Value} (hop : o.op = .build t #[(i0, x0)]) [StrT P t offs z] (h0 : ev f x0 = v0) (c0 : v0.cells = d0.toArray) (hok : okA offs z.length [(i0, d0)] = true) (hc : putA offs z [(i0, d0)] = cs) (hk : K (.agg cs.toArray) w) : WO P C o f w K :=
  WO_buildL [(i0, v0)] hop (by simp [h0]) (by have := putA_eq offs _ z hok; rw [hc] at this; simpa [c0] using this) hk
theorem WO_buildN2 {i0 i1 : Nat} {x0 x1 : Operand} {v0 v1 : Value} {d0 d1 : List Value} {offs : List (Nat × Nat)} {z cs : List Value} (hop : o.op = .build t #[(i0, x0), (i1, x1)]) [StrT P t offs z] (h0 : ev f x0 = v0) (h1 : ev f x1 = v1) (c0 : v0.cells = d0.toArray) (c1 : v1.cells = d1.toArray) (hok : okA offs z.length [(i0, d0), (i1, d1)] = true) (hc : putA offs z [(i0, d0), (i1, d1)] = cs) (hk : K (.agg cs.toArray) w) : WO P C o f w K :=
  WO_buildL [(i0, v0), (i1, v1)] hop (by simp [h0, h1]) (by have := putA_eq offs _ z hok; rw [hc] at this; simpa [c0, c1] using this) hk
theorem WO_buildN3 {i0 i1 i2 : Nat} {x0 x1 x2 : Operand} {v0 v1 v2 : Value} {d0 d1 d2 : List Value} {offs : List (Nat × Nat)} {z cs : List Value} (hop : o.op = .build t #[(i0, x0), (i1, x1), (i2, x2)]) [StrT P t offs z] (h0 : ev f x0 = v0) (h1 : ev f x1 = v1) (h2 : ev f x2 = v2) (c0 : v0.cells = d0.toArray) (c1 : v1.cells = d1.toArray) (c2 : v2.cells = d2.toArray) (hok : okA offs z.length [(i0, d0), (i1, d1), (i2, d2)] = true) (hc : putA offs z [(i0, d0), (i1, d1), (i2, d2)] = cs) (hk : K (.agg cs.toArray) w) : WO P C o f w K :=
  WO_buildL [(i0, v0), (i1, v1), (i2, v2)] hop (by simp [h0, h1, h2]) (by have := putA_eq offs _ z hok; rw [hc] at this; simpa [c0, c1, c2] using this) hk
theorem WO_buildN4 {i0 i1 i2 i3 : Nat} {x0 x1 x2 x3 : Operand} {v0 v1 v2 v3 : Value} {d0 d1 d2 d3 : List Value} {offs : List (Nat × Nat)} {z cs : List Value} (hop : o.op = .build t #[(i0, x0), (i1, x1), (i2, x2), (i3, x3)]) [StrT P t offs z] (h0 : ev f x0 = v0) (h1 : ev f x1 = v1) (h2 : ev f x2 = v2) (h3 : ev f x3 = v3) (c0 : v0.cells = d0.toArray) (c1 : v1.cells = d1.toArray) (c2 : v2.cells = d2.toArray) (c3 : v3.cells = d3.toArray) (hok : okA offs z.length [(i0, d0), (i1, d1), (i2, d2), (i3, d3)] = true) (hc : putA offs z [(i0, d0), (i1, d1), (i2, d2), (i3, d3)] = cs) (hk : K (.agg cs.toArray) w) : WO P C o f w K :=
  WO_buildL [(i0, v0), (i1, v1), (i2, v2), (i3, v3)] hop (by simp [h0, h1, h2, h3]) (by have := putA_eq offs _ z hok; rw [hc] at this; simpa [c0, c1, c2, c3] using this) hk
theorem WO_buildN5 {i0 i1 i2 i3 i4 : Nat} {x0 x1 x2 x3 x4 : Operand} {v0 v1 v2 v3 v4 : Value} {d0 d1 d2 d3 d4 : List Value} {offs : List (Nat × Nat)} {z cs : List Value} (hop : o.op = .build t #[(i0, x0), (i1, x1), (i2, x2), (i3, x3), (i4, x4)]) [StrT P t offs z] (h0 : ev f x0 = v0) (h1 : ev f x1 = v1) (h2 : ev f x2 = v2) (h3 : ev f x3 = v3) (h4 : ev f x4 = v4) (c0 : v0.cells = d0.toArray) (c1 : v1.cells = d1.toArray) (c2 : v2.cells = d2.toArray) (c3 : v3.cells = d3.toArray) (c4 : v4.cells = d4.toArray) (hok : okA offs z.length [(i0, d0), (i1, d1), (i2, d2), (i3, d3), (i4, d4)] = true) (hc : putA offs z [(i0, d0), (i1, d1), (i2, d2), (i3, d3), (i4, d4)] = cs) (hk : K (.agg cs.toArray) w) : WO P C o f w K :=
  WO_buildL [(i0, v0), (i1, v1), (i2, v2), (i3, v3), (i4, v4)] hop (by simp [h0, h1, h2, h3, h4]) (by have := putA_eq offs _ z hok; rw [hc] at this; simpa [c0, c1, c2, c3, c4] using this) hk
theorem WO_buildN6 {i0 i1 i2 i3 i4 i5 : Nat} {x0 x1 x2 x3 x4 x5 : Operand} {v0 v1 v2 v3 v4 v5 : Value} {d0 d1 d2 d3 d4 d5 : List Value} {offs : List (Nat × Nat)} {z cs : List Value} (hop : o.op = .build t #[(i0, x0), (i1, x1), (i2, x2), (i3, x3), (i4, x4), (i5, x5)]) [StrT P t offs z] (h0 : ev f x0 = v0) (h1 : ev f x1 = v1) (h2 : ev f x2 = v2) (h3 : ev f x3 = v3) (h4 : ev f x4 = v4) (h5 : ev f x5 = v5) (c0 : v0.cells = d0.toArray) (c1 : v1.cells = d1.toArray) (c2 : v2.cells = d2.toArray) (c3 : v3.cells = d3.toArray) (c4 : v4.cells = d4.toArray) (c5 : v5.cells = d5.toArray) (hok : okA offs z.length [(i0, d0), (i1, d1), (i2, d2), (i3, d3), (i4, d4), (i5, d5)] = true) (hc : putA offs z [(i0, d0), (i1, d1), (i2, d2), (i3, d3), (i4, d4), (i5, d5)] = cs) (hk : K (.agg cs.toArray) w) : WO P C o f w K :=
  WO_buildL [(i0, v0), (i1, v1), (i2, v2), (i3, v3), (i4, v4), (i5, v5)] hop (by simp [h0, h1, h2, h3, h4, h5]) (by have := putA_eq offs _ z hok; rw [hc] at this; simpa [c0, c1, c2, c3, c4, c5] using this) hk
theorem WO_buildN7 {i0 i1 i2 i3 i4 i5 i6 : Nat} {x0 x1 x2 x3 x4 x5 x6 : Operand} {v0 v1 v2 v3 v4 v5 v6 : Value} {d0 d1 d2 d3 d4 d5 d6 : List Value} {offs : List (Nat × Nat)} {z cs : List Value} (hop : o.op = .build t #[(i0, x0), (i1, x1), (i2, x2), (i3, x3), (i4, x4), (i5, x5), (i6, x6)]) [StrT P t offs z] (h0 : ev f x0 = v0) (h1 : ev f x1 = v1) (h2 : ev f x2 = v2) (h3 : ev f x3 = v3) (h4 : ev f x4 = v4) (h5 : ev f x5 = v5) (h6 : ev f x6 = v6) (c0 : v0.cells = d0.toArray) (c1 : v1.cells = d1.toArray) (c2 : v2.cells = d2.toArray) (c3 : v3.cells = d3.toArray) (c4 : v4.cells = d4.toArray) (c5 : v5.cells = d5.toArray) (c6 : v6.cells = d6.toArray) (hok : okA offs z.length [(i0, d0), (i1, d1), (i2, d2), (i3, d3), (i4, d4), (i5, d5), (i6, d6)] = true) (hc : putA offs z [(i0, d0), (i1, d1), (i2, d2), (i3, d3), (i4, d4), (i5, d5), (i6, d6)] = cs) (hk : K (.agg cs.toArray) w) : WO P C o f w K :=
  WO_buildL [(i0, v0), (i1, v1), (i2, v2), (i3, v3), (i4, v4), (i5, v5), (i6, v6)] hop (by simp [h0, h1, h2, h3, h4, h5, h6]) (by have := putA_eq offs _ z hok; rw [hc] at this; simpa [c0, c1, c2, c3, c4, c5, c6] using this) hk
theorem WO_mkf0 {fn : Fn} (hop : o.op = .makeFunc fn #[] #[]) (hk : K (.func fn #[] [].toArray) w) : WO P C o f w K :=
  WO_val (by simp [execOp, hop, Instr.makeFunc]) hk
theorem WO_mkf1 {fn : Fn} {y0 : Operand} {u0 : Value} (hop : o.op = .makeFunc fn #[] #[y0]) (h0 : ev f y0 = u0) (hk : K (.func fn #[] [u0].toArray) w) : WO P C o f w K :=
  WO_val (by simp [execOp, hop, Instr.makeFunc, h0]) hk
theorem WO_mkf2 {fn : Fn} {y0 y1 : Operand} {u0 u1 : Value} (hop : o.op = .makeFunc fn #[] #[y0, y1]) (h0 : ev f y0 = u0) (h1 : ev f y1 = u1) (hk : K (.func fn #[] [u0, u1].toArray) w) : WO P C o f w K :=
  WO_val (by simp [execOp, hop, Instr.makeFunc, h0, h1]) hk
theorem WO_mkf3 {fn : Fn} {y0 y1 y2 : Operand} {u0 u1 u2 : Value} (hop : o.op = .makeFunc fn #[] #[y0, y1, y2]) (h0 : ev f y0 = u0) (h1 : ev f y1 = u1) (h2 : ev f y2 = u2) (hk : K (.func fn #[] [u0, u1, u2].toArray) w) : WO P C o f w K :=
  WO_val (by simp [execOp, hop, Instr.makeFunc, h0, h1, h2]) hk
theorem WO_mkf4 {fn : Fn} {y0 y1 y2 y3 : Operand} {u0 u1 u2 u3 : Value} (hop : o.op = .makeFunc fn #[] #[y0, y1, y2, y3]) (h0 : ev f y0 = u0) (h1 : ev f y1 = u1) (h2 : ev f y2 = u2) (h3 : ev f y3 = u3) (hk : K (.func fn #[] [u0, u1, u2, u3].toArray) w) : WO P C o f w K :=
  WO_val (by simp [execOp, hop, Instr.makeFunc, h0, h1, h2, h3]) hk
theorem WO_mkf5 {fn : Fn} {y0 y1 y2 y3 y4 : Operand} {u0 u1 u2 u3 u4 : Value} (hop : o.op = .makeFunc fn #[] #[y0, y1, y2, y3, y4]) (h0 : ev f y0 = u0) (h1 : ev f y1 = u1) (h2 : ev f y2 = u2) (h3 : ev f y3 = u3) (h4 : ev f y4 = u4) (hk : K (.func fn #[] [u0, u1, u2, u3, u4].toArray) w) : WO P C o f w K :=
  WO_val (by simp [execOp, hop, Instr.makeFunc, h0, h1, h2, h3, h4]) hk
theorem WO_mkf6 {fn : Fn} {y0 y1 y2 y3 y4 y5 : Operand} {u0 u1 u2 u3 u4 u5 : Value} (hop : o.op = .makeFunc fn #[] #[y0, y1, y2, y3, y4, y5]) (h0 : ev f y0 = u0) (h1 : ev f y1 = u1) (h2 : ev f y2 = u2) (h3 : ev f y3 = u3) (h4 : ev f y4 = u4) (h5 : ev f y5 = u5) (hk : K (.func fn #[] [u0, u1, u2, u3, u4, u5].toArray) w) : WO P C o f w K :=
  WO_val (by simp [execOp, hop, Instr.makeFunc, h0, h1, h2, h3, h4, h5]) hk
end
end Go.Proofs.YtmoppmfbfpjdnaaGreat.R
