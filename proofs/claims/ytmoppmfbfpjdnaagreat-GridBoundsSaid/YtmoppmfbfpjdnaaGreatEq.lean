/- Values of plain parts (whole numbers, bools, structs and arrays of these) compare as their cells. -/
import Derived.Test.YtmoppmfbfpjdnaaGreatOwn3
namespace Go.Proofs.YtmoppmfbfpjdnaaGreat.R
open Go.RowKit

/-- The kinds of a plain type's cells; 'none': a bool. -/
def Fit : List (Option IntKind) → List Value → Prop
  | [], [] => True
  | some k :: l, .int q _ :: cs => q = k ∧ Fit l cs
  | none :: l, .bool _ :: cs => Fit l cs
  | _, _ => False
theorem Fit.len : ∀ {l : List (Option IntKind)} {cs : List Value}, Fit l cs → cs.length = l.length
  | [], [], _ => rfl
  | [], _ :: _, h => h.elim
  | some k :: l, c :: cs, h => by
    cases c <;> simp only [Fit] at h
    simp [Fit.len h.2]
  | none :: l, c :: cs, h => by
    cases c <;> simp only [Fit] at h
    simp [Fit.len h]
  | some _ :: _, [], h => h.elim
  | none :: _, [], h => h.elim
theorem Fit.split : ∀ {l m : List (Option IntKind)} {cs : List Value}, Fit (l ++ m) cs → Fit l (cs.take l.length) ∧ Fit m (cs.drop l.length)
  | [], m, cs, h => by simpa [Fit] using h
  | some k :: l, m, c :: cs, h => by
    cases c <;> simp only [List.cons_append, Fit] at h
    have := Fit.split h.2
    simp only [List.length_cons, List.take_succ_cons, List.drop_succ_cons, Fit]
    exact ⟨⟨h.1, this.1⟩, this.2⟩
  | none :: l, m, c :: cs, h => by
    cases c <;> simp only [List.cons_append, Fit] at h
    have := Fit.split h
    simp only [List.length_cons, List.take_succ_cons, List.drop_succ_cons, Fit]
    exact ⟨this.1, this.2⟩
  | some _ :: _, _, [], h => h.elim
  | none :: _, _, [], h => h.elim
def vOf (agg : Bool) (cs : List Value) : Value := if agg then .agg cs.toArray else (cs.getD 0 undef)
/-- The type t's values compare as their cells, which are of the kinds ls. -/
def EqOk (P : Program) (t : TypeId) (ls : List (Option IntKind)) (n : Nat) : Prop := ∃ b, kindT P t = some b ∧ szT P t = some ls.length ∧ (b = false → ls.length = 1) ∧
  ∀ (d : Nat) (w : World) (cs ds : List Value), n ≤ d → Fit ls cs → Fit ls ds → ∃ r, (Op.equalIn d t (vOf b cs) (vOf b ds)).run P w = .ok r w ∧ (r = true ↔ cs = ds)
section
variable {P : Program}
def aggD : TypeDesc → Bool
  | .struct _ => true
  | .array _ _ => true
  | _ => false
theorem kindT_of {t : TypeId} {d : TypeDesc} (h : P.underlying t = some d) : kindT P t = some (aggD d) := by
  unfold kindT
  rw [h]
  cases d <;> rfl
theorem eqOk_int {t : TypeId} {k : IntKind} (h : P.underlying t = some (.int k)) (hs : szT P t = some 1) : EqOk P t [some k] 1 := by
  refine ⟨false, kindT_of h, hs, fun _ => rfl, fun d w cs ds hd hc he => ?_⟩
  obtain ⟨d, rfl⟩ : ∃ d', d = d' + 1 := ⟨d - 1, by omega⟩
  match cs, ds, hc, he with
  | [c], [e], hc, he =>
    cases c <;> simp only [Fit] at hc
    cases e <;> simp only [Fit] at he
    obtain ⟨rfl, _⟩ := hc
    obtain ⟨rfl, _⟩ := he
    refine ⟨_, by simpa [vOf] using run_equalIn_int w d t _ _ _ _ h, by simp⟩
  | [], _, hc, _ => exact hc.elim
  | _ :: _ :: _, _, hc, _ => have := hc.len; simp at this
  | _, [], _, he => exact he.elim
  | _, _ :: _ :: _, _, he => have := he.len; simp at this
theorem eqOk_bool {t : TypeId} (h : P.underlying t = some .bool) (hs : szT P t = some 1) : EqOk P t [none] 1 := by
  refine ⟨false, kindT_of h, hs, fun _ => rfl, fun d w cs ds hd hc he => ?_⟩
  obtain ⟨d, rfl⟩ : ∃ d', d = d' + 1 := ⟨d - 1, by omega⟩
  match cs, ds, hc, he with
  | [c], [e], hc, he =>
    cases c <;> simp only [Fit] at hc
    cases e <;> simp only [Fit] at he
    refine ⟨_, by simpa [vOf] using run_equalIn_bool' w d t _ _ h, by simp⟩
  | [], _, hc, _ => exact hc.elim
  | _ :: _ :: _, _, hc, _ => have := hc.len; simp at this
  | _, [], _, he => exact he.elim
  | _, _ :: _ :: _, _, he => have := he.len; simp at this
theorem run_part {t : TypeId} {b : Bool} {n : Nat} (hk : kindT P t = some b) (hs : szT P t = some n) (h1 : b = false → n = 1) (cs : List Value) (off : Nat) (h : off + n ≤ cs.length) (w : World) :
    (part t cs.toArray off).run P w = .ok (vOf b ((cs.drop off).take n)) w := by
  cases b with
  | true =>
    simp [part, run_kind hk, run_sz hs, vOf]
  | false =>
    have := h1 rfl
    subst this
    have hlt : off < cs.length := by omega
    simp [part, run_kind hk, vOf, hlt]
inductive FldOk (P : Program) (n : Nat) : List Field → Nat → List (Option IntKind) → Prop
  | nil {o} : FldOk P n [] o []
  | cons {f fs o l1 l2} (h1 : f.name ≠ "_") (h2 : f.offset = o) (h3 : EqOk P f.type l1 n) (h4 : FldOk P n fs (o + l1.length) l2) : FldOk P n (f :: fs) o (l1 ++ l2)
theorem eqFields_ok {n d : Nat} (hd : n ≤ d) (w : World) : ∀ {fs : List Field} {o : Nat} {ls : List (Option IntKind)} (_ : FldOk P n fs o ls) (cs ds : List Value), cs.length = o + ls.length → ds.length = o + ls.length → Fit ls (cs.drop o) → Fit ls (ds.drop o) →
    ∃ r, (Op.eqFields d cs.toArray ds.toArray fs).run P w = .ok r w ∧ (r = true ↔ cs.drop o = ds.drop o)
  | _, _, _, .nil, cs, ds, hc, he, _, _ => by
    refine ⟨true, by simp [Op.eqFields], ?_⟩
    simp at hc he
    rw [List.drop_of_length_le (by omega), List.drop_of_length_le (by omega)]
    simp
  | _, _, _, .cons (f := f) (fs := fs) (o := o) (l1 := l1) (l2 := l2) h1 h2 h3 h4, cs, ds, hc, he, fc, fe => by
    obtain ⟨b, hk, hs, hb, heq⟩ := h3
    rw [List.length_append] at hc he
    have pc := run_part hk hs hb cs o (by omega) w
    have pe := run_part hk hs hb ds o (by omega) w
    obtain ⟨fc1, fc2⟩ := fc.split
    obtain ⟨fe1, fe2⟩ := fe.split
    obtain ⟨r1, hr1, hi1⟩ := heq d w _ _ hd fc1 fe1
    rw [List.drop_drop] at fc2 fe2
    obtain ⟨r2, hr2, hi2⟩ := eqFields_ok hd w h4 cs ds (by omega) (by omega) fc2 fe2
    have key : cs.drop o = ds.drop o ↔ (cs.drop o).take l1.length = (ds.drop o).take l1.length ∧ cs.drop (o + l1.length) = ds.drop (o + l1.length) := by
      rw [← List.drop_drop, ← List.drop_drop]
      constructor
      · intro h; rw [h]; exact ⟨rfl, rfl⟩
      · rintro ⟨ha, hb⟩
        rw [← List.take_append_drop l1.length (cs.drop o), ha, hb, List.take_append_drop]
    simp only [Op.eqFields, if_pos h1, Sem.run_bind, h2, pc, pe, Result.andThen_ok, hr1]
    cases r1 with
    | false =>
      refine ⟨false, by simp, ?_⟩
      rw [key, ← hi1]
      simp
    | true =>
      refine ⟨r2, by simpa using hr2, ?_⟩
      rw [key, ← hi1, hi2]
      simp
theorem eqOk_struct {t : TypeId} {fs : Array Field} {ls : List (Option IntKind)} {n : Nat} (h : P.underlying t = some (.struct fs)) (hp : P.stoodInHeld t = false) (hs : szT P t = some ls.length) (hf : FldOk P n fs.toList 0 ls) : EqOk P t ls (n + 1) := by
  refine ⟨true, kindT_of h, hs, by simp, fun d w cs ds hd hc he => ?_⟩
  obtain ⟨d, rfl⟩ : ∃ d', d = d' + 1 := ⟨d - 1, by omega⟩
  have hfo : P.fieldsOf t = fs := by unfold Program.fieldsOf; rw [h]
  have := run_equalIn_struct w d t cs.toArray ds.toArray (by rw [hfo]; exact h) hp
  rw [hfo] at this
  obtain ⟨r, hr, hi⟩ := eqFields_ok (n := n) (d := d) (by omega) w hf cs ds (by have := hc.len; omega) (by have := he.len; omega) (by simpa using hc) (by simpa using he)
  exact ⟨r, by rw [← hr, ← this]; rfl, by simpa using hi⟩
theorem fit_rep : ∀ (m : Nat) (l1 : List (Option IntKind)) (cs : List Value), Fit ((List.replicate (m + 1) l1).flatten) cs → Fit l1 (cs.take l1.length) ∧ Fit ((List.replicate m l1).flatten) (cs.drop l1.length) := fun m l1 cs h => by
  rw [List.replicate_succ, List.flatten_cons] at h
  exact h.split
theorem eqOk_array {t e : TypeId} {m : Nat} {l1 : List (Option IntKind)} {n : Nat} (h : P.underlying t = some (.array m e)) (hs : szT P t = some ((List.replicate m l1).flatten.length)) (he : EqOk P e l1 n) : EqOk P t (List.replicate m l1).flatten (n + 1) := by
  refine ⟨true, kindT_of h, hs, by simp, fun d w cs ds hd hc hE => ?_⟩
  obtain ⟨d, rfl⟩ : ∃ d', d = d' + 1 := ⟨d - 1, by omega⟩
  obtain ⟨b, hk, hse, hb, heq⟩ := he
  show ∃ r, (Op.equalIn (d + 1) t (.agg cs.toArray) (.agg ds.toArray)).run P w = .ok r w ∧ _
  rw [Op.equalIn]
  simp only [Sem.run_bind, run_underlying h, Result.andThen_ok, run_sz hse]
  simp only [Std.Legacy.Range.forIn_eq_forIn_range', Std.Legacy.Range.size, Nat.sub_zero, Nat.add_sub_cancel, Nat.div_one]
  have key : ∀ (r s : Nat), cs.length = s * l1.length + r * l1.length → ds.length = s * l1.length + r * l1.length → Fit ((List.replicate r l1).flatten) (cs.drop (s * l1.length)) → Fit ((List.replicate r l1).flatten) (ds.drop (s * l1.length)) →
    ∃ q : Bool, (Sem.run P (forIn (List.range' s r 1) (none, PUnit.unit) fun i __s => do
            let x ← part e cs.toArray (i * l1.length)
            let y ← part e ds.toArray (i * l1.length)
            let c ← Op.equalIn d e x y
            if (!c) = true then pure (ForInStep.done (some false, PUnit.unit)) else pure (ForInStep.yield (none, PUnit.unit))) w) = .ok (if q then none else some false, PUnit.unit) w ∧ (q = true ↔ cs.drop (s * l1.length) = ds.drop (s * l1.length)) := by
    intro r
    induction r with
    | zero =>
      intro s h1 h2 _ _
      refine ⟨true, by simp, ?_⟩
      rw [List.drop_of_length_le (by omega), List.drop_of_length_le (by omega)]
      simp
    | succ r ih =>
      intro s h1 h2 f1 f2
      have e1 : (r + 1) * l1.length = l1.length + r * l1.length := by rw [Nat.succ_mul, Nat.add_comm]
      have e2 : (s + 1) * l1.length = s * l1.length + l1.length := Nat.succ_mul _ _
      rw [e1] at h1 h2
      obtain ⟨a1, a2⟩ := fit_rep r l1 _ f1
      obtain ⟨b1, b2⟩ := fit_rep r l1 _ f2
      rw [List.drop_drop, ← e2] at a2 b2
      obtain ⟨q, hq, hqi⟩ := ih (s + 1) (by omega) (by omega) a2 b2
      obtain ⟨r1, hr1, hi1⟩ := heq d w _ _ (by omega) a1 b1
      have kk : cs.drop (s * l1.length) = ds.drop (s * l1.length) ↔ (cs.drop (s * l1.length)).take l1.length = (ds.drop (s * l1.length)).take l1.length ∧ cs.drop ((s + 1) * l1.length) = ds.drop ((s + 1) * l1.length) := by
        rw [e2, ← List.drop_drop, ← List.drop_drop]
        constructor
        · intro h; rw [h]; exact ⟨rfl, rfl⟩
        · rintro ⟨ha, hb⟩
          rw [← List.take_append_drop l1.length (cs.drop (s * l1.length)), ha, hb, List.take_append_drop]
      simp only [List.range'_succ, List.forIn_cons, Sem.run_bind, run_part hk hse hb cs _ (show s * l1.length + l1.length ≤ cs.length by omega) w, run_part hk hse hb ds _ (show s * l1.length + l1.length ≤ ds.length by omega) w, Result.andThen_ok, hr1]
      cases r1 with
      | false =>
        refine ⟨false, by simp, ?_⟩
        rw [kk, ← hi1]
        simp
      | true =>
        refine ⟨q, by simpa using hq, ?_⟩
        rw [kk, ← hi1, hqi]
        simp
  have hl : ((List.replicate m l1).flatten).length = m * l1.length := by simp
  obtain ⟨q, hq, hqi⟩ := key m 0 (by rw [hc.len, hl]; omega) (by rw [hE.len, hl]; omega) (by simpa using hc) (by simpa using hE)
  refine ⟨q, ?_, by simpa using hqi⟩
  rw [hq]
  cases q <;> simp
def leafs (P : Program) : Nat → TypeId → Option (List (Option IntKind))
  | 0, _ => none
  | d + 1, t => match P.underlying t with
    | some (.int k) => if szT P t = some 1 then some [some k] else none
    | some .bool => if szT P t = some 1 then some [none] else none
    | some (.array m e) => match leafs P d e with
      | some l => if szT P t = some (m * l.length) then some (List.replicate m l).flatten else none
      | none => none
    | some (.struct fs) => if P.stoodInHeld t then none else
      match fs.toList.foldlM (fun acc f => if f.name ≠ "_" ∧ f.offset = acc.length then (leafs P d f.type).map (acc ++ ·) else none) [] with
      | some l => if szT P t = some l.length then some l else none
      | none => none
    | _ => none
theorem EqOk.more {t : TypeId} {ls : List (Option IntKind)} {n m : Nat} (h : EqOk P t ls n) (hm : n ≤ m) : EqOk P t ls m := by
  obtain ⟨b, h1, h2, h3, h4⟩ := h
  exact ⟨b, h1, h2, h3, fun d w cs ds hd => h4 d w cs ds (by omega)⟩
theorem eqOk_leafs : ∀ (d : Nat) (t : TypeId) (ls : List (Option IntKind)), leafs P d t = some ls → EqOk P t ls d
  | 0, _, _, h => by cases h
  | d + 1, t, ls, h => by
    rw [leafs] at h
    split at h
    · rename_i k hu
      split at h
      · rename_i hs; cases h; exact (eqOk_int hu hs).more (by omega)
      · cases h
    · rename_i hu
      split at h
      · rename_i hs; cases h; exact (eqOk_bool hu hs).more (by omega)
      · cases h
    · rename_i m e hu
      split at h
      · rename_i l hl
        split at h
        · rename_i hs
          cases h
          exact eqOk_array hu (by rw [hs]; simp) (eqOk_leafs d e l hl)
        · cases h
      · cases h
    · rename_i fs hu
      split at h
      · cases h
      · rename_i hst
        split at h
        · rename_i l hl
          split at h
          · rename_i hs
            cases h
            refine eqOk_struct hu (by simpa using hst) hs ?_
            have key : ∀ (fs : List Field) (acc l : List (Option IntKind)), fs.foldlM (fun acc f => if f.name ≠ "_" ∧ f.offset = acc.length then (leafs P d f.type).map (acc ++ ·) else none) acc = some l → ∃ l2, l = acc ++ l2 ∧ FldOk P d fs acc.length l2 := by
              intro fs
              induction fs with
              | nil => intro acc l h; simp at h; exact ⟨[], by simp [h], .nil⟩
              | cons f fs ih =>
                intro acc l h
                rw [List.foldlM_cons] at h
                split at h
                · rename_i hc
                  cases hlf : leafs P d f.type with
                  | none => rw [hlf] at h; simp at h
                  | some l1 =>
                    rw [hlf] at h
                    obtain ⟨l2, h1, h2⟩ := ih (acc ++ l1) l (by simpa using h)
                    refine ⟨l1 ++ l2, by rw [h1, List.append_assoc], .cons hc.1 hc.2 (eqOk_leafs d _ _ hlf) (by rw [List.length_append] at h2; exact h2)⟩
                · simp at h
            obtain ⟨l2, h1, h2⟩ := key fs.toList [] ls hl
            rw [h1]
            simpa using h2
          · cases h
        · cases h
    · cases h
theorem eqT_of {t : TypeId} {T : Type} {enc : T → List Value} {ls : List (Option IntKind)} (h : leafs P 9 t = some ls) (hk : kindT P t = some true) (hg : P.eqGuardType P.depth t = false) (hfit : ∀ x, Fit ls (enc x)) (hinj : ∀ a b, enc a = enc b → a = b) : EqT P t T enc := ⟨hg, fun a b d w => by
  obtain ⟨b', h1, _, _, h4⟩ := eqOk_leafs 9 t ls h
  rw [hk] at h1
  cases h1
  obtain ⟨r, hr, hi⟩ := h4 (d + 9) w _ _ (by omega) (hfit a) (hfit b)
  exact ⟨r, hr, hi.trans ⟨hinj a b, fun e => by rw [e]⟩⟩⟩
end
end Go.Proofs.YtmoppmfbfpjdnaaGreat.R
