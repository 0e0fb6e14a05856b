/- What the document says a walk leads to; the parts of the document. Plain laws. -/
import Derived.Test.YtegbidklcaccjaaKc
import Derived.Test.YtegbidklcaccjaaKr
namespace Go.Proofs.Ytegbidklcaccjaa
open R (In64 InU64 lo64 nth)
/-- The rounds of a walk's marking: all that is marked is led to; behind round r no fewer than r + 1 are marked, or no arc leaves what is. -/
structure Rnd (I : Ac) (v : Nat) (B : List Bool) : Prop where
  len : B.length = I.n
  at_ : nth B v = true
  to : ∀ x, x < I.n → nth B x = true → Rch I.arc v x
def Shut (I : Ac) (B : List Bool) : Prop := ∀ u w, nth B u = true → I.arc u w → nth B w = true
/-- Within a round: what was marked as it began, B0; the vertices below u, and of u the arcs below i, were gone through. -/
structure Rin (I : Ac) (v : Nat) (B0 B : List Bool) (u i : Nat) : Prop where
  r : Rnd I v B
  up : ∀ x, nth B0 x = true → nth B x = true
  cl : ∀ x, x < u → nth B0 x = true → ∀ t, I.of x t → nth B (I.H t) = true
  clu : nth B0 u = true → ∀ t, I.of u t → t < i → nth B (I.H t) = true
section
variable {I : Ac} {v u i : Nat} {B B0 : List Bool}
theorem nth_t {B : List Bool} {x : Nat} (h : nth B x = true) : x < B.length := by
  rcases Nat.lt_or_ge x B.length with c | c
  · exact c
  · unfold R.nth at h
    rw [List.getD_eq_getElem?_getD, List.getElem?_eq_none c] at h
    cases h
theorem Rnd.start {n : Nat} (hn : I.n = n) (hv : v < n) : Rnd I v ((List.replicate n false).set v true) := by
  refine ⟨by simp [hn], by rw [nth_putB (by simpa using hv), if_pos rfl], fun x _ hB => ?_⟩
  rw [nth_putB (by simpa using hv), nth_rep_f] at hB
  split at hB
  · rename_i e; rw [← e]; exact .refl
  · cases hB
theorem Rin.start (h : Rnd I v B) (i : Nat) (hi : ∀ t, I.of 0 t → i ≤ t) : Rin I v B B 0 i := ⟨h, fun _ q => q, fun x hx => absurd hx (Nat.not_lt_zero _), fun _ t ht hti => absurd (hi t ht) (by omega)⟩
theorem Rin.put (h : Rin I v B0 B u i) (hI : I.Ok) (hu : u < I.n) (hi : I.of u i) (hB : nth B u = true) : Rin I v B0 (B.set (I.H i) true) u (i + 1) := by
  have hH := hI.hd i (hI.lt hu hi)
  have hp : ∀ x, nth (B.set (I.H i) true) x = if I.H i = x then true else nth B x := fun x => nth_putB (by rw [h.r.len]; exact hH)
  have hq : ∀ x, nth B x = true → nth (B.set (I.H i) true) x = true := fun x hx => by rw [hp]; split; rfl; exact hx
  refine ⟨⟨by rw [List.length_set]; exact h.r.len, hq _ h.r.at_, fun x hx hB2 => ?_⟩, fun x hx => hq _ (h.up x hx), fun x hx hb t ht => hq _ (h.cl x hx hb t ht), fun hb t ht hti => ?_⟩
  · rw [hp] at hB2
    split at hB2
    · rename_i e
      exact .tail (h.r.to u hu hB) ⟨hu, i, hi, e⟩
    · exact h.r.to x hx hB2
  · rcases Nat.lt_or_ge t i with c | c
    · exact hq _ (h.clu hb t ht c)
    · have : t = i := by omega
      subst this
      rw [hp, if_pos rfl]
theorem Rin.next (h : Rin I v B0 B u i) (j : Nat) (hj : ∀ t, I.of (u + 1) t → j ≤ t) (hd : nth B0 u = true → ∀ t, I.of u t → t < i) : Rin I v B0 B (u + 1) j := ⟨h.r, h.up, fun x hx hb t ht => by
  rcases Nat.lt_or_ge x u with c | c
  · exact h.cl x c hb t ht
  · have : x = u := by omega
    subst this
    exact h.clu hb t ht (hd hb t ht), fun _ t ht hti => absurd (hj t ht) (by omega)⟩
/-- A round is done: no arc leaves what is marked, or more is marked than was. -/
theorem Rin.done (h : Rin I v B0 B I.n i) (h0 : Rnd I v B0) : (Shut I B0 ∧ B = B0) ∨ cntB B0 < cntB B ∨ (Shut I B ∧ B = B0) := by
  have hg := cnt_grow (B := B0) (B' := B) (by rw [h.r.len, h0.len]) h.up
  rcases Classical.em (B0 = B) with e | e
  · refine .inr (.inr ⟨fun a w ha hw => ?_, e.symm⟩)
    obtain ⟨hu, t, ht, e2⟩ := hw
    rw [← e2]
    exact h.cl a hu (by rw [e]; exact ha) t ht
  · exact .inr (.inl (hg.2 e))
end
/-- Behind r rounds. -/
def Rds (I : Ac) (v r : Nat) (B : List Bool) : Prop := Rnd I v B ∧ (Shut I B ∨ r < cntB B)
section
variable {I : Ac} {v r : Nat} {B B0 : List Bool}
theorem cntB_pos {B : List Bool} {x : Nat} (h : nth B x = true) : 0 < cntB B := by
  have hx := nth_t h
  unfold cntB
  rw [List.countP_pos_iff]
  refine ⟨B[x], List.getElem_mem hx, ?_⟩
  rw [R.nth_eq hx] at h
  exact h
theorem Rds.start {n : Nat} (hn : I.n = n) (hv : v < n) : Rds I v 0 ((List.replicate n false).set v true) := ⟨Rnd.start hn hv, .inr (cntB_pos (Rnd.start hn hv).at_)⟩
theorem Rds.step {i : Nat} (h : Rds I v r B0) (hi : Rin I v B0 B I.n i) : Rds I v (r + 1) B := by
  refine ⟨hi.r, ?_⟩
  rcases hi.done h.1 with ⟨q, e⟩ | q | ⟨q, e⟩
  · rw [e]; exact .inl q
  · rcases h.2 with c | c
    · refine .inl fun a w ha hw => ?_
      have hsub : ∀ x, nth B x = true → nth B0 x = true := fun x hx => by
        have hxn : x < I.n := by have := nth_t hx; rwa [hi.r.len] at this
        exact (hi.r.to x hxn hx).stay (X := fun z => nth B0 z = true) (fun a b ha hab => c a b ha hab) h.1.at_
      exact hi.up _ (c a w (hsub a ha) hw)
    · exact .inr (by omega)
  · exact .inl q
theorem Rds.done {n : Nat} (hn : I.n = n) (h : Rds I v n B) (_hA : ∀ u w, I.arc u w → w < n) {x : Nat} (hx : x < n) : nth B x = true ↔ Rch I.arc v x := by
  refine ⟨h.1.to x (by omega), fun q => ?_⟩
  rcases h.2 with c | c
  · exact q.stay (X := fun z => nth B z = true) (fun a b ha hab => c a b ha hab) h.1.at_
  · have := cntB_le (B := B)
    rw [h.1.len] at this
    omega
end
end Go.Proofs.Ytegbidklcaccjaa
