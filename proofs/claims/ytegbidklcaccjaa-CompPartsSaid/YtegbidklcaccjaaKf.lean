/- How many vertices each part has: the plain law. -/
import Derived.Test.YtegbidklcaccjaaKm
namespace Go.Proofs.Ytegbidklcaccjaa
open R (In64 InU64 lo64 nth)
section
variable {Q : Nat → Nat → Prop} {n : Nat} {L : List Int}
theorem fresh_mono {Q : Nat → Nat → Prop} {u v : Nat} (h : u ≤ v) : fresh Q u ≤ fresh Q v := by
  induction v with
  | zero => rw [show u = 0 by omega]; exact Nat.le_refl _
  | succ v ih =>
    rcases Nat.lt_or_ge v u with c | c
    · rw [show u = v + 1 by omega]; exact Nat.le_refl _
    · have := ih c
      rcases Classical.em (∃ x, x < v ∧ Q x v) with ⟨x, hx, q⟩ | q
      · rw [fresh_old hx q]; exact this
      · rw [fresh_new fun x hx q2 => q ⟨x, hx, q2⟩]; omega
theorem IsNum.sz (h : IsNum Q n L) : ∀ k, k < n → 0 ≤ nth L k ∧ ((nth L k = (fresh Q k : Nat) ∧ fresh Q (k + 1) = fresh Q k + 1) ∨ (nth L k < (fresh Q k : Nat) ∧ fresh Q (k + 1) = fresh Q k)) := by
  intro k
  induction k using Nat.strongRecOn with
  | ind k ih =>
    intro hk
    rcases h.nu k hk with ⟨u, hu, hR, e⟩ | ⟨hn, e⟩
    · have h1 := ih u hu (by omega)
      have h2 := fresh_mono (Q := Q) (u := u + 1) (v := k) hu
      have h3 := fresh_old hu hR
      rw [e]
      refine ⟨h1.1, .inr ⟨?_, h3⟩⟩
      rcases h1.2 with q | q <;> omega
    · rw [e]
      exact ⟨by omega, .inl ⟨rfl, fresh_new hn⟩⟩
theorem nth_past {L : List Int} {i : Nat} (h : L.length ≤ i) : nth L i = 0 := by
  unfold R.nth
  rw [List.getD_eq_getElem?_getD, List.getElem?_eq_none h]
  rfl
def szS (s : List Int) (p : Int) : List Int := if p = (s.length : Nat) then s ++ [0] else s
def szStep (s : List Int) (p : Int) : List Int := (szS s p).set p.toNat (nth (szS s p) p.toNat + 1)
def szOf (L : List Int) : List Int := L.foldl szStep []
theorem szOf_succ {k : Nat} (h : k < L.length) : szOf (L.take (k + 1)) = szStep (szOf (L.take k)) (nth L k) := by
  unfold szOf
  rw [List.take_succ_eq_append_getElem h, List.foldl_append, R.nth_eq h]
  rfl
theorem szS_new {s : List Int} {p : Int} (h : p = (s.length : Nat)) : szS s p = s ++ [0] := if_pos h
theorem szS_old {s : List Int} {p : Int} (h : p ≠ (s.length : Nat)) : szS s p = s := if_neg h
structure SzI (Q : Nat → Nat → Prop) (L : List Int) (k : Nat) (s : List Int) : Prop where
  eq : s = szOf (L.take k)
  len : s.length = fresh Q k
  lo : ∀ x ∈ s, 0 ≤ x ∧ x ≤ (k : Nat)
theorem SzI.nil (Q : Nat → Nat → Prop) (L : List Int) : SzI Q L 0 [] := ⟨rfl, rfl, fun x hx => (by cases hx)⟩
theorem SzI.at_ {k i : Nat} {s : List Int} (h : SzI Q L k s) : 0 ≤ nth s i ∧ nth s i ≤ (k : Nat) := by
  rcases Nat.lt_or_ge i s.length with c | c
  · exact h.lo _ (R.nth_mem c)
  · rw [nth_past c]
    exact ⟨Int.le_refl _, Int.natCast_nonneg _⟩
theorem SzI.atS {k i : Nat} {s : List Int} {p : Int} (h : SzI Q L k s) : 0 ≤ nth (szS s p) i ∧ nth (szS s p) i ≤ (k : Nat) := by
  have hb : ∀ y ∈ szS s p, 0 ≤ y ∧ y ≤ (k : Nat) := fun y hy => by
    unfold szS at hy
    split at hy
    · rcases List.mem_append.1 hy with c | c
      · exact h.lo y c
      · rw [List.mem_singleton.1 c]; omega
    · exact h.lo y hy
  rcases Nat.lt_or_ge i (szS s p).length with d | d
  · exact hb _ (R.nth_mem d)
  · rw [nth_past d]
    exact ⟨Int.le_refl _, Int.natCast_nonneg _⟩
theorem SzI.step {k : Nat} {s : List Int} (h : SzI Q L k s) (hL : IsNum Q n L) (hk : k < n) : SzI Q L (k + 1) (szStep s (nth L k)) := by
  have hl := hL.len
  have hz := hL.sz k hk
  refine ⟨by rw [szOf_succ (by omega), ← h.eq], ?_, fun x hx => ?_⟩
  · unfold szStep
    rw [List.length_set]
    rcases hz.2 with ⟨e, q⟩ | ⟨e, q⟩
    · rw [szS_new (by rw [h.len]; exact e), List.length_append, List.length_singleton, h.len, q]
    · rw [szS_old (by rw [h.len]; omega), h.len, q]
  · have hb : ∀ y ∈ szS s (nth L k), 0 ≤ y ∧ y ≤ (k : Nat) := fun y hy => by
      unfold szS at hy
      split at hy
      · rcases List.mem_append.1 hy with c | c
        · exact h.lo y c
        · rw [List.mem_singleton.1 c]; omega
      · exact h.lo y hy
    rcases List.mem_or_eq_of_mem_set hx with c | c
    · have := hb x c
      omega
    · have : 0 ≤ nth (szS s (nth L k)) (nth L k).toNat ∧ nth (szS s (nth L k)) (nth L k).toNat ≤ (k : Nat) := by
        rcases Nat.lt_or_ge (nth L k).toNat (szS s (nth L k)).length with d | d
        · exact hb _ (R.nth_mem d)
        · rw [nth_past d]
          exact ⟨Int.le_refl _, Int.natCast_nonneg _⟩
      omega
end
end Go.Proofs.Ytegbidklcaccjaa
