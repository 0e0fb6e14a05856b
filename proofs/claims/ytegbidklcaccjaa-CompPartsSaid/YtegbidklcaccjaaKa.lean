/- An order in which each arc leads on: the plain law. -/
import Derived.Test.YtegbidklcaccjaaKz
namespace Go.Proofs.Ytegbidklcaccjaa
open R (In64 InU64 lo64 nth)
/-- A graph's arcs by number: those of v are S v up to S (v + 1), H i is where i leads to. -/
structure Ac where
  n : Nat
  m : Nat
  S : Nat → Nat
  H : Nat → Nat
structure Ac.Ok (I : Ac) : Prop where
  s0 : I.S 0 = 0
  s1 : I.S I.n = I.m
  up : ∀ v, v < I.n → I.S v ≤ I.S (v + 1)
  hd : ∀ i, i < I.m → I.H i < I.n
def Ac.of (I : Ac) (u i : Nat) : Prop := I.S u ≤ i ∧ i < I.S (u + 1)
def Ac.leads (I : Ac) (u w : Nat) : Prop := ∃ i, I.of u i ∧ I.H i = w
section
variable {I : Ac}
theorem Ac.Ok.mono (h : I.Ok) : ∀ {u v : Nat}, u ≤ v → v ≤ I.n → I.S u ≤ I.S v := fun {u v} huv hv => by
  induction v with
  | zero => rw [show u = 0 by omega]; exact Nat.le_refl _
  | succ v ih =>
    rcases Nat.lt_or_ge v u with c | c
    · rw [show u = v + 1 by omega]; exact Nat.le_refl _
    · have := ih c (by omega)
      have := h.up v (by omega)
      omega
theorem Ac.Ok.lt (h : I.Ok) {u i : Nat} (hu : u < I.n) (hi : I.of u i) : i < I.m := by
  have := h.mono (u := u + 1) (v := I.n) (by omega) (Nat.le_refl _)
  rw [h.s1] at this
  have := hi.2
  omega
theorem Ac.Ok.same (h : I.Ok) {u v i : Nat} (hu : u < I.n) (hv : v < I.n) (h1 : I.of u i) (h2 : I.of v i) : u = v := by
  obtain ⟨a1, a2⟩ := h1
  obtain ⟨b1, b2⟩ := h2
  rcases Nat.lt_or_ge u v with c | c
  · have := h.mono (u := u + 1) (v := v) (by omega) (by omega)
    omega
  · rcases Nat.lt_or_ge v u with d | d
    · have := h.mono (u := v + 1) (v := u) (by omega) (by omega)
      omega
    · omega
theorem Ac.tail_ (h0 : I.S 0 = 0) {i : Nat} : ∀ k, i < I.S k → ∃ u, u < k ∧ I.of u i := by
  intro k
  induction k with
  | zero => intro h1; rw [h0] at h1; omega
  | succ k ih =>
    intro h1
    rcases Nat.lt_or_ge i (I.S k) with c | c
    · obtain ⟨u, h2, h3⟩ := ih c
      exact ⟨u, by omega, h3⟩
    · exact ⟨k, by omega, c, h1⟩
theorem Ac.Ok.tail (h : I.Ok) {i : Nat} (hi : i < I.m) : ∃ u, u < I.n ∧ I.of u i := by
  have key : ∀ k, k ≤ I.n → i < I.S k → ∃ u, u < I.n ∧ I.of u i := by
    intro k
    induction k with
    | zero => intro _ h0; rw [h.s0] at h0; omega
    | succ k ih =>
      intro hk h1
      rcases Nat.lt_or_ge i (I.S k) with c | c
      · exact ih (by omega) c
      · exact ⟨k, by omega, c, h1⟩
  exact key I.n (Nat.le_refl _) (by rw [h.s1]; exact hi)
end
/-- FreeK: not laid yet, and nothing that is left leads there. -/
def FreeK (I : Ac) (S : List Nat) (w : Nat) : Prop := w < I.n ∧ w ∉ S ∧ ∀ u, u < I.n → u ∉ S → ¬ I.leads u w
def LstF (I : Ac) (S : List Nat) (w : Nat) : Prop := FreeK I S w ∧ ∀ x, FreeK I S x → w ≤ x
inductive PreK (I : Ac) : List Nat → Prop
  | nil : PreK I []
  | snoc {S : List Nat} {w : Nat} : PreK I S → LstF I S w → PreK I (S ++ [w])
def FullK (I : Ac) (S : List Nat) : Prop := PreK I S ∧ ∀ w, ¬ FreeK I S w
section
variable {I : Ac}
theorem PreK.at {S : List Nat} (h : PreK I S) : ∀ k (hk : k < S.length), LstF I (S.take k) S[k] := by
  induction h with
  | nil => intro k hk; exact absurd hk (Nat.not_lt_zero _)
  | @snoc S w h1 h2 ih =>
    intro k hk
    rw [List.length_append, List.length_singleton] at hk
    rcases Nat.lt_or_ge k S.length with c | c
    · rw [List.take_append_of_le_length (by omega), List.getElem_append_left c]
      exact ih k c
    · obtain rfl : k = S.length := by omega
      rw [List.take_append_of_le_length (Nat.le_refl _), List.take_length]
      simpa using h2
theorem PreK.prefix {S S' : List Nat} (h : PreK I S) (h' : PreK I S') (hl : S.length ≤ S'.length) : S = S'.take S.length := by
  induction h with
  | nil => rfl
  | @snoc S w h1 h2 ih =>
    rw [List.length_append, List.length_singleton] at hl ⊢
    have e := ih (by omega)
    have h3 := h'.at S.length (by omega)
    rw [← e] at h3
    have : w = S'[S.length] := by
      have a := h2.2 _ h3.1
      have b := h3.2 _ h2.1
      omega
    rw [List.take_succ_eq_append_getElem (by omega), ← e, ← this]
theorem FullK.le {S S' : List Nat} (h : FullK I S) (h' : PreK I S') : S'.length ≤ S.length := by
  rcases Nat.lt_or_ge S.length S'.length with c | c
  · have e := h.1.prefix h' (by omega)
    have h3 := h'.at S.length c
    rw [← e] at h3
    exact absurd h3.1 (h.2 _)
  · exact c
theorem FullK.unique {S S' : List Nat} (h : FullK I S) (h' : FullK I S') : S = S' := by
  have e := h.1.prefix h'.1 (h'.le h.1)
  rw [e, List.take_of_length_le (h.le h'.1)]
theorem PreK.nodup {S : List Nat} (h : PreK I S) : S.Nodup ∧ ∀ u ∈ S, u < I.n := by
  induction h with
  | nil => exact ⟨List.nodup_nil, fun u hu => (by cases hu)⟩
  | @snoc S w h1 h2 ih =>
    refine ⟨List.nodup_append.2 ⟨ih.1, by simp, fun a ha b hb => ?_⟩, fun u hu => ?_⟩
    · rw [List.mem_singleton.1 hb]
      exact fun e => h2.1.2.1 (e ▸ ha)
    · rcases List.mem_append.1 hu with c | c
      · exact ih.2 u c
      · rw [List.mem_singleton.1 c]
        exact h2.1.1
end
/-- How many arcs that are not taken away lead to w, of the first k ones. -/
def cnt (I : Ac) (k : Nat) (D : List Nat) (w : Nat) : Nat := ((List.range k).filter fun i => decide (i ∉ D) && decide (I.H i = w)).length
theorem cnt_zero {I : Ac} {k : Nat} {D : List Nat} {w : Nat} : cnt I k D w = 0 ↔ ∀ i, i < k → I.H i = w → i ∈ D := by
  unfold cnt
  rw [List.length_eq_zero_iff, List.filter_eq_nil_iff]
  constructor
  · intro h i hi e
    have := h i (List.mem_range.2 hi)
    simp only [e, decide_true, Bool.and_true, decide_eq_true_eq, Classical.not_not] at this
    exact this
  · intro h i hi
    have := h i (List.mem_range.1 hi)
    simp only [Bool.and_eq_true, decide_eq_true_eq, not_and]
    intro a b
    exact a (this b)
theorem cnt_le {I : Ac} {k : Nat} {D : List Nat} {w : Nat} : cnt I k D w ≤ k := by
  unfold cnt
  have := List.length_filter_le (fun i => decide (i ∉ D) && decide (I.H i = w)) (List.range k)
  rwa [List.length_range] at this
theorem cnt_succ {I : Ac} {k : Nat} {D : List Nat} {w : Nat} (hk : k ∉ D) : cnt I (k + 1) D w = cnt I k D w + if I.H k = w then 1 else 0 := by
  unfold cnt
  rw [List.range_succ, List.filter_append, List.length_append]
  by_cases e : I.H k = w <;> simp [hk, e]
theorem filt_rm {p : Nat → Bool} {j : Nat} : ∀ {l : List Nat}, l.Nodup → (l.filter fun i => decide (i ≠ j) && p i).length + (if j ∈ l ∧ p j = true then 1 else 0) = (l.filter p).length
  | [], _ => by simp
  | a :: l, h => by
    have ih := filt_rm (p := p) (j := j) (l := l) (List.nodup_cons.1 h).2
    have ha := (List.nodup_cons.1 h).1
    by_cases e : a = j
    · subst e
      have hf : ¬ (a ∈ l ∧ p a = true) := fun c => ha c.1
      rw [if_neg hf] at ih
      by_cases q : p a = true
      · simp [q]
        simpa using ih
      · simp [q]
        simpa using ih
    · by_cases q : p a = true
      · simp [q, e, Ne.symm e]
        simp at ih
        omega
      · simp [q, e, Ne.symm e]
        simpa using ih
theorem cnt_rm {I : Ac} {k : Nat} {D : List Nat} {w j : Nat} (hj : j < k) (hD : j ∉ D) : cnt I k (D ++ [j]) w + (if I.H j = w then 1 else 0) = cnt I k D w := by
  have h := filt_rm (p := fun i => decide (i ∉ D) && decide (I.H i = w)) (j := j) (l := List.range k) List.nodup_range
  unfold cnt
  rw [← h]
  congr 1
  · congr 2
    funext i
    by_cases a : i ∈ D <;> by_cases b : i = j <;> simp [a, b]
  · by_cases e : I.H j = w <;> simp [e, hj, hD]
/-- The program's course: what was laid, which arcs were taken away, how many lead to each vertex, what is free. -/
structure Kn (I : Ac) (D S : List Nat) (N : List Int) (κ : Int → Option Int) : Prop where
  pre : PreK I S
  len : N.length = I.n
  cn : ∀ w, w < I.n → nth N w = (cnt I I.m D w : Nat)
  ka : ∀ a c, κ a = some c ↔ ∃ w : Nat, w < I.n ∧ a = (w : Nat) ∧ c = (w : Nat) ∧ w ∉ S ∧ cnt I I.m D w = 0
  ze : ∀ u ∈ S, ∀ i, i < I.m → I.H i = u → i ∈ D
def Gone (I : Ac) (D S : List Nat) : Prop := ∀ i, i < I.m → (i ∈ D ↔ ∃ u ∈ S, I.of u i)
def GoneTo (I : Ac) (D S : List Nat) (v j : Nat) : Prop := ∀ i, i < I.m → (i ∈ D ↔ (∃ u ∈ S, I.of u i) ∨ (I.S v ≤ i ∧ i < j))
section
variable {I : Ac} {D S : List Nat} {N : List Int} {κ : Int → Option Int}
theorem Kn.free (h : Kn I D S N κ) (hI : I.Ok) (hg : Gone I D S) {w : Nat} : FreeK I S w ↔ w < I.n ∧ w ∉ S ∧ cnt I I.m D w = 0 := by
  constructor
  · rintro ⟨h1, h2, h3⟩
    refine ⟨h1, h2, cnt_zero.2 fun i hi e => ?_⟩
    obtain ⟨u, hu, hui⟩ := hI.tail hi
    rcases Classical.em (u ∈ S) with c | c
    · exact (hg i hi).2 ⟨u, c, hui⟩
    · exact absurd ⟨i, hui, e⟩ (h3 u hu c)
  · rintro ⟨h1, h2, h3⟩
    refine ⟨h1, h2, fun u hu huS hl => ?_⟩
    obtain ⟨i, hui, e⟩ := hl
    have hi := hI.lt hu hui
    obtain ⟨x, hx, hxi⟩ := (hg i hi).1 (cnt_zero.1 h3 i hi e)
    have := hI.same hu (h.pre.nodup.2 x hx) hui hxi
    exact huS (this ▸ hx)
theorem Kn.full (h : Kn I D S N κ) (hI : I.Ok) (hg : Gone I D S) (hn : ∀ a, κ a = none) : FullK I S := ⟨h.pre, fun w hw => by
  have := (h.ka (w : Nat) (w : Nat)).2 ⟨w, hw.1, rfl, rfl, hw.2.1, ((h.free hI hg).1 hw).2.2⟩
  rw [hn] at this
  cases this⟩
theorem Kn.pop (h : Kn I D S N κ) (hI : I.Ok) (hg : Gone I D S) {a c : Int} (hk : κ a = some c) (hmin : ∀ b e, κ b = some e → ¬ (e < c)) :
    ∃ v : Nat, a = (v : Nat) ∧ c = (v : Nat) ∧ v < I.n ∧ v ∉ S ∧ Kn I D (S ++ [v]) N (fun x => if x = a then none else κ x) ∧ GoneTo I D S v (I.S v) := by
  obtain ⟨v, hv, e1, e2, hvS, hz⟩ := (h.ka a c).1 hk
  have hfree := (h.free hI hg (w := v)).2 ⟨hv, hvS, hz⟩
  refine ⟨v, e1, e2, hv, hvS, ⟨h.pre.snoc ⟨hfree, fun x hx => ?_⟩, h.len, h.cn, fun x y => ?_, fun u hu i hi e => ?_⟩, fun i hi => ?_⟩
  · have hx' := (h.free hI hg).1 hx
    have := hmin (x : Nat) (x : Nat) ((h.ka _ _).2 ⟨x, hx'.1, rfl, rfl, hx'.2.1, hx'.2.2⟩)
    omega
  · by_cases ha : x = a
    · rw [if_pos ha]
      constructor
      · intro q; cases q
      · rintro ⟨w, hw, q1, q2, q3, q4⟩
        exact absurd (List.mem_append.2 (.inr (List.mem_singleton.2 (by omega)))) q3
    · rw [if_neg ha, h.ka]
      constructor
      · rintro ⟨w, hw, q1, q2, q3, q4⟩
        refine ⟨w, hw, q1, q2, fun q => ?_, q4⟩
        rcases List.mem_append.1 q with c | c
        · exact q3 c
        · exact ha (by rw [q1, List.mem_singleton.1 c, e1])
      · rintro ⟨w, hw, q1, q2, q3, q4⟩
        exact ⟨w, hw, q1, q2, fun q => q3 (List.mem_append.2 (.inl q)), q4⟩
  · rcases List.mem_append.1 hu with c | c
    · exact h.ze u c i hi e
    · rw [List.mem_singleton.1 c] at e
      exact cnt_zero.1 hz i hi e
  · rw [hg i hi]
    constructor
    · intro q; exact .inl q
    · rintro (q | q)
      · exact q
      · omega
/-- One arc of v is taken away. -/
theorem Kn.take {v : Nat} (h : Kn I D (S ++ [v]) N κ) (hI : I.Ok) {j : Nat} (hv : v < I.n) (hvS : v ∉ S) (hg : GoneTo I D S v j) (hj : I.of v j) :
    GoneTo I (D ++ [j]) S v (j + 1) ∧ 1 ≤ nth N (I.H j) ∧ nth N (I.H j) ≤ (I.m : Nat) ∧ I.H j < I.n ∧ Kn I (D ++ [j]) (S ++ [v]) (N.set (I.H j) (nth N (I.H j) - 1)) (if nth N (I.H j) - 1 = 0 then R.putM κ (I.H j : Nat) (I.H j : Nat) else κ) := by
  have hjm := hI.lt hv hj
  have hH := hI.hd j hjm
  have hjD : j ∉ D := fun c => by
    rcases (hg j hjm).1 c with ⟨u, hu, hui⟩ | q
    · have hun := h.pre.nodup.2 u (List.mem_append.2 (.inl hu))
      have := hI.same hun hv hui hj
      exact hvS (this ▸ hu)
    · omega
  have hHS : I.H j ∉ S ++ [v] := fun c => hjD (h.ze _ c j hjm rfl)
  have hc := fun w => cnt_rm (I := I) (w := w) hjm hjD
  have hcH := hc (I.H j)
  rw [if_pos rfl] at hcH
  have hN := h.cn _ hH
  have hle := cnt_le (I := I) (k := I.m) (D := D) (w := I.H j)
  have hne : ∀ w, w ≠ I.H j → cnt I I.m (D ++ [j]) w = cnt I I.m D w := fun w hw => by
    have := hc w
    rw [if_neg (Ne.symm hw)] at this
    omega
  refine ⟨fun i hi => ?_, by omega, by omega, hH, h.pre, by rw [List.length_set]; exact h.len, fun w hw => ?_, fun a c => ?_, fun u hu i hi e => List.mem_append.2 (.inl (h.ze u hu i hi e))⟩
  · rw [List.mem_append, List.mem_singleton, hg i hi]
    have := hj.1
    constructor
    · rintro ((q | q) | q)
      · exact .inl q
      · exact .inr (by omega)
      · exact .inr (by omega)
    · rintro (q | q)
      · exact .inl (.inl q)
      · by_cases e : i = j
        · exact .inr e
        · exact .inl (.inr (by omega))
  · rw [nth_put (by rw [h.len]; exact hH)]
    split
    · rename_i e
      subst e
      omega
    · rename_i e
      rw [hne w (Ne.symm e)]
      exact h.cn w hw
  · have hold : ∀ w : Nat, a = (w : Nat) → w = I.H j → κ a ≠ some c := fun w e1 e2 q => by
      obtain ⟨x, _, q1, _, _, q4⟩ := (h.ka a c).1 q
      have : x = I.H j := by omega
      rw [this] at q4
      omega
    by_cases ha : a = (I.H j : Nat)
    · by_cases hz : nth N (I.H j) - 1 = 0
      · rw [if_pos hz, ha, R.putM_same]
        constructor
        · intro q
          injection q with q
          exact ⟨I.H j, hH, rfl, q.symm, hHS, by omega⟩
        · rintro ⟨w, _, q1, q2, _, _⟩
          have : w = I.H j := by omega
          rw [q2, this]
      · rw [if_neg hz]
        constructor
        · intro q; exact absurd q (hold _ ha rfl)
        · rintro ⟨w, _, q1, _, _, q4⟩
          have : w = I.H j := by omega
          rw [this] at q4
          omega
    · have : (if nth N (I.H j) - 1 = 0 then R.putM κ (I.H j : Nat) (I.H j : Nat) else κ) a = κ a := by
        split
        · exact R.putM_ne ha
        · rfl
      rw [this, h.ka]
      constructor
      · rintro ⟨w, q0, q1, q2, q3, q4⟩
        exact ⟨w, q0, q1, q2, q3, by rw [hne w (fun e => ha (by rw [q1, e]))]; exact q4⟩
      · rintro ⟨w, q0, q1, q2, q3, q4⟩
        exact ⟨w, q0, q1, q2, q3, by rw [hne w (fun e => ha (by rw [q1, e]))] at q4; exact q4⟩
theorem GoneTo.done {v : Nat} (h : GoneTo I D S v (I.S (v + 1))) : Gone I D (S ++ [v]) := fun i hi => by
  rw [h i hi]
  constructor
  · rintro (⟨u, hu, q⟩ | q)
    · exact ⟨u, List.mem_append.2 (.inl hu), q⟩
    · exact ⟨v, List.mem_append.2 (.inr (List.mem_singleton.2 rfl)), q⟩
  · rintro ⟨u, hu, q⟩
    rcases List.mem_append.1 hu with c | c
    · exact .inl ⟨u, c, q⟩
    · rw [List.mem_singleton.1 c] at q
      exact .inr q
end
end Go.Proofs.Ytegbidklcaccjaa
