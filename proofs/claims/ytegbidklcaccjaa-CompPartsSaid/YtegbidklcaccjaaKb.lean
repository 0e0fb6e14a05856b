/- What belongs together: the plain law. -/
import Derived.Test.YtegbidklcaccjaaKa
namespace Go.Proofs.Ytegbidklcaccjaa
open R (In64 InU64 lo64 nth)
/-- One vertex leads to another one; by a walk. -/
def Ac.arc (I : Ac) (u w : Nat) : Prop := u < I.n ∧ I.leads u w
inductive Rch (A : Nat → Nat → Prop) : Nat → Nat → Prop
  | refl {u : Nat} : Rch A u u
  | tail {u v w : Nat} : Rch A u v → A v w → Rch A u w
section
variable {A : Nat → Nat → Prop}
theorem Rch.one {u v : Nat} (h : A u v) : Rch A u v := .tail .refl h
theorem Rch.trans {u v w : Nat} (h : Rch A u v) (h' : Rch A v w) : Rch A u w := by
  induction h' with
  | refl => exact h
  | tail _ q ih => exact .tail ih q
theorem Rch.head {u v w : Nat} (h : A u v) (h' : Rch A v w) : Rch A u w := (Rch.one h).trans h'
theorem Rch.flip {B : Nat → Nat → Prop} (hB : ∀ u v, A u v → B v u) {u v : Nat} (h : Rch A u v) : Rch B v u := by
  induction h with
  | refl => exact .refl
  | tail _ q ih => exact .head (hB _ _ q) ih
/-- A set that no arc leaves is not left. -/
theorem Rch.stay {X : Nat → Prop} (hX : ∀ u v, X u → A u v → X v) {u v : Nat} (h : Rch A u v) (hu : X u) : X v := by
  induction h with
  | refl => exact hu
  | tail _ q ih => exact hX _ _ ih q
/-- A walk out of a set leaves it somewhere. -/
theorem Rch.exit {X : Nat → Prop} {u v : Nat} (h : Rch A u v) (hu : X u) (hv : ¬ X v) : ∃ a b, Rch A u a ∧ X a ∧ A a b ∧ ¬ X b ∧ Rch A b v := by
  induction h with
  | refl => exact absurd hu hv
  | @tail v w p q ih =>
    rcases Classical.em (X v) with c | c
    · exact ⟨v, w, p, c, q, hv, .refl⟩
    · obtain ⟨a, b, h0, h1, h2, h3, h4⟩ := ih c
      exact ⟨a, b, h0, h1, h2, h3, .tail h4 q⟩
end
/-- What leaves the first ones of an order leads back to the last one of these. -/
def Late (A : Nat → Nat → Prop) (O : List Nat) : Prop := ∀ k (hk : k < O.length), ∀ a ∈ O.take (k + 1), ∀ b, A a b → b ∉ O.take (k + 1) → Rch A b O[k]
theorem take_mem {O : List Nat} {k : Nat} {a : Nat} : a ∈ O.take k ↔ ∃ i, ∃ (h : i < O.length), i < k ∧ O[i] = a := by
  rw [List.mem_take_iff_getElem]
  constructor
  · rintro ⟨i, hi, e⟩
    exact ⟨i, by omega, by omega, e⟩
  · rintro ⟨i, h, hi, e⟩
    exact ⟨i, by omega, e⟩
/-- Of a set that no arc leaves the last one leads to all that lead to it. -/
theorem late_back {A : Nat → Nat → Prop} {O : List Nat} (hL : Late A O) (hN : O.Nodup) {U : Nat → Prop} (hU : ∀ u v, U u → A u v → U v) (hO : ∀ u, U u → u ∈ O) {r : Nat} (hr : r < O.length)
    (hlast : ∀ k (hk : k < O.length), U O[k] → k ≤ r) : ∀ d k (hk : k < O.length), r - k ≤ d → U O[k] → Rch A O[k] O[r] → Rch A O[r] O[k] := by
  intro d
  induction d with
  | zero =>
    intro k hk hd hUk _
    have := hlast k hk hUk
    have e : k = r := by omega
    subst e
    exact .refl
  | succ d ih =>
    intro k hk hd hUk hw
    have hkr := hlast k hk hUk
    rcases Nat.lt_or_ge k r with c | c
    · have q : O[r] ∉ O.take (k + 1) := fun q => by
        obtain ⟨i, hi, hik, e⟩ := take_mem.1 q
        exact List.pairwise_iff_getElem.1 hN i r hi hr (by omega) e
      obtain ⟨a, b, h0, h1, h2, h3, h4⟩ := hw.exit (X := fun x => x ∈ O.take (k + 1)) (take_mem.2 ⟨k, hk, by omega, rfl⟩) q
      have hUb : U b := hU _ _ (h0.stay hU hUk) h2
      obtain ⟨j, hj, e⟩ := List.getElem_of_mem (hO b hUb)
      subst e
      have hjk : ¬ j < k + 1 := fun c2 => h3 (take_mem.2 ⟨j, hj, c2, rfl⟩)
      exact (ih j hj (by omega) hUb h4).trans (hL k hk a h1 _ h2 h3)
    · have e : k = r := by omega
      subst e
      exact .refl
/-- Vertices, each behind all that a walk from it met first: the course. -/
structure Df (I : Ac) (O : List Nat) (K : List (Nat × Nat)) (D : List Nat) : Prop where
  nd : (O ++ K.map Prod.fst).Nodup
  lt : ∀ u ∈ O ++ K.map Prod.fst, u < I.n
  la : Late I.arc O
  ch : K.Pairwise fun x y => Rch I.arc x.1 y.1
  dn : D.Nodup
  dm : ∀ i ∈ D, i < I.m
  hd : ∀ i ∈ D, I.H i ∈ O ++ K.map Prod.fst
  oo : ∀ u ∈ O, ∀ i, I.of u i → i ∈ D
  kk : ∀ x ∈ K, I.S x.1 + x.2 ≤ I.S (x.1 + 1) ∧ ∀ i, I.of x.1 i → (i ∈ D ↔ i < I.S x.1 + x.2)
  un : ∀ u, u < I.n → u ∉ O ++ K.map Prod.fst → ∀ i, I.of u i → i ∉ D
section
variable {I : Ac} {O : List Nat} {K : List (Nat × Nat)} {D : List Nat}
theorem Df.nil : Df I [] [] [] := ⟨List.nodup_nil, fun u hu => (by cases hu), fun k hk => absurd hk (Nat.not_lt_zero _), List.Pairwise.nil, List.nodup_nil, fun u hu => (by cases hu), fun u hu => (by cases hu), fun u hu => (by cases hu), fun u hu => (by cases hu), fun u _ _ i _ h => (by cases h)⟩
theorem le_of_nodup {L : List Nat} {n : Nat} (h : L.Nodup) (hs : ∀ u ∈ L, u < n) : L.length ≤ n := by
  have := h.length_le_of_subset (l₂ := List.range n) fun u hu => List.mem_range.2 (hs u hu)
  rwa [List.length_range] at this
theorem Df.len (h : Df I O K D) : O.length + K.length ≤ I.n ∧ D.length ≤ I.m := by
  have h1 := le_of_nodup h.nd h.lt
  have h2 := le_of_nodup h.dn h.dm
  rw [List.length_append, List.length_map] at h1
  exact ⟨h1, h2⟩
/-- A vertex that was not met is gone to. -/
theorem Df.push (h : Df I O K D) (hI : I.Ok) {w : Nat} (hw : w < I.n) (hn : w ∉ O ++ K.map Prod.fst) (hc : ∀ x ∈ K, Rch I.arc x.1 w) : Df I O (K ++ [(w, 0)]) D := by
  have e : O ++ (K ++ [(w, 0)]).map Prod.fst = (O ++ K.map Prod.fst) ++ [w] := by simp
  have hsub : ∀ u, u ∈ O ++ K.map Prod.fst → u ∈ O ++ (K ++ [(w, 0)]).map Prod.fst := fun u hu => by rw [e]; exact List.mem_append.2 (.inl hu)
  refine ⟨?_, fun u hu => ?_, h.la, ?_, h.dn, h.dm, fun i hi => hsub _ (h.hd i hi), h.oo, fun x hx => ?_, fun u hu hun => h.un u hu fun c => hun (hsub u c)⟩
  · rw [e]
    exact List.nodup_append.2 ⟨h.nd, by simp, fun a ha b hb => by rw [List.mem_singleton.1 hb]; exact fun q => hn (q ▸ ha)⟩
  · rw [e] at hu
    rcases List.mem_append.1 hu with c | c
    · exact h.lt u c
    · rw [List.mem_singleton.1 c]; exact hw
  · exact List.pairwise_append.2 ⟨h.ch, List.pairwise_singleton _ _, fun a ha b hb => by rw [List.mem_singleton.1 hb]; exact hc a ha⟩
  · rcases List.mem_append.1 hx with c | c
    · exact h.kk x c
    · rw [List.mem_singleton.1 c]
      have hup := hI.up w hw
      refine ⟨by dsimp only; omega, fun i hi => ⟨fun q => absurd q (h.un w hw hn i hi), fun q => ?_⟩⟩
      have : I.S w ≤ i := hi.1
      dsimp only at q
      omega
/-- An arc of the last one was gone through, to one that was met. -/
theorem Df.old {v d : Nat} (h : Df I O (K ++ [(v, d)]) D) (hI : I.Ok) (hd : I.S v + d < I.S (v + 1)) (hm : I.H (I.S v + d) ∈ O ++ (K ++ [(v, d)]).map Prod.fst) : Df I O (K ++ [(v, d + 1)]) (D ++ [I.S v + d]) := by
  have e : (K ++ [(v, d + 1)]).map Prod.fst = (K ++ [(v, d)]).map Prod.fst := by simp
  have hv : v < I.n := h.lt v (by simp)
  have hj : I.of v (I.S v + d) := ⟨by omega, hd⟩
  have hjm := hI.lt hv hj
  have hk := h.kk (v, d) (by simp)
  have hjD : I.S v + d ∉ D := fun c => by
    have := (hk.2 _ hj).1 c
    dsimp only at this
    omega
  have hnK : ∀ x ∈ K, x.1 ≠ v := fun x hx q => by
    have := h.nd
    rw [List.map_append, List.nodup_append, List.nodup_append] at this
    exact this.2.1.2.2 x.1 (List.mem_map.2 ⟨x, hx, rfl⟩) v (by simp) q
  refine ⟨by rw [e]; exact h.nd, by rw [e]; exact h.lt, h.la, ?_, List.nodup_append.2 ⟨h.dn, by simp, fun a ha b hb => by rw [List.mem_singleton.1 hb]; exact fun q => hjD (q ▸ ha)⟩, fun i hi => ?_, fun i hi => ?_, fun u hu i hi => List.mem_append.2 (.inl (h.oo u hu i hi)), fun x hx => ?_, fun u hu hun i hi hiD => ?_⟩
  · have := List.pairwise_append.1 h.ch
    exact List.pairwise_append.2 ⟨this.1, List.pairwise_singleton _ _, fun a ha b hb => by rw [List.mem_singleton.1 hb]; exact this.2.2 a ha (v, d) (by simp)⟩
  · rcases List.mem_append.1 hi with c | c
    · exact h.dm i c
    · rw [List.mem_singleton.1 c]; exact hjm
  · rw [e]
    rcases List.mem_append.1 hi with c | c
    · exact h.hd i c
    · rw [List.mem_singleton.1 c]; exact hm
  · rcases List.mem_append.1 hx with c | c
    · have hx' := h.kk x (List.mem_append.2 (.inl c))
      refine ⟨hx'.1, fun i hi => ?_⟩
      rw [List.mem_append, List.mem_singleton, hx'.2 i hi]
      constructor
      · rintro (q | q)
        · exact q
        · subst q
          have hx1 := h.lt x.1 (List.mem_append.2 (.inr (List.mem_map.2 ⟨x, List.mem_append.2 (.inl c), rfl⟩)))
          exact absurd (hI.same hx1 hv hi hj) (hnK x c)
      · exact .inl
    · rw [List.mem_singleton.1 c]
      refine ⟨by dsimp only; omega, fun i hi => ?_⟩
      have q1 := hk.2 i hi
      dsimp only at q1 ⊢
      rw [List.mem_append, List.mem_singleton, q1]
      omega
  · rw [e] at hun
    rcases List.mem_append.1 hiD with c | c
    · exact h.un u hu hun i hi c
    · rw [List.mem_singleton.1 c] at hi
      have := hI.same hu hv hi hj
      exact hun (by rw [this]; simp)
/-- The last one is done: it is laid behind. -/
theorem Df.pop {v d : Nat} (h : Df I O (K ++ [(v, d)]) D) (hd : I.S v + d = I.S (v + 1)) : Df I (O ++ [v]) K D := by
  have hv : v < I.n := h.lt v (by simp)
  have hk := h.kk (v, d) (by simp)
  have hp : ∀ u, u ∈ (O ++ [v]) ++ K.map Prod.fst ↔ u ∈ O ++ (K ++ [(v, d)]).map Prod.fst := fun u => by
    simp only [List.map_append, List.mem_append, List.map_cons, List.map_nil, List.mem_singleton]
    constructor
    · rintro ((q | q) | q)
      · exact .inl q
      · exact .inr (.inr q)
      · exact .inr (.inl q)
    · rintro (q | q | q)
      · exact .inl (.inl q)
      · exact .inr q
      · exact .inl (.inr q)
  have hnd := h.nd
  rw [List.map_append, List.nodup_append, List.nodup_append] at hnd
  obtain ⟨n1, ⟨n2, n3, n4⟩, n5⟩ := hnd
  refine ⟨?_, fun u hu => h.lt u ((hp u).1 hu), fun k hk' a ha b hab hb => ?_, (List.pairwise_append.1 h.ch).1, h.dn, h.dm, fun i hi => (hp _).2 (h.hd i hi), fun u hu i hi => ?_, fun x hx => h.kk x (List.mem_append.2 (.inl hx)), fun u hu hun => h.un u hu fun c => hun ((hp u).2 c)⟩
  · refine List.nodup_append.2 ⟨List.nodup_append.2 ⟨n1, by simp, fun a ha b hb => n5 a ha b (by rw [List.mem_singleton.1 hb]; simp)⟩, n2, fun a ha b hb q => ?_⟩
    rcases List.mem_append.1 ha with c | c
    · exact n5 a c b (List.mem_append.2 (.inl hb)) q
    · exact n4 b hb v (by simp) (by rw [← q, List.mem_singleton.1 c])
  · rw [List.length_append, List.length_singleton] at hk'
    rcases Nat.lt_or_ge k O.length with c | c
    · rw [List.take_append_of_le_length (by omega)] at ha hb
      rw [List.getElem_append_left c]
      exact h.la k c a ha b hab hb
    · have e : k = O.length := by omega
      subst e
      rw [List.take_of_length_le (by simp)] at ha hb
      have e2 : (O ++ [v])[O.length] = v := by simp
      rw [e2]
      obtain ⟨hau, i, hi, hib⟩ := hab
      have hiD : i ∈ D := by
        rcases List.mem_append.1 ha with c2 | c2
        · exact h.oo a c2 i hi
        · rw [List.mem_singleton.1 c2] at hi
          refine (hk.2 i hi).2 ?_
          have := hi.2
          dsimp only
          omega
      have hbm := (hp _).2 (h.hd i hiD)
      rw [hib] at hbm
      rcases List.mem_append.1 hbm with c2 | c2
      · exact absurd c2 hb
      · obtain ⟨x, hx, q⟩ := List.mem_map.1 c2
        have := (List.pairwise_append.1 h.ch).2.2 x hx (v, d) (by simp)
        rw [q] at this
        exact this
  · rcases List.mem_append.1 hu with c | c
    · exact h.oo u c i hi
    · rw [List.mem_singleton.1 c] at hi
      refine (hk.2 i hi).2 ?_
      have := hi.2
      dsimp only
      omega
end
/-- What a walk from v met, past what was met: L; behind it B'. -/
structure Met (A : Nat → Nat → Prop) (n : Nat) (B B' : List Bool) (v : Nat) (L : List Nat) : Prop where
  len : B'.length = B.length
  mem : ∀ x, x < n → (nth B' x = true ↔ nth B x = true ∨ x ∈ L)
  new : ∀ x ∈ L, x < n ∧ nth B x = false ∧ Rch A v x
  at_ : nth B' v = true
  cl : ∀ x ∈ L, ∀ w, A x w → nth B' w = true
def scc (A : Nat → Nat → Prop) (u v : Nat) : Prop := Rch A u v ∧ Rch A v u
theorem scc.symm {A : Nat → Nat → Prop} {u v : Nat} (h : scc A u v) : scc A v u := ⟨h.2, h.1⟩
theorem scc.trans {A : Nat → Nat → Prop} {u v w : Nat} (h : scc A u v) (g : scc A v w) : scc A u w := ⟨h.1.trans g.1, g.2.trans h.2⟩
/-- Parts, marked from the end of an order on, down to i. -/
structure Mk (A : Nat → Nat → Prop) (n : Nat) (O : List Nat) (i : Nat) (B : List Bool) (P : List Int) : Prop where
  bl : B.length = n
  pl : P.length = n
  pr : ∀ x y, nth B x = true → A y x → nth B y = true
  up : ∀ k (hk : k < O.length), i ≤ k → nth B O[k] = true
  me : ∀ x, x < n → nth B x = true → ∃ k, ∃ (hk : k < O.length), i ≤ k ∧ nth P x = (k : Nat) ∧ scc A x O[k] ∧ ∀ j (hj : j < O.length), scc A x O[j] → j ≤ k
theorem bool_f {b : Bool} (h : ¬ b = true) : b = false := by cases b <;> simp at h ⊢
theorem Mk.step {A : Nat → Nat → Prop} {n : Nat} {O : List Nat} {i : Nat} {B B' : List Bool} {P P' : List Int} (h : Mk A n O (i + 1) B P) (hL : Late A O) (hN : O.Nodup) (hO : ∀ u, u < n → u ∈ O) (hA : ∀ u v, A u v → u < n ∧ v < n)
    (hi : i < O.length) {L : List Nat} (hm : Met (fun u v => A v u) n B B' O[i] L) (hPl : P'.length = n) (hP : ∀ x, nth P' x = if x ∈ L then ((i : Nat) : Int) else nth P x) (hin : O[i] < n) : Mk A n O i B' P' := by
  have hmem := hm.mem
  refine ⟨by rw [hm.len, h.bl], hPl, fun x y hx hyx => ?_, fun k hk hik => ?_, fun x hx hB => ?_⟩
  · have hxn := (hA _ _ hyx).2
    rcases (hmem x hxn).1 hx with c | c
    · exact (hmem y (hA _ _ hyx).1).2 (.inl (h.pr x y c hyx))
    · exact hm.cl x c y hyx
  · rcases Nat.lt_or_ge i k with c | c
    · rcases Classical.em (O[k] < n) with q | q
      · exact (hmem _ q).2 (.inl (h.up k hk c))
      · have := h.up k hk c
        unfold nth at this
        rw [List.getD_eq_getElem?_getD, List.getElem?_eq_none (by rw [h.bl]; omega)] at this
        cases this
    · have : k = i := by omega
      subst this
      exact hm.at_
  · rcases Classical.em (x ∈ L) with c | c
    · obtain ⟨h1, h2, h3⟩ := hm.new x c
      have hri : nth B O[i] = false := bool_f fun q => by
        have : nth B x = true := h3.stay (X := fun z => nth B z = true) (fun u v hu huv => h.pr u v hu huv) q
        rw [h2] at this
        cases this
      have hxr : Rch A x O[i] := h3.flip fun u v q => q
      obtain ⟨k, hk, e⟩ := List.getElem_of_mem (hO x h1)
      have hU : ∀ u v, (nth B u = false ∧ u < n) → A u v → (nth B v = false ∧ v < n) := fun u v hu huv => ⟨bool_f fun q => (by
        have := h.pr v u q huv
        rw [hu.1] at this
        cases this), (hA _ _ huv).2⟩
      have hlast : ∀ k (hk : k < O.length), (nth B O[k] = false ∧ O[k] < n) → k ≤ i := fun k hk hu => by
        rcases Nat.lt_or_ge i k with c2 | c2
        · have := h.up k hk c2
          rw [hu.1] at this
          cases this
        · exact c2
      have hrx : Rch A O[i] x := by
        have := late_back (U := fun u => nth B u = false ∧ u < n) hL hN hU (fun u hu => hO u hu.2) hi hlast (i - k) k hk (Nat.le_refl _) (by rw [e]; exact ⟨h2, h1⟩) (by rw [e]; exact hxr)
        rw [e] at this
        exact this
      refine ⟨i, hi, Nat.le_refl _, by rw [hP, if_pos c], ⟨hxr, hrx⟩, fun j hj hs => hlast j hj ?_⟩
      have hrj : Rch A O[i] O[j] := hrx.trans hs.1
      exact hrj.stay (X := fun u => nth B u = false ∧ u < n) hU ⟨hri, hin⟩
    · have hB0 : nth B x = true := by
        rcases (hmem x hx).1 hB with q | q
        · exact q
        · exact absurd q c
      obtain ⟨k, hk, h1, h2, h3, h4⟩ := h.me x hx hB0
      exact ⟨k, hk, by omega, by rw [hP, if_neg c]; exact h2, h3, h4⟩
theorem Mk.done {A : Nat → Nat → Prop} {n : Nat} {O : List Nat} {B : List Bool} {P : List Int} (h : Mk A n O 0 B P) (hO : ∀ u, u < n → u ∈ O) {x y : Nat} (hx : x < n) (hy : y < n) : nth P x = nth P y ↔ scc A x y := by
  have hb : ∀ u, u < n → nth B u = true := fun u hu => by
    obtain ⟨k, hk, e⟩ := List.getElem_of_mem (hO u hu)
    rw [← e]
    exact h.up k hk (Nat.zero_le _)
  obtain ⟨k, hk, _, e1, s1, m1⟩ := h.me x hx (hb x hx)
  obtain ⟨j, hj, _, e2, s2, m2⟩ := h.me y hy (hb y hy)
  constructor
  · intro e
    have : k = j := by omega
    subst this
    exact s1.trans s2.symm
  · intro hs
    have a := m1 j hj (hs.trans s2)
    have b := m2 k hk (hs.symm.trans s1)
    have : k = j := by omega
    rw [e1, e2, this]
/-- How many of the first ones belong to none ahead of them. -/
noncomputable def fresh (R : Nat → Nat → Prop) (v : Nat) : Nat := ((List.range v).filter fun u => @decide (∀ x, x < u → ¬ R x u) (Classical.propDecidable _)).length
theorem fresh_zero (R : Nat → Nat → Prop) : fresh R 0 = 0 := rfl
theorem fresh_new {R : Nat → Nat → Prop} {v : Nat} (h : ∀ x, x < v → ¬ R x v) : fresh R (v + 1) = fresh R v + 1 := by
  unfold fresh
  rw [List.range_succ, List.filter_append, List.length_append, List.filter_cons, if_pos (@decide_eq_true _ (Classical.propDecidable _) h)]
  rfl
theorem fresh_old {R : Nat → Nat → Prop} {v x : Nat} (hx : x < v) (h : R x v) : fresh R (v + 1) = fresh R v := by
  unfold fresh
  rw [List.range_succ, List.filter_append, List.length_append, List.filter_cons, if_neg (by rw [@decide_eq_true_eq _ (Classical.propDecidable _)]; exact fun q => q x hx h)]
  rfl
theorem fresh_le {R : Nat → Nat → Prop} {v : Nat} : fresh R v ≤ v := by
  unfold fresh
  have := List.length_filter_le (fun u => @decide (∀ x, x < u → ¬ R x u) (Classical.propDecidable _)) (List.range v)
  rwa [List.length_range] at this
theorem fresh_congr {R R' : Nat → Nat → Prop} {v : Nat} (h : ∀ x u, u < v → x < u → (R x u ↔ R' x u)) : fresh R v = fresh R' v := by
  induction v with
  | zero => rfl
  | succ v ih =>
    have ih := ih fun x u hu hx => h x u (by omega) hx
    rcases Classical.em (∃ x, x < v ∧ R x v) with ⟨x, hx, c⟩ | c
    · rw [fresh_old hx c, fresh_old hx ((h x v (by omega) hx).1 c), ih]
    · rw [fresh_new fun x hx q => c ⟨x, hx, q⟩, fresh_new fun x hx q => c ⟨x, hx, (h x v (by omega) hx).2 q⟩, ih]
/-- Numbers of parts, by their least vertices. -/
def NumAt (R : Nat → Nat → Prop) (P : List Int) (v : Nat) : Prop := (∃ u, u < v ∧ R u v ∧ nth P v = nth P u) ∨ ((∀ u, u < v → ¬ R u v) ∧ nth P v = (fresh R v : Nat))
structure IsNum (R : Nat → Nat → Prop) (n : Nat) (P : List Int) : Prop where
  len : P.length = n
  nu : ∀ v, v < n → NumAt R P v
theorem IsNum.same {R : Nat → Nat → Prop} {n : Nat} {P : List Int} (h : IsNum R n P) (hs : ∀ u v, R u v → R v u) (ht : ∀ u v w, R u v → R v w → R u w) : ∀ v, v < n → ∀ u, u < v → R u v → nth P u = nth P v := by
  intro v
  induction v using Nat.strongRecOn with
  | ind v ih =>
    intro hv u hu hR
    rcases h.nu v hv with ⟨x, hx, hxv, e⟩ | ⟨c, _⟩
    · rw [e]
      have hux : R u x := ht _ _ _ hR (hs _ _ hxv)
      rcases Nat.lt_or_ge u x with q | q
      · exact ih x hx (by omega) u q hux
      · rcases Nat.lt_or_ge x u with q2 | q2
        · exact (ih u hu (by omega) x q2 (hs _ _ hux)).symm
        · rw [show u = x by omega]
    · exact absurd hR (c u hu)
theorem IsNum.unique {R : Nat → Nat → Prop} {n : Nat} {P P' : List Int} (h : IsNum R n P) (h' : IsNum R n P') (hs : ∀ u v, R u v → R v u) (ht : ∀ u v w, R u v → R v w → R u w) : P = P' := by
  have key : ∀ v, v < n → nth P v = nth P' v := by
    intro v
    induction v using Nat.strongRecOn with
    | ind v ih =>
      intro hv
      rcases h.nu v hv with ⟨x, hx, hxv, e⟩ | ⟨c, e⟩
      · rw [e, ih x hx (by omega)]
        exact h'.same hs ht v hv x hx hxv
      · rcases h'.nu v hv with ⟨x, hx, hxv, e'⟩ | ⟨c', e'⟩
        · exact absurd hxv (c x hx)
        · rw [e, e']
  refine List.ext_getElem (by rw [h.len, h'.len]) fun i h1 h2 => ?_
  have := key i (by rw [← h.len]; exact h1)
  unfold nth at this
  rw [List.getD_eq_getElem?_getD, List.getD_eq_getElem?_getD, List.getElem?_eq_getElem h1, List.getElem?_eq_getElem h2] at this
  exact this
theorem IsNum.congr {R R' : Nat → Nat → Prop} {n : Nat} {P : List Int} (h : IsNum R n P) (hR : ∀ u v, u < n → v < n → (R u v ↔ R' u v)) : IsNum R' n P := ⟨h.len, fun v hv => by
  rcases h.nu v hv with ⟨x, hx, hxv, e⟩ | ⟨c, e⟩
  · exact .inl ⟨x, hx, (hR x v (by omega) hv).1 hxv, e⟩
  · refine .inr ⟨fun u hu q => c u hu ((hR u v (by omega) hv).2 q), ?_⟩
    rw [e, fresh_congr (R' := R') fun x u hu hx => hR x u (by omega) (by omega)]⟩
/-- What rounds mark: behind as many as there are vertices no arc leaves it. -/
def cntB (B : List Bool) : Nat := B.countP id
theorem cntB_le {B : List Bool} : cntB B ≤ B.length := List.countP_le_length
theorem cnt_grow : ∀ {B B' : List Bool}, B.length = B'.length → (∀ i, nth B i = true → nth B' i = true) → cntB B ≤ cntB B' ∧ (B ≠ B' → cntB B < cntB B')
  | [], [], _, _ => ⟨Nat.le_refl _, fun h => absurd rfl h⟩
  | a :: B, b :: B', hl, h => by
    have ih := cnt_grow (B := B) (B' := B') (by simpa using hl) fun i hi => h (i + 1) hi
    have h0 := h 0
    unfold cntB at *
    rw [List.countP_cons, List.countP_cons]
    have h0 : a = true → b = true := h0
    refine ⟨?_, fun hne => ?_⟩
    · cases a <;> cases b <;> simp at h0 ⊢ <;> omega
    · by_cases e : a = b
      · subst e
        have := ih.2 fun q => hne (by rw [q])
        omega
      · cases a <;> cases b <;> simp at h0 e ⊢ <;> omega
end Go.Proofs.Ytegbidklcaccjaa
