/- Parts of a net: a forest, least nodes told along edges: the plain law. -/
import Derived.Test.YtoainfnhmdcpoaaCl
namespace Go.Proofs.Ytoainfnhmdcpoaa
open R (In64 InU64 lo64 nth)
inductive Rch (A : Nat → Nat → Prop) : Nat → Nat → Prop
  | refl {u : Nat} : Rch A u u
  | tail {u v w : Nat} : Rch A u v → A v w → Rch A u w
section
variable {A : Nat → Nat → Prop}
theorem Rch.one {u v : Nat} (h : A u v) : Rch A u v := .tail .refl h
theorem Rch.trans {u v w : Nat} (h : Rch A u v) (h' : Rch A v w) : Rch A u w := by
  induction h' with
  | refl => exact h
  | tail _ q ih => exact .tail ih q
theorem Rch.head {u v w : Nat} (h : A u v) (h' : Rch A v w) : Rch A u w := (Rch.one h).trans h'
theorem Rch.flip {B : Nat → Nat → Prop} (hB : ∀ u v, A u v → B v u) {u v : Nat} (h : Rch A u v) : Rch B v u := by
  induction h with
  | refl => exact .refl
  | tail _ q ih => exact .head (hB _ _ q) ih
/-- A set that no arc leaves is not left. -/
theorem Rch.stay {X : Nat → Prop} (hX : ∀ u v, X u → A u v → X v) {u v : Nat} (h : Rch A u v) (hu : X u) : X v := by
  induction h with
  | refl => exact hu
  | tail _ q ih => exact hX _ _ ih q
/-- A walk out of a set leaves it somewhere. -/
theorem Rch.exit {X : Nat → Prop} {u v : Nat} (h : Rch A u v) (hu : X u) (hv : ¬ X v) : ∃ a b, Rch A u a ∧ X a ∧ A a b ∧ ¬ X b ∧ Rch A b v := by
  induction h with
  | refl => exact absurd hu hv
  | @tail v w p q ih =>
    rcases Classical.em (X v) with c | c
    · exact ⟨v, w, p, c, q, hv, .refl⟩
    · obtain ⟨a, b, h0, h1, h2, h3, h4⟩ := ih c
      exact ⟨a, b, h0, h1, h2, h3, .tail h4 q⟩
end
/-- How many of the first ones belong to none ahead of them. -/
noncomputable def fresh (R : Nat → Nat → Prop) (v : Nat) : Nat := ((List.range v).filter fun u => @decide (∀ x, x < u → ¬ R x u) (Classical.propDecidable _)).length
theorem fresh_zero (R : Nat → Nat → Prop) : fresh R 0 = 0 := rfl
theorem fresh_new {R : Nat → Nat → Prop} {v : Nat} (h : ∀ x, x < v → ¬ R x v) : fresh R (v + 1) = fresh R v + 1 := by
  unfold fresh
  rw [List.range_succ, List.filter_append, List.length_append, List.filter_cons, if_pos (@decide_eq_true _ (Classical.propDecidable _) h)]
  rfl
theorem fresh_old {R : Nat → Nat → Prop} {v x : Nat} (hx : x < v) (h : R x v) : fresh R (v + 1) = fresh R v := by
  unfold fresh
  rw [List.range_succ, List.filter_append, List.length_append, List.filter_cons, if_neg (by rw [@decide_eq_true_eq _ (Classical.propDecidable _)]; exact fun q => q x hx h)]
  rfl
theorem fresh_le {R : Nat → Nat → Prop} {v : Nat} : fresh R v ≤ v := by
  unfold fresh
  have := List.length_filter_le (fun u => @decide (∀ x, x < u → ¬ R x u) (Classical.propDecidable _)) (List.range v)
  rwa [List.length_range] at this
theorem fresh_congr {R R' : Nat → Nat → Prop} {v : Nat} (h : ∀ x u, u < v → x < u → (R x u ↔ R' x u)) : fresh R v = fresh R' v := by
  induction v with
  | zero => rfl
  | succ v ih =>
    have ih := ih fun x u hu hx => h x u (by omega) hx
    rcases Classical.em (∃ x, x < v ∧ R x v) with ⟨x, hx, c⟩ | c
    · rw [fresh_old hx c, fresh_old hx ((h x v (by omega) hx).1 c), ih]
    · rw [fresh_new fun x hx q => c ⟨x, hx, q⟩, fresh_new fun x hx q => c ⟨x, hx, (h x v (by omega) hx).2 q⟩, ih]
/-- Numbers of parts, by their least vertices. -/
def NumAt (R : Nat → Nat → Prop) (P : List Int) (v : Nat) : Prop := (∃ u, u < v ∧ R u v ∧ nth P v = nth P u) ∨ ((∀ u, u < v → ¬ R u v) ∧ nth P v = (fresh R v : Nat))
structure IsNum (R : Nat → Nat → Prop) (n : Nat) (P : List Int) : Prop where
  len : P.length = n
  nu : ∀ v, v < n → NumAt R P v
theorem IsNum.same {R : Nat → Nat → Prop} {n : Nat} {P : List Int} (h : IsNum R n P) (hs : ∀ u v, R u v → R v u) (ht : ∀ u v w, R u v → R v w → R u w) : ∀ v, v < n → ∀ u, u < v → R u v → nth P u = nth P v := by
  intro v
  induction v using Nat.strongRecOn with
  | ind v ih =>
    intro hv u hu hR
    rcases h.nu v hv with ⟨x, hx, hxv, e⟩ | ⟨c, _⟩
    · rw [e]
      have hux : R u x := ht _ _ _ hR (hs _ _ hxv)
      rcases Nat.lt_or_ge u x with q | q
      · exact ih x hx (by omega) u q hux
      · rcases Nat.lt_or_ge x u with q2 | q2
        · exact (ih u hu (by omega) x q2 (hs _ _ hux)).symm
        · rw [show u = x by omega]
    · exact absurd hR (c u hu)
theorem IsNum.unique {R : Nat → Nat → Prop} {n : Nat} {P P' : List Int} (h : IsNum R n P) (h' : IsNum R n P') (hs : ∀ u v, R u v → R v u) (ht : ∀ u v w, R u v → R v w → R u w) : P = P' := by
  have key : ∀ v, v < n → nth P v = nth P' v := by
    intro v
    induction v using Nat.strongRecOn with
    | ind v ih =>
      intro hv
      rcases h.nu v hv with ⟨x, hx, hxv, e⟩ | ⟨c, e⟩
      · rw [e, ih x hx (by omega)]
        exact h'.same hs ht v hv x hx hxv
      · rcases h'.nu v hv with ⟨x, hx, hxv, e'⟩ | ⟨c', e'⟩
        · exact absurd hxv (c x hx)
        · rw [e, e']
  refine List.ext_getElem (by rw [h.len, h'.len]) fun i h1 h2 => ?_
  have := key i (by rw [← h.len]; exact h1)
  unfold nth at this
  rw [List.getD_eq_getElem?_getD, List.getD_eq_getElem?_getD, List.getElem?_eq_getElem h1, List.getElem?_eq_getElem h2] at this
  exact this
theorem IsNum.congr {R R' : Nat → Nat → Prop} {n : Nat} {P : List Int} (h : IsNum R n P) (hR : ∀ u v, u < n → v < n → (R u v ↔ R' u v)) : IsNum R' n P := ⟨h.len, fun v hv => by
  rcases h.nu v hv with ⟨x, hx, hxv, e⟩ | ⟨c, e⟩
  · exact .inl ⟨x, hx, (hR x v (by omega) hv).1 hxv, e⟩
  · refine .inr ⟨fun u hu q => c u hu ((hR u v (by omega) hv).2 q), ?_⟩
    rw [e, fresh_congr (R' := R') fun x u hu hx => hR x u (by omega) (by omega)]⟩
/-- What rounds mark: behind as many as there are vertices no arc leaves it. -/
def cntB (B : List Bool) : Nat := B.countP id
theorem cntB_le {B : List Bool} : cntB B ≤ B.length := List.countP_le_length
theorem cnt_grow : ∀ {B B' : List Bool}, B.length = B'.length → (∀ i, nth B i = true → nth B' i = true) → cntB B ≤ cntB B' ∧ (B ≠ B' → cntB B < cntB B')
  | [], [], _, _ => ⟨Nat.le_refl _, fun h => absurd rfl h⟩
  | a :: B, b :: B', hl, h => by
    have ih := cnt_grow (B := B) (B' := B') (by simpa using hl) fun i hi => h (i + 1) hi
    have h0 := h 0
    unfold cntB at *
    rw [List.countP_cons, List.countP_cons]
    have h0 : a = true → b = true := h0
    refine ⟨?_, fun hne => ?_⟩
    · cases a <;> cases b <;> simp at h0 ⊢ <;> omega
    · by_cases e : a = b
      · subst e
        have := ih.2 fun q => hne (by rw [q])
        omega
      · cases a <;> cases b <;> simp at h0 e ⊢ <;> omega
/-- A forest: of each node one that is of its part. -/
inductive Rtf (F : Nat → Nat) : Nat → Nat → Prop
  | base {r : Nat} : F r = r → Rtf F r r
  | step {v r : Nat} : F v ≠ v → Rtf F (F v) r → Rtf F v r
def setF (F : Nat → Nat) (v x : Nat) : Nat → Nat := fun u => if u = v then x else F u
section
variable {F : Nat → Nat}
theorem Rtf.fix {v r : Nat} (h : Rtf F v r) : F r = r := by
  induction h with
  | base h => exact h
  | step _ _ ih => exact ih
theorem Rtf.det {v r s : Nat} (h : Rtf F v r) (g : Rtf F v s) : r = s := by
  induction h with
  | base h =>
    cases g with
    | base _ => rfl
    | step q _ => exact absurd h q
  | step q _ ih =>
    cases g with
    | base p => exact absurd p q
    | step _ p => exact ih p
theorem Rtf.le (hF : ∀ v, F v ≤ v) {v r : Nat} (h : Rtf F v r) : r ≤ v := by
  induction h with
  | base _ => exact Nat.le_refl _
  | @step v r _ _ ih => have := hF v; omega
theorem Rtf.some_ (hF : ∀ v, F v ≤ v) : ∀ v, ∃ r, Rtf F v r := by
  intro v
  induction v using Nat.strongRecOn with
  | ind v ih =>
    by_cases e : F v = v
    · exact ⟨v, .base e⟩
    · obtain ⟨r, hr⟩ := ih (F v) (by have := hF v; omega)
      exact ⟨r, .step e hr⟩
/-- A way to a root is made shorter. -/
theorem Rtf.half (hF : ∀ v, F v ≤ v) {v : Nat} {u r : Nat} (h : Rtf F u r) : Rtf (setF F v (F (F v))) u r := by
  induction h with
  | @base r h =>
    refine .base ?_
    unfold setF
    split
    · rename_i e; subst e; rw [h, h]
    · exact h
  | @step u r q p ih =>
    by_cases e : u = v
    · subst e
      have hu : setF F u (F (F u)) u = F (F u) := if_pos rfl
      have hFu : setF F u (F (F u)) (F u) = F (F u) := if_neg q
      by_cases e2 : F (F u) = F u
      · refine .step (by rw [hu, e2]; exact q) ?_
        rw [hu, e2]
        rw [e2] at ih
        exact ih
      · have h1 := hF u
        have h2 := hF (F u)
        refine .step (by rw [hu]; omega) ?_
        rw [hu]
        cases ih with
        | base c => rw [hFu] at c; exact absurd c e2
        | step _ c => rw [hFu] at c; exact c
    · have hu : setF F v (F (F v)) u = F u := if_neg e
      refine .step (by rw [hu]; exact q) ?_
      rw [hu]
      exact ih
/-- A root is laid under another one. -/
theorem Rtf.join {x y : Nat} (hy : F y = y) (hx : F x = x) (hxy : x ≠ y) {u r : Nat} (h : Rtf F u r) : Rtf (setF F y x) u (if r = y then x else r) := by
  have hX : setF F y x x = x := by unfold setF; rw [if_neg hxy]; exact hx
  induction h with
  | @base r h =>
    by_cases e : r = y
    · subst e
      rw [if_pos rfl]
      have hr : setF F r x r = x := if_pos rfl
      refine .step (by rw [hr]; exact hxy) ?_
      rw [hr]
      exact .base hX
    · rw [if_neg e]
      exact .base (by unfold setF; rw [if_neg e]; exact h)
  | @step u r q p ih =>
    have hu : setF F y x u = F u := if_neg fun e => q (by rw [e]; exact hy)
    refine .step (by rw [hu]; exact q) ?_
    rw [hu]
    exact ih
end
/-- Edges by number; which ones of the first k join. -/
structure Eg where
  n : Nat
  m : Nat
  a : Nat → Nat
  b : Nat → Nat
structure Eg.Ok (G : Eg) : Prop where
  ab : ∀ i, i < G.m → G.a i < G.b i ∧ G.b i < G.n
def Eg.adj (G : Eg) (k u v : Nat) : Prop := ∃ i, i < k ∧ ((G.a i = u ∧ G.b i = v) ∨ (G.b i = u ∧ G.a i = v))
theorem Eg.adj_symm {G : Eg} {k u v : Nat} (h : G.adj k u v) : G.adj k v u := by
  obtain ⟨i, hi, h | h⟩ := h
  · exact ⟨i, hi, .inr ⟨h.2, h.1⟩⟩
  · exact ⟨i, hi, .inl ⟨h.2, h.1⟩⟩
def Eg.con (G : Eg) (k : Nat) : Nat → Nat → Prop := Rch (G.adj k)
theorem Eg.con_symm {G : Eg} {k u v : Nat} (h : G.con k u v) : G.con k v u := Rch.flip (fun _ _ q => Eg.adj_symm q) h
theorem Eg.con_trans {G : Eg} {k u v w : Nat} (h : G.con k u v) (g : G.con k v w) : G.con k u w := Rch.trans h g
theorem Rch.mono {A B : Nat → Nat → Prop} (hAB : ∀ u v, A u v → B u v) {u v : Nat} (h : Rch A u v) : Rch B u v := by
  induction h with
  | refl => exact .refl
  | tail _ q ih => exact .tail ih (hAB _ _ q)
theorem Eg.con_mono {G : Eg} {k u v : Nat} (h : G.con k u v) : G.con (k + 1) u v := Rch.mono (fun _ _ ⟨i, hi, q⟩ => ⟨i, by omega, q⟩) h
theorem Eg.con_new {G : Eg} {k : Nat} : G.con (k + 1) (G.a k) (G.b k) := Rch.one ⟨k, by omega, .inl ⟨rfl, rfl⟩⟩
/-- The forest behind k edges. -/
structure Fo (G : Eg) (k : Nat) (F : Nat → Nat) : Prop where
  le : ∀ v, F v ≤ v
  co : ∀ u v, G.con k u v → ∃ r, Rtf F u r ∧ Rtf F v r
  ro : ∀ u r, Rtf F u r → G.con k u r
section
variable {G : Eg} {k : Nat} {F : Nat → Nat}
theorem Fo.zero : Fo G 0 (fun v => v) := ⟨fun v => Nat.le_refl _, fun u v h => by
  have : u = v := by
    induction h with
    | refl => rfl
    | tail _ q _ => obtain ⟨i, hi, _⟩ := q; exact absurd hi (Nat.not_lt_zero _)
  subst this
  exact ⟨u, .base rfl, .base rfl⟩, fun u r h => by
    cases h with
    | base _ => exact .refl
    | step q _ => exact absurd rfl q⟩
theorem Fo.half (h : Fo G k F) (v : Nat) : Fo G k (setF F v (F (F v))) := by
  have hle : ∀ u, setF F v (F (F v)) u ≤ u := fun u => by
    unfold setF
    split
    · rename_i e; subst e; have := h.le u; have := h.le (F u); omega
    · exact h.le u
  refine ⟨hle, fun x y c => ?_, fun u r hr => ?_⟩
  · obtain ⟨r, h1, h2⟩ := h.co x y c
    exact ⟨r, h1.half h.le, h2.half h.le⟩
  · obtain ⟨s, hs⟩ := Rtf.some_ h.le u
    have := (hs.half (v := v) h.le).det hr
    subst this
    exact h.ro u _ hs
theorem Fo.join (h : Fo G k F) {x y : Nat} (hx : Rtf F (G.a k) x) (hy : Rtf F (G.b k) y) : Fo G (k + 1) (setF F (max x y) (min x y)) := by
  have fx := hx.fix
  have fy := hy.fix
  have hab := Eg.con_new (G := G) (k := k)
  by_cases e : x = y
  · subst e
    rw [Nat.max_self, Nat.min_self]
    have hF : setF F x x = F := by
      funext u
      unfold setF
      split
      · rename_i e; subst e; exact fx.symm
      · rfl
    rw [hF]
    refine ⟨h.le, fun u v c => ?_, fun u r hr => Eg.con_mono (h.ro u r hr)⟩
    induction c with
    | refl => obtain ⟨r, hr⟩ := Rtf.some_ h.le u; exact ⟨r, hr, hr⟩
    | @tail v w _ q ih =>
      obtain ⟨r, h1, h2⟩ := ih
      obtain ⟨i, hi, hq⟩ := q
      rcases Nat.lt_or_ge i k with c | c
      · obtain ⟨s, g1, g2⟩ := h.co v w (Rch.one ⟨i, c, hq⟩)
        have := h2.det g1
        subst this
        exact ⟨r, h1, g2⟩
      · have : i = k := by omega
        subst this
        rcases hq with ⟨e1, e2⟩ | ⟨e1, e2⟩
        · rw [← e1] at h2
          have := h2.det hx
          subst this
          exact ⟨r, h1, by rw [← e2]; exact hy⟩
        · rw [← e1] at h2
          have := h2.det hy
          subst this
          exact ⟨r, h1, by rw [← e2]; exact hx⟩
  · have hmx : F (max x y) = max x y := by simp only [Nat.max_def]; split <;> assumption
    have hmn : F (min x y) = min x y := by simp only [Nat.min_def]; split <;> assumption
    have hne : min x y ≠ max x y := by omega
    have hJ : ∀ {u r}, Rtf F u r → Rtf (setF F (max x y) (min x y)) u (if r = max x y then min x y else r) := fun hr => hr.join hmx hmn hne
    have hle : ∀ u, setF F (max x y) (min x y) u ≤ u := fun u => by
      unfold setF
      split
      · rename_i e; subst e; omega
      · exact h.le u
    have hxa := Eg.con_mono (h.ro _ _ hx)
    have hyb := Eg.con_mono (h.ro _ _ hy)
    have hxy : G.con (k + 1) x y := Eg.con_trans (Eg.con_symm hxa) (Eg.con_trans hab hyb)
    have hmm : G.con (k + 1) (max x y) (min x y) := by
      rcases Nat.le_total x y with c | c
      · rw [Nat.max_eq_right c, Nat.min_eq_left c]; exact Eg.con_symm hxy
      · rw [Nat.max_eq_left c, Nat.min_eq_right c]; exact hxy
    have hE : (if x = max x y then min x y else x) = (if y = max x y then min x y else y) := by
      rcases Nat.le_total x y with c | c
      · rw [Nat.max_eq_right c, Nat.min_eq_left c, if_neg e, if_pos rfl]
      · rw [Nat.max_eq_left c, Nat.min_eq_right c, if_pos rfl, if_neg (fun q => e q.symm)]
    refine ⟨hle, fun u v c => ?_, fun u r hr => ?_⟩
    · induction c with
      | refl => obtain ⟨r, hr⟩ := Rtf.some_ hle u; exact ⟨r, hr, hr⟩
      | @tail v w _ q ih =>
        obtain ⟨r, h1, h2⟩ := ih
        obtain ⟨i, hi, hq⟩ := q
        rcases Nat.lt_or_ge i k with c | c
        · obtain ⟨s, g1, g2⟩ := h.co v w (Rch.one ⟨i, c, hq⟩)
          have := h2.det (hJ g1)
          subst this
          exact ⟨_, h1, hJ g2⟩
        · have : i = k := by omega
          subst this
          rcases hq with ⟨e1, e2⟩ | ⟨e1, e2⟩
          · rw [← e1] at h2
            have := h2.det (hJ hx)
            subst this
            exact ⟨_, h1, by rw [← e2, hE]; exact hJ hy⟩
          · rw [← e1] at h2
            have := h2.det (hJ hy)
            subst this
            exact ⟨_, h1, by rw [← e2, ← hE]; exact hJ hx⟩
    · obtain ⟨s, hs⟩ := Rtf.some_ h.le u
      have := (hJ hs).det hr
      subst this
      have hus := Eg.con_mono (h.ro u s hs)
      split
      · rename_i e; rw [e] at hus; exact Eg.con_trans hus hmm
      · exact hus
/-- The root is the least one of a part. -/
theorem Fo.least (h : Fo G k F) {v r : Nat} (hr : Rtf F v r) : G.con k v r ∧ ∀ u, G.con k u v → r ≤ u := by
  refine ⟨h.ro v r hr, fun u c => ?_⟩
  obtain ⟨s, h1, h2⟩ := h.co u v c
  have := h2.det hr
  subst this
  exact h1.le h.le
end
/-- One more vertex gets its number, by the least one of its part. -/
theorem num_next {R : Nat → Nat → Prop} {P : List Int} {v r : Nat} (hP : P.length = v) (hs : ∀ u v, R u v → R v u) (hr : R v r) (hl : ∀ u, R u v → r ≤ u) (hrv : r ≤ v) : NumAt R (P ++ [if r = v then ((fresh R v : Nat) : Int) else nth P r]) v ∧ fresh R (v + 1) = (if r = v then fresh R v + 1 else fresh R v) := by
  have e1 : nth (P ++ [if r = v then ((fresh R v : Nat) : Int) else nth P r]) v = if r = v then ((fresh R v : Nat) : Int) else nth P r := by
    unfold nth
    rw [List.getD_eq_getElem?_getD, ← hP, List.getElem?_concat_length]
    rfl
  by_cases e : r = v
  · have hn : ∀ u, u < v → ¬ R u v := fun u hu c => by have := hl u c; omega
    rw [if_pos e] at e1
    rw [if_pos e, if_pos e, fresh_new hn]
    exact ⟨.inr ⟨hn, e1⟩, rfl⟩
  · rw [if_neg e] at e1
    rw [if_neg e, if_neg e, fresh_old (by omega : r < v) (hs _ _ hr)]
    refine ⟨.inl ⟨r, by omega, hs _ _ hr, ?_⟩, rfl⟩
    rw [e1]
    unfold nth
    rw [List.getD_eq_getElem?_getD, List.getD_eq_getElem?_getD, List.getElem?_append_left (by omega)]
/-- Least nodes are told along edges. -/
def good (G : Eg) (L : Nat → Nat) (v : Nat) : Prop := ∀ u, G.con G.m u v → L v ≤ u
structure Lw (G : Eg) (L : Nat → Nat) : Prop where
  co : ∀ v, v < G.n → G.con G.m v (L v)
  le : ∀ v, v < G.n → L v ≤ v
def both (L : Nat → Nat) (a b : Nat) : Nat → Nat := if L a < L b then setF L b (L a) else setF L a (L b)
structure Rdl (G : Eg) (L0 L : Nat → Nat) (i : Nat) : Prop where
  lw : Lw G L
  dn : ∀ v, v < G.n → L v ≤ L0 v
  fw : ∀ j, j < i → (good G L0 (G.a j) → good G L (G.b j)) ∧ (good G L0 (G.b j) → good G L (G.a j))
section
variable {G : Eg} {L0 L : Nat → Nat}
theorem Lw.round (h : Lw G L0) : Rdl G L0 L0 0 := ⟨h, fun _ _ => Nat.le_refl _, fun _ hj => absurd hj (Nat.not_lt_zero _)⟩
theorem good.dn {L' : Nat → Nat} {v : Nat} (h : good G L v) (hd : L' v ≤ L v) : good G L' v := fun u c => Nat.le_trans hd (h u c)
theorem Rdl.step {i : Nat} (h : Rdl G L0 L i) (hG : G.Ok) (hi : i < G.m) : Rdl G L0 (both L (G.a i) (G.b i)) (i + 1) := by
  obtain ⟨q1, q2⟩ := hG.ab i hi
  have hadj : G.con G.m (G.a i) (G.b i) := Rch.one ⟨i, hi, .inl ⟨rfl, rfl⟩⟩
  have hdn : ∀ v, v < G.n → both L (G.a i) (G.b i) v ≤ L v := fun v hv => by
    unfold both
    split <;> (unfold setF; split)
    · rename_i e; subst e; omega
    · exact Nat.le_refl _
    · rename_i e; subst e; omega
    · exact Nat.le_refl _
  have ha : both L (G.a i) (G.b i) (G.a i) ≤ L (G.b i) := by
    unfold both
    split
    · unfold setF; split <;> omega
    · unfold setF; rw [if_pos rfl]; exact Nat.le_refl _
  have hb : both L (G.a i) (G.b i) (G.b i) ≤ L (G.a i) := by
    unfold both
    split
    · unfold setF; rw [if_pos rfl]; exact Nat.le_refl _
    · unfold setF; split <;> omega
  refine ⟨⟨fun v hv => ?_, fun v hv => Nat.le_trans (hdn v hv) (h.lw.le v hv)⟩, fun v hv => Nat.le_trans (hdn v hv) (h.dn v hv), fun j hj => ?_⟩
  · unfold both
    split <;> (unfold setF; split)
    · rename_i e; subst e; exact Eg.con_trans (Eg.con_symm hadj) (h.lw.co _ (by omega))
    · exact h.lw.co v hv
    · rename_i e; subst e; exact Eg.con_trans hadj (h.lw.co _ q2)
    · exact h.lw.co v hv
  · rcases Nat.lt_or_ge j i with c | c
    · have := h.fw j c
      have hj2 := hG.ab j (by omega)
      exact ⟨fun g => (this.1 g).dn (hdn _ hj2.2), fun g => (this.2 g).dn (hdn _ (by omega))⟩
    · have : j = i := by omega
      subst this
      refine ⟨fun g u c => ?_, fun g u c => ?_⟩
      · have := g u (Eg.con_trans c (Eg.con_symm hadj))
        have := h.dn (G.a j) (by omega)
        omega
      · have := g u (Eg.con_trans c hadj)
        have := h.dn (G.b j) q2
        omega
noncomputable def goodL (G : Eg) (L : Nat → Nat) : List Bool := (List.range G.n).map fun v => @decide (good G L v) (Classical.propDecidable _)
theorem goodL_nth {v : Nat} : nth (goodL G L) v = true ↔ v < G.n ∧ good G L v := by
  unfold goodL nth
  rw [List.getD_eq_getElem?_getD, List.getElem?_map]
  by_cases hv : v < G.n
  · rw [List.getElem?_range hv]
    simp [hv]
  · rw [List.getElem?_eq_none (by rw [List.length_range]; omega)]
    simp [hv]
theorem lw_root {v : Nat} (hv : v < G.n) : ∃ u, u < G.n ∧ G.con G.m u v ∧ ∀ x, G.con G.m x v → u ≤ x := by
  rcases Classical.em (∃ u, G.con G.m u v) with _ | c
  · have key : ∀ k, k ≤ v → (∃ u, u ≤ k ∧ G.con G.m u v) → ∃ u, u ≤ v ∧ G.con G.m u v ∧ ∀ x, G.con G.m x v → u ≤ x := by
      intro k
      induction k with
      | zero =>
        rintro _ ⟨u, hu, c⟩
        exact ⟨u, by omega, c, fun x _ => by omega⟩
      | succ k ih =>
        rintro hk ⟨u, hu, c⟩
        rcases Classical.em (∃ u, u ≤ k ∧ G.con G.m u v) with q | q
        · exact ih (by omega) q
        · refine ⟨u, by omega, c, fun x cx => ?_⟩
          rcases Nat.lt_or_ge x u with d | d
          · exact absurd ⟨x, by omega, cx⟩ q
          · exact d
    obtain ⟨u, h1, h2, h3⟩ := key v (Nat.le_refl _) ⟨v, Nat.le_refl _, .refl⟩
    exact ⟨u, by omega, h2, h3⟩
  · exact absurd ⟨v, .refl⟩ c
/-- Behind a round all is told, or more is. -/
theorem Rdl.more (h : Rdl G L0 L G.m) (h0 : Lw G L0) (hG : G.Ok) {r : Nat} (hr : (∀ v, v < G.n → good G L0 v) ∨ r ≤ cntB (goodL G L0)) : (∀ v, v < G.n → good G L v) ∨ r + 1 ≤ cntB (goodL G L) := by
  rcases Classical.em (∀ v, v < G.n → good G L0 v) with c | c
  · exact .inl fun v hv => (c v hv).dn (h.dn v hv)
  · right
    have hr := hr.resolve_left c
    obtain ⟨v, hv⟩ := Classical.not_forall.1 c
    obtain ⟨hv, hng⟩ := Classical.not_imp.1 hv
    obtain ⟨u, hu, huv, hmin⟩ := lw_root (G := G) hv
    have hgu : good G L0 u := fun x hx => by
      have := h0.le u hu
      have := hmin x (Eg.con_trans hx huv)
      omega
    obtain ⟨x, y, _, hx, hxy, hy, _⟩ := Rch.exit (X := fun z => good G L0 z) huv hgu hng
    obtain ⟨i, hi, q⟩ := hxy
    obtain ⟨q1, q2⟩ := hG.ab i hi
    have hg : good G L y ∧ y < G.n := by
      rcases q with ⟨e1, e2⟩ | ⟨e1, e2⟩
      · rw [← e1] at hx; rw [← e2]; exact ⟨(h.fw i hi).1 hx, q2⟩
      · rw [← e1] at hx; rw [← e2]; exact ⟨(h.fw i hi).2 hx, by omega⟩
    have hgr := cnt_grow (B := goodL G L0) (B' := goodL G L) (by unfold goodL; rw [List.length_map, List.length_map]) fun j hj => by
      rw [goodL_nth] at hj ⊢
      exact ⟨hj.1, hj.2.dn (h.dn j hj.1)⟩
    have := hgr.2 fun e => by
      have : nth (goodL G L) y = true := goodL_nth.2 ⟨hg.2, hg.1⟩
      rw [← e, goodL_nth] at this
      exact hy this.2
    omega
theorem Lw.all (hr : (∀ v, v < G.n → good G L v) ∨ G.n + 1 ≤ cntB (goodL G L)) : ∀ v, v < G.n → good G L v := by
  rcases hr with h | h
  · exact h
  · have := cntB_le (B := goodL G L)
    unfold goodL at this h
    rw [List.length_map, List.length_range] at this
    omega
end
end Go.Proofs.Ytoainfnhmdcpoaa
