/- Least ways through a graph: the plain law of the search that settles the nearest first. -/
import Derived.Test.YtegbidklcaccjaaMp
namespace Go.Proofs.Ytegbidklcaccjaa
open R (In64 InU64 lo64 nth)
/-- A graph's arcs, which vertices are open, and where a search starts, at which cost. -/
structure Ins where
  n : Nat
  S : Nat → Nat
  H : Nat → Nat
  W : Nat → Int
  op : Nat → Bool
  st : List (Nat × Int)
structure Ins.Ok (I : Ins) : Prop where
  n1 : I.n ≤ 4000
  hd : ∀ v i, v < I.n → I.S v ≤ i → i < I.S (v + 1) → I.H i < I.n ∧ 0 ≤ I.W i ∧ I.W i ≤ 2147483648
  sk : ∀ s ∈ I.st, s.1 < I.n ∧ 0 ≤ s.2 ∧ s.2 ≤ 1152921504606846976
/-- From where v has its cost. -/
def From (I : Ins) (D P : List Int) (S : List Nat) (v : Nat) : Prop := (nth P v = -1 ∧ (v, nth D v) ∈ I.st) ∨ ∃ u i, u ∈ S ∧ nth P v = (u : Nat) ∧ I.S u ≤ i ∧ i < I.S (u + 1) ∧ I.H i = v ∧ nth D v = nth D u + I.W i ∧ S.idxOf u < S.idxOf v
/-- A search: costs, from where, what is near, what was settled; the arcs of x are gone through up to j. -/
structure Dv (I : Ins) (m : Nat) (D P : List Int) (κ : Int → Option Int) (S : List Nat) (k : Int) (x j : Nat) : Prop where
  dl : D.length = I.n
  pl : P.length = I.n
  bd : ∀ v, v < I.n → nth D v = 4611686018427387904 ∨ (0 ≤ nth D v ∧ nth D v ≤ 1152921504606846976 + S.length * 2147483648)
  ka : ∀ a c, κ a = some c ↔ ∃ v : Nat, v < I.n ∧ a = (v : Nat) ∧ v ∉ S ∧ nth D v = c ∧ c < 4611686018427387904
  fi : ∀ u ∈ S, u < I.n ∧ nth D u < 4611686018427387904
  nd : S.Nodup
  mx : ∀ u ∈ S, nth D u ≤ k
  mn : ∀ v, v < I.n → v ∉ S → k ≤ nth D v
  re : ∀ u ∈ S, ∀ i, I.S u ≤ i → i < I.S (u + 1) → (u = x → i < j) → I.op (I.H i) = true → nth D (I.H i) ≤ nth D u + I.W i
  su : ∀ v, v < I.n → nth D v < 4611686018427387904 → I.op v = true ∧ From I D P S v
  sa : ∀ s ∈ I.st.take m, I.op s.1 = true → nth D s.1 ≤ s.2
theorem nodup_le {S : List Nat} {n : Nat} (h : S.Nodup) (hs : ∀ u ∈ S, u < n) : S.length ≤ n := by
  have := h.length_le_of_subset (l₂ := List.range n) fun u hu => List.mem_range.2 (hs u hu)
  rwa [List.length_range] at this
theorem Dv.len {I : Ins} {m : Nat} {D P : List Int} {κ : Int → Option Int} {S : List Nat} {k : Int} {x j : Nat} (h : Dv I m D P κ S k x j) : S.length ≤ I.n := nodup_le h.nd fun u hu => (h.fi u hu).1
theorem nth_put {L : List Int} {v w : Nat} {c : Int} (hv : v < L.length) : nth (L.set v c) w = if v = w then c else nth L w := by
  unfold R.nth
  rw [List.getD_eq_getElem?_getD, List.getD_eq_getElem?_getD, List.getElem?_set]
  by_cases e : v = w
  · subst e; rw [if_pos rfl, if_pos hv, if_pos rfl]; rfl
  · rw [if_neg e, if_neg e]
/-- What is reached. -/
def rch (I : Ins) (D P : List Int) (κ : Int → Option Int) (v : Nat) (fr c : Int) : List Int × List Int × (Int → Option Int) := if I.op v = true ∧ c < nth D v then (D.set v c, P.set v fr, R.putM κ (v : Nat) c) else (D, P, κ)
section
variable {I : Ins} {m : Nat} {D P : List Int} {κ : Int → Option Int} {S : List Nat} {k : Int} {x j : Nat}
/-- One more is reached. -/
theorem Dv.put (h : Dv I m D P κ S k x j) (hI : I.Ok) {v : Nat} {fr c : Int} {m' j' : Nat} (hv : v < I.n) (hvS : v ∉ S) (hop : I.op v = true) (hc : c < nth D v) (hk : k ≤ c) (h0 : 0 ≤ c) (hb : c ≤ 1152921504606846976 + S.length * 2147483648)
    (hre : ∀ u ∈ S, ∀ i, I.S u ≤ i → i < I.S (u + 1) → (u = x → i < j') → (u = x → i < j) ∨ (I.H i = v ∧ c ≤ nth D u + I.W i))
    (hsu : From I (D.set v c) (P.set v fr) S v) (hsa : ∀ s ∈ I.st.take m', I.op s.1 = true → s ∈ I.st.take m ∨ (s.1 = v ∧ c ≤ s.2)) : Dv I m' (D.set v c) (P.set v fr) (R.putM κ (v : Nat) c) S k x j' := by
  have hD : ∀ w, nth (D.set v c) w = if v = w then c else nth D w := fun w => nth_put (by rw [h.dl]; exact hv)
  have hP : ∀ w, nth (P.set v fr) w = if v = w then fr else nth P w := fun w => nth_put (by rw [h.pl]; exact hv)
  have hDS : ∀ u ∈ S, nth (D.set v c) u = nth D u := fun u hu => by rw [hD, if_neg (fun e => hvS (by rw [e]; exact hu))]
  have hle : ∀ w, nth (D.set v c) w ≤ nth D w := fun w => by
    rw [hD]
    split
    · rename_i e; rw [← e]; omega
    · exact Int.le_refl _
  have hn1 := hI.n1
  have hlen := h.len
  refine ⟨by rw [List.length_set]; exact h.dl, by rw [List.length_set]; exact h.pl, fun w hw => ?_, fun a e => ?_, fun u hu => ?_, h.nd, fun u hu => ?_, fun w hw hwS => ?_, fun u hu i h1 h2 h3 h4 => ?_, fun w hw hf => ?_, fun s hs ho => ?_⟩
  · rw [hD]
    split
    · exact .inr ⟨h0, hb⟩
    · exact h.bd w hw
  · by_cases ha : a = (v : Nat)
    · rw [ha, R.putM_same]
      constructor
      · intro q
        injection q with q
        exact ⟨v, hv, rfl, hvS, by rw [hD, if_pos rfl]; exact q, by omega⟩
      · rintro ⟨w, hw, e1, e2, e3, e4⟩
        obtain rfl : v = w := by omega
        rw [hD, if_pos rfl] at e3
        rw [e3]
    · rw [R.putM_ne ha, h.ka]
      constructor
      · rintro ⟨w, hw, e1, e2, e3, e4⟩
        exact ⟨w, hw, e1, e2, by rw [hD, if_neg (fun q => ha (by rw [e1, q]))]; exact e3, e4⟩
      · rintro ⟨w, hw, e1, e2, e3, e4⟩
        rw [hD, if_neg (fun q => ha (by rw [e1, q]))] at e3
        exact ⟨w, hw, e1, e2, e3, e4⟩
  · rw [hDS u hu]; exact h.fi u hu
  · rw [hDS u hu]; exact h.mx u hu
  · rw [hD]
    split
    · exact hk
    · exact h.mn w hw hwS
  · rw [hDS u hu]
    rcases hre u hu i h1 h2 h3 with q | ⟨q1, q2⟩
    · exact Int.le_trans (hle _) (h.re u hu i h1 h2 q h4)
    · rw [q1, hD, if_pos rfl]
      exact q2
  · by_cases e : v = w
    · rw [← e]
      exact ⟨hop, hsu⟩
    · rw [hD, if_neg e] at hf
      obtain ⟨q1, q2⟩ := h.su w hw hf
      refine ⟨q1, ?_⟩
      rcases q2 with ⟨r1, r2⟩ | ⟨u, i, r1, r2, r3, r4, r5, r6, r7⟩
      · exact .inl ⟨by rw [hP, if_neg e]; exact r1, by rw [hD, if_neg e]; exact r2⟩
      · exact .inr ⟨u, i, r1, by rw [hP, if_neg e]; exact r2, r3, r4, r5, by rw [hD, if_neg e, hDS u r1]; exact r6, r7⟩
  · rcases hsa s hs ho with q | ⟨q1, q2⟩
    · exact Int.le_trans (hle _) (h.sa s q ho)
    · rw [q1, hD, if_pos rfl]
      exact q2
/-- An arc gone through. -/
theorem Dv.relax (h : Dv I m D P κ S k x j) (hI : I.Ok) (hx : x ∈ S) (hk : nth D x = k) (hb : k + 2147483648 ≤ 1152921504606846976 + S.length * 2147483648) (h1 : I.S x ≤ j) (h2 : j < I.S (x + 1)) :
    Dv I m (rch I D P κ (I.H j) (x : Nat) (k + I.W j)).1 (rch I D P κ (I.H j) (x : Nat) (k + I.W j)).2.1 (rch I D P κ (I.H j) (x : Nat) (k + I.W j)).2.2 S k x (j + 1) ∧ ∀ u ∈ S, nth (rch I D P κ (I.H j) (x : Nat) (k + I.W j)).1 u = nth D u ∧ nth (rch I D P κ (I.H j) (x : Nat) (k + I.W j)).2.1 u = nth P u := by
  have hxn := (h.fi x hx).1
  obtain ⟨hv, w0, w1⟩ := hI.hd x j hxn h1 h2
  have hk0 : 0 ≤ k := by
    have := h.bd x hxn
    have := (h.fi x hx).2
    omega
  unfold rch
  by_cases hc : I.op (I.H j) = true ∧ k + I.W j < nth D (I.H j)
  · rw [if_pos hc]
    have hvS : I.H j ∉ S := fun q => by have := h.mx _ q; omega
    have hDS : ∀ u ∈ S, nth (D.set (I.H j) (k + I.W j)) u = nth D u := fun u hu => by rw [nth_put (by rw [h.dl]; exact hv), if_neg (fun e => hvS (by rw [e]; exact hu))]
    have hPS : ∀ u ∈ S, nth (P.set (I.H j) ((x : Nat) : Int)) u = nth P u := fun u hu => by rw [nth_put (by rw [h.pl]; exact hv), if_neg (fun e => hvS (by rw [e]; exact hu))]
    refine ⟨h.put hI hv hvS hc.1 hc.2 (by omega) (by omega) (by omega) (fun u hu i q1 q2 q3 => ?_) ?_ (fun s hs _ => .inl hs), fun u hu => ⟨hDS u hu, hPS u hu⟩⟩
    · by_cases e : u = x ∧ i = j
      · obtain ⟨rfl, rfl⟩ := e
        exact .inr ⟨rfl, by rw [hk]; exact Int.le_refl _⟩
      · exact .inl fun q => by have := q3 q; have : i ≠ j := fun q' => e ⟨q, q'⟩; omega
    · refine .inr ⟨x, j, hx, by rw [nth_put (by rw [h.pl]; exact hv), if_pos rfl], h1, h2, rfl, by rw [hDS x hx, nth_put (by rw [h.dl]; exact hv), if_pos rfl, hk], ?_⟩
      rw [List.idxOf_eq_length hvS]
      exact List.idxOf_lt_length_iff.2 hx
  · rw [if_neg hc]
    refine ⟨⟨h.dl, h.pl, h.bd, h.ka, h.fi, h.nd, h.mx, h.mn, fun u hu i q1 q2 q3 q4 => ?_, h.su, h.sa⟩, fun u _ => ⟨rfl, rfl⟩⟩
    by_cases e : u = x ∧ i = j
    · obtain ⟨rfl, rfl⟩ := e
      have : ¬ (k + I.W i < nth D (I.H i)) := fun q => hc ⟨q4, q⟩
      show nth D (I.H i) ≤ nth D u + I.W i
      omega
    · exact h.re u hu i q1 q2 (fun q => by have := q3 q; have : i ≠ j := fun q' => e ⟨q, q'⟩; omega) q4
/-- A start. -/
theorem Dv.start (h : Dv I m D P κ [] 0 x j) (hI : I.Ok) {s : Nat × Int} (hs : I.st[m]? = some s) :
    Dv I (m + 1) (rch I D P κ s.1 (-1) s.2).1 (rch I D P κ s.1 (-1) s.2).2.1 (rch I D P κ s.1 (-1) s.2).2.2 [] 0 x j := by
  have hm := List.mem_of_getElem? hs
  obtain ⟨hv, h0, h1⟩ := hI.sk s hm
  have hlt : m < I.st.length := by
    rcases Nat.lt_or_ge m I.st.length with c | c
    · exact c
    · rw [List.getElem?_eq_none c] at hs; cases hs
  have htk : I.st.take (m + 1) = I.st.take m ++ [s] := by
    rw [List.take_add_one, hs]; rfl
  unfold rch
  by_cases hc : I.op s.1 = true ∧ s.2 < nth D s.1
  · rw [if_pos hc]
    refine h.put hI hv (by simp) hc.1 hc.2 h0 h0 (by simpa using h1) (fun u hu => (by cases hu)) ?_ (fun t ht _ => ?_)
    · refine .inl ⟨by rw [nth_put (by rw [h.pl]; exact hv), if_pos rfl], ?_⟩
      rw [nth_put (by rw [h.dl]; exact hv), if_pos rfl]
      exact hm
    · rw [htk] at ht
      rcases List.mem_append.1 ht with q | q
      · exact .inl q
      · rw [List.mem_singleton.1 q]
        exact .inr ⟨rfl, Int.le_refl _⟩
  · rw [if_neg hc]
    refine ⟨h.dl, h.pl, h.bd, h.ka, h.fi, h.nd, h.mx, h.mn, h.re, h.su, fun t ht ho => ?_⟩
    rw [htk] at ht
    rcases List.mem_append.1 ht with q | q
    · exact h.sa t q ho
    · rw [List.mem_singleton.1 q] at ho ⊢
      have : ¬ (s.2 < nth D s.1) := fun q => hc ⟨ho, q⟩
      show nth D s.1 ≤ s.2
      omega
theorem idx_app {S : List Nat} {x u w : Nat} (hu : u ∈ S) (h : S.idxOf u < S.idxOf w) : (S ++ [x]).idxOf u < (S ++ [x]).idxOf w := by
  rw [List.idxOf_append, if_pos hu, List.idxOf_append]
  split
  · exact h
  · have := List.idxOf_lt_length_iff.2 hu
    omega
/-- The nearest is settled. -/
theorem Dv.pop (h : Dv I m D P κ S k I.n 0) {v : Nat} (hv : v < I.n) (hvS : v ∉ S) (hf : nth D v < 4611686018427387904) (hmin : ∀ w, w < I.n → w ∉ S → nth D v ≤ nth D w) :
    Dv I m D P (R.delM κ (v : Nat)) (S ++ [v]) (nth D v) v (I.S v) ∧ nth D v + 2147483648 ≤ 1152921504606846976 + (S ++ [v]).length * 2147483648 := by
  have hb := h.bd v hv
  have hl : (S ++ [v]).length = S.length + 1 := by simp
  refine ⟨⟨h.dl, h.pl, fun w hw => ?_, fun a e => ?_, fun u hu => ?_, ?_, fun u hu => ?_, fun w hw hwS => ?_, fun u hu i h1 h2 h3 h4 => ?_, fun w hw hff => ?_, h.sa⟩, by rw [hl]; omega⟩
  · rw [hl]
    have := h.bd w hw
    omega
  · by_cases ha : a = (v : Nat)
    · rw [ha, R.delM_same]
      constructor
      · intro q; cases q
      · rintro ⟨w, hw, e1, e2, e3, e4⟩
        obtain rfl : v = w := by omega
        exact absurd (List.mem_append.2 (.inr (List.mem_singleton.2 rfl))) e2
    · rw [R.delM_ne ha, h.ka]
      constructor
      · rintro ⟨w, hw, e1, e2, e3, e4⟩
        refine ⟨w, hw, e1, fun q => ?_, e3, e4⟩
        rcases List.mem_append.1 q with q | q
        · exact e2 q
        · exact ha (by rw [e1, List.mem_singleton.1 q])
      · rintro ⟨w, hw, e1, e2, e3, e4⟩
        exact ⟨w, hw, e1, fun q => e2 (List.mem_append.2 (.inl q)), e3, e4⟩
  · rcases List.mem_append.1 hu with q | q
    · exact h.fi u q
    · rw [List.mem_singleton.1 q]; exact ⟨hv, hf⟩
  · rw [List.nodup_append]
    refine ⟨h.nd, by simp, fun a ha b hb e => ?_⟩
    rw [List.mem_singleton.1 hb] at e
    exact hvS (by rw [← e]; exact ha)
  · rcases List.mem_append.1 hu with q | q
    · have := h.mx u q
      have := h.mn v hv hvS
      omega
    · rw [List.mem_singleton.1 q]; exact Int.le_refl _
  · exact hmin w hw fun q => hwS (List.mem_append.2 (.inl q))
  · rcases List.mem_append.1 hu with q | q
    · exact h.re u q i h1 h2 (fun e => by have := (h.fi u q).1; omega) h4
    · rw [List.mem_singleton.1 q] at h1 h2 h3
      have := h3 rfl
      omega
  · obtain ⟨q1, q2⟩ := h.su w hw hff
    refine ⟨q1, ?_⟩
    rcases q2 with q2 | ⟨u, i, r1, r2, r3, r4, r5, r6, r7⟩
    · exact .inl q2
    · exact .inr ⟨u, i, List.mem_append.2 (.inl r1), r2, r3, r4, r5, r6, idx_app r1 r7⟩
theorem Dv.close (h : Dv I m D P κ S k x j) (hj : I.S (x + 1) ≤ j) : Dv I m D P κ S k I.n 0 :=
  ⟨h.dl, h.pl, h.bd, h.ka, h.fi, h.nd, h.mx, h.mn, fun u hu i h1 h2 _ h4 => h.re u hu i h1 h2 (fun e => by rw [e] at h2; omega) h4, h.su, h.sa⟩
end
/-- The least costs. -/
structure Least (I : Ins) (D P : List Int) (S : List Nat) : Prop where
  dl : D.length = I.n
  pl : P.length = I.n
  bd : ∀ v, v < I.n → nth D v = 4611686018427387904 ∨ (0 ≤ nth D v ∧ nth D v ≤ 1152921504606846976 + I.n * 2147483648)
  nd : S.Nodup
  fi : ∀ u, u ∈ S ↔ u < I.n ∧ nth D u < 4611686018427387904
  cl : ∀ u, u < I.n → nth D u < 4611686018427387904 → ∀ i, I.S u ≤ i → i < I.S (u + 1) → I.op (I.H i) = true → nth D (I.H i) ≤ nth D u + I.W i
  su : ∀ v, v < I.n → nth D v < 4611686018427387904 → I.op v = true ∧ From I D P S v
  sa : ∀ s ∈ I.st, I.op s.1 = true → nth D s.1 ≤ s.2
section
variable {I : Ins} {D P : List Int} {κ : Int → Option Int} {S : List Nat} {k : Int} {x j : Nat}
theorem Dv.all (h : Dv I I.st.length D P κ S k I.n 0) (hκ : ∀ a, κ a = none) : Least I D P S := by
  have hin : ∀ u, u < I.n → nth D u < 4611686018427387904 → u ∈ S := fun u hu hf => by
    rcases Classical.em (u ∈ S) with c | c
    · exact c
    · have := (h.ka (u : Nat) (nth D u)).2 ⟨u, hu, rfl, c, rfl, hf⟩
      rw [hκ] at this
      cases this
  have hl := h.len
  refine ⟨h.dl, h.pl, fun v hv => by have := h.bd v hv; omega, h.nd, fun u => ⟨fun q => h.fi u q, fun q => hin u q.1 q.2⟩, fun u hu hf i h1 h2 h4 => h.re u (hin u hu hf) i h1 h2 (fun e => by omega) h4, h.su, fun s hs => h.sa s (by rw [List.take_length]; exact hs)⟩
theorem exists_min (p : Nat → Prop) (f : Nat → Int) : ∀ n, (∃ v, v < n ∧ p v) → ∃ v, v < n ∧ p v ∧ ∀ w, w < n → p w → f v ≤ f w
  | 0, ⟨v, h, _⟩ => absurd h (Nat.not_lt_zero _)
  | n + 1, ⟨v, hv, hp⟩ => by
    rcases Classical.em (∃ v, v < n ∧ p v) with c | c
    · obtain ⟨u, h1, h2, h3⟩ := exists_min p f n c
      rcases Classical.em (p n ∧ f n < f u) with d | d
      · refine ⟨n, Nat.lt_succ_self _, d.1, fun w hw hpw => ?_⟩
        rcases Nat.lt_or_ge w n with e | e
        · have := h3 w e hpw
          omega
        · rw [show w = n by omega]; exact Int.le_refl _
      · refine ⟨u, by omega, h2, fun w hw hpw => ?_⟩
        rcases Nat.lt_or_ge w n with e | e
        · exact h3 w e hpw
        · have e : w = n := by omega
          rw [e] at hpw ⊢
          have : ¬ f n < f u := fun q => d ⟨hpw, q⟩
          omega
    · have hvn : v = n := by
        rcases Nat.lt_or_ge v n with e | e
        · exact absurd ⟨v, e, hp⟩ c
        · omega
      subst hvn
      refine ⟨v, hv, hp, fun w hw hpw => ?_⟩
      rcases Nat.lt_or_ge w v with e | e
      · exact absurd ⟨w, e, hpw⟩ c
      · rw [show w = v by omega]; exact Int.le_refl _
/-- All arcs of the one that was settled last are gone through. -/
theorem Dv.relaxAll (hI : I.Ok) {m : Nat} (hx : x ∈ S) (hb : k + 2147483648 ≤ 1152921504606846976 + S.length * 2147483648) : ∀ (t : Nat) (D P : List Int) (κ : Int → Option Int) (j : Nat), Dv I m D P κ S k x j → nth D x = k → I.S x ≤ j → I.S (x + 1) ≤ j + t →
    ∃ D' P' κ', Dv I m D' P' κ' S k I.n 0 ∧ ∀ u ∈ S, nth D' u = nth D u ∧ nth P' u = nth P u
  | 0, D, P, κ, j, h, _, _, h2 => ⟨D, P, κ, h.close (by omega), fun u _ => ⟨rfl, rfl⟩⟩
  | t + 1, D, P, κ, j, h, hk, h1, h2 => by
    rcases Nat.lt_or_ge j (I.S (x + 1)) with c | c
    · obtain ⟨q1, q2⟩ := h.relax hI hx hk hb h1 c
      obtain ⟨D', P', κ', r1, r2⟩ := Dv.relaxAll hI hx hb t _ _ _ (j + 1) q1 (by rw [(q2 x hx).1]; exact hk) (by omega) (by omega)
      exact ⟨D', P', κ', r1, fun u hu => ⟨by rw [(r2 u hu).1, (q2 u hu).1], by rw [(r2 u hu).2, (q2 u hu).2]⟩⟩
    · exact ⟨D, P, κ, h.close c, fun u _ => ⟨rfl, rfl⟩⟩
/-- A search that goes on comes to the least costs; what was settled stays. -/
theorem Dv.go (hI : I.Ok) : ∀ (f : Nat) (D P : List Int) (κ : Int → Option Int) (S : List Nat) (k : Int), Dv I I.st.length D P κ S k I.n 0 → I.n ≤ S.length + f →
    ∃ D' P' S', Least I D' P' S' ∧ (∀ u ∈ S, nth D' u = nth D u ∧ nth P' u = nth P u) ∧ (∃ T, S' = S ++ T) ∧ ∀ v, v < I.n → v ∉ S → k ≤ nth D' v := by
  intro f
  induction f with
  | zero =>
    intro D P κ S k h hf
    have hκ : ∀ a, κ a = none := fun a => by
      cases hq : κ a with
      | none => rfl
      | some c =>
        obtain ⟨v, hv, _, hvS, _, _⟩ := (h.ka a c).1 hq
        have hnd : (v :: S).Nodup := List.nodup_cons.2 ⟨hvS, h.nd⟩
        have := nodup_le (n := I.n) hnd fun u hu => by
          rcases List.mem_cons.1 hu with rfl | q
          · exact hv
          · exact (h.fi u q).1
        rw [List.length_cons] at this
        omega
    exact ⟨D, P, S, h.all hκ, fun u _ => ⟨rfl, rfl⟩, ⟨[], by simp⟩, h.mn⟩
  | succ f ih =>
    intro D P κ S k h hf
    rcases Classical.em (∃ v, v < I.n ∧ (v ∉ S ∧ nth D v < 4611686018427387904)) with c | c
    · obtain ⟨v, hv, ⟨hvS, hvf⟩, hmin⟩ := exists_min (fun v => v ∉ S ∧ nth D v < 4611686018427387904) (fun v => nth D v) I.n c
      have hmin' : ∀ w, w < I.n → w ∉ S → nth D v ≤ nth D w := fun w hw hwS => by
        rcases Classical.em (nth D w < 4611686018427387904) with d | d
        · exact hmin w hw ⟨hwS, d⟩
        · omega
      obtain ⟨q1, q2⟩ := h.pop hv hvS hvf hmin'
      have hmem : v ∈ S ++ [v] := List.mem_append.2 (.inr (List.mem_singleton.2 rfl))
      obtain ⟨D1, P1, κ1, r1, r2⟩ := Dv.relaxAll hI hmem q2 (I.S (v + 1)) D P _ (I.S v) q1 rfl (Nat.le_refl _) (by omega)
      obtain ⟨D2, P2, S2, s1, s2, ⟨T, s3⟩, s4⟩ := ih D1 P1 κ1 (S ++ [v]) _ r1 (by rw [List.length_append, List.length_singleton]; omega)
      refine ⟨D2, P2, S2, s1, fun u hu => ?_, ⟨[v] ++ T, by rw [s3, List.append_assoc]⟩, fun w hw hwS => ?_⟩
      · have hm : u ∈ S ++ [v] := List.mem_append.2 (.inl hu)
        exact ⟨by rw [(s2 u hm).1, (r2 u hm).1], by rw [(s2 u hm).2, (r2 u hm).2]⟩
      · have hkv := h.mn v hv hvS
        by_cases e : w = v
        · rw [e, (s2 v hmem).1, (r2 v hmem).1]
          exact hkv
        · refine Int.le_trans hkv (s4 w hw fun q => ?_)
          rcases List.mem_append.1 q with q | q
          · exact hwS q
          · exact e (List.mem_singleton.1 q)
    · have hκ : ∀ a, κ a = none := fun a => by
        cases hq : κ a with
        | none => rfl
        | some e =>
          obtain ⟨v, hv, _, hvS, e1, e2⟩ := (h.ka a e).1 hq
          exact absurd ⟨v, hv, hvS, by omega⟩ c
      exact ⟨D, P, S, h.all hκ, fun u _ => ⟨rfl, rfl⟩, ⟨[], by simp⟩, h.mn⟩
end
/-- What has more arcs' ends open and more starts costs no more. -/
theorem least_le {I J : Ins} {D E P Q : List Int} {S T : List Nat} (h : Least I D P S) (g : Least J E Q T) (hn : J.n = I.n) (hS : J.S = I.S) (hH : J.H = I.H) (hW : J.W = I.W) (hI : I.Ok) (hop : ∀ v, v < I.n → J.op v = true → I.op v = true) (hst : ∀ s ∈ J.st, s ∈ I.st) : ∀ v, v < I.n → nth D v ≤ nth E v := by
  have key : ∀ (t v : Nat), T.idxOf v < t → v < I.n → nth E v < 4611686018427387904 → nth D v ≤ nth E v := by
    intro t
    induction t with
    | zero => intro v h1; exact absurd h1 (Nat.not_lt_zero _)
    | succ t ih =>
      intro v h1 hv hf
      obtain ⟨q1, q2⟩ := g.su v (by rw [hn]; exact hv) hf
      rcases q2 with ⟨r1, r2⟩ | ⟨u, i, r1, r2, r3, r4, r5, r6, r7⟩
      · exact h.sa _ (hst _ r2) (hop v hv q1)
      · have hu := (g.fi u).1 r1
        rw [hn] at hu
        rw [hS] at r3 r4
        rw [hH] at r5
        rw [hW] at r6
        have h2 := ih u (by omega) hu.1 hu.2
        have hw := hI.hd u i hu.1 r3 r4
        have h3 := h.cl u hu.1 (by omega) i r3 r4 (by rw [r5]; exact hop v hv q1)
        rw [r5] at h3
        omega
  intro v hv
  rcases Classical.em (nth E v < 4611686018427387904) with c | c
  · exact key (T.idxOf v + 1) v (Nat.lt_succ_self _) hv c
  · have h1 := h.bd v hv
    have h2 := hI.n1
    omega
theorem least_eq {I : Ins} {D E P Q : List Int} {S T : List Nat} (h : Least I D P S) (g : Least I E Q T) (hI : I.Ok) : D = E := by
  refine List.ext_getElem (by rw [h.dl, g.dl]) fun i h1 h2 => ?_
  have hi : i < I.n := by rw [← h.dl]; exact h1
  have a := least_le h g rfl rfl rfl rfl hI (fun _ _ q => q) (fun _ q => q) i hi
  have b := least_le g h rfl rfl rfl rfl hI (fun _ _ q => q) (fun _ q => q) i hi
  rw [← R.nth_eq h1, ← R.nth_eq h2]
  omega
end Go.Proofs.Ytegbidklcaccjaa
