/- A graph the other way round: rows of arcs, the plain law. -/
import Derived.Test.YtegbidklcaccjaaKb
import Derived.Test.YtegbidklcaccjaaKo
namespace Go.Proofs.Ytegbidklcaccjaa
open R (In64 InU64 lo64 nth)
/-- How many things lie in the first j rows. -/
def off (M : List (List Item)) (j : Nat) : Nat := ((M.take j).map List.length).sum
def stM (M : List (List Item)) (k : Nat) : List Int := (List.range (k + 1)).map fun j => ((off M j : Nat) : Int)
def hdM (M : List (List Item)) (k : Nat) : List Int := (M.take k).flatMap fun l => l.map Item.at_
def wtM (M : List (List Item)) (k : Nat) : List Int := (M.take k).flatMap fun l => l.map Item.key
theorem off_zero (M : List (List Item)) : off M 0 = 0 := rfl
theorem off_succ {M : List (List Item)} {j : Nat} (h : j < M.length) : off M (j + 1) = off M j + (nth M j).length := by
  unfold off
  rw [List.take_succ_eq_append_getElem h, List.map_append, List.sum_append, R.nth_eq h]
  simp
theorem off_cons (l : List Item) (M : List (List Item)) (j : Nat) : off (l :: M) (j + 1) = l.length + off M j := by
  unfold off
  simp
theorem off_mono {M : List (List Item)} {j k : Nat} (h : j ≤ k) (hk : k ≤ M.length) : off M j ≤ off M k := by
  induction k with
  | zero => rw [show j = 0 by omega]; exact Nat.le_refl _
  | succ k ih =>
    rcases Nat.lt_or_ge k j with c | c
    · rw [show j = k + 1 by omega]; exact Nat.le_refl _
    · have := ih c (by omega)
      have := off_succ (M := M) (j := k) (by omega)
      omega
theorem len_off {M : List (List Item)} {j k : Nat} (h : j < k) (hk : k ≤ M.length) : (nth M j).length ≤ off M k := by
  have a := off_succ (M := M) (j := j) (by omega)
  have b := off_mono (M := M) (j := j + 1) (k := k) h hk
  omega
theorem nth_appL {T : Type} [Inhabited T] {A B : List T} {i : Nat} (h : i < A.length) : nth (A ++ B) i = nth A i := by
  unfold R.nth
  rw [List.getD_eq_getElem?_getD, List.getD_eq_getElem?_getD, List.getElem?_append_left h]
theorem nth_appR {T : Type} [Inhabited T] {A B : List T} {i : Nat} : nth (A ++ B) (A.length + i) = nth B i := by
  unfold R.nth
  rw [List.getD_eq_getElem?_getD, List.getD_eq_getElem?_getD, List.getElem?_append_right (by omega), Nat.add_sub_cancel_left]
theorem nth_mapF {T U : Type} [Inhabited T] [Inhabited U] {f : T → U} {L : List T} {i : Nat} (h : i < L.length) : nth (L.map f) i = f (nth L i) := by
  rw [R.nth_eq (by rw [List.length_map]; exact h), R.nth_eq h, List.getElem_map]
theorem flat_at {T : Type} [Inhabited T] (f : Item → T) : ∀ (M : List (List Item)) (j t : Nat), j < M.length → t < (nth M j).length → nth (M.flatMap fun l => l.map f) (off M j + t) = f (nth (nth M j) t)
  | [], j, t, h, _ => absurd h (Nat.not_lt_zero _)
  | l :: M, 0, t, _, ht => by
    have ht : t < l.length := ht
    rw [off_zero, Nat.zero_add, List.flatMap_cons, nth_appL (by rw [List.length_map]; exact ht), nth_mapF ht]
    rfl
  | l :: M, j + 1, t, h, ht => by
    have h : j + 1 < M.length + 1 := h
    have ht : t < (nth M j).length := ht
    have := flat_at f M j t (by omega) ht
    rw [off_cons, List.flatMap_cons, show l.length + off M j + t = (l.map f).length + (off M j + t) by rw [List.length_map]; omega, nth_appR, this]
    rfl
theorem flat_lenM {T : Type} (f : Item → T) : ∀ (M : List (List Item)), (M.flatMap fun l => l.map f).length = off M M.length
  | [] => rfl
  | l :: M => by
    have := flat_lenM f M
    rw [List.flatMap_cons, List.length_append, List.length_map, this, List.length_cons, off_cons]
theorem take_all {M : List (List Item)} : M.take M.length = M := List.take_length
theorem off_take {M : List (List Item)} {k j : Nat} (h : j ≤ k) : off (M.take k) j = off M j := by
  unfold off
  rw [List.take_take, Nat.min_eq_left h]
theorem hdM_len {M : List (List Item)} {k : Nat} (h : k ≤ M.length) : (hdM M k).length = off M k := by
  unfold hdM
  rw [flat_lenM, List.length_take, Nat.min_eq_left h, off_take (Nat.le_refl _)]
theorem wtM_len {M : List (List Item)} {k : Nat} (h : k ≤ M.length) : (wtM M k).length = off M k := by
  unfold wtM
  rw [flat_lenM, List.length_take, Nat.min_eq_left h, off_take (Nat.le_refl _)]
theorem hdM_succ {M : List (List Item)} {k : Nat} (h : k < M.length) : hdM M (k + 1) = hdM M k ++ (nth M k).map Item.at_ := by
  unfold hdM
  rw [List.take_succ_eq_append_getElem h, List.flatMap_append, R.nth_eq h]
  simp
theorem wtM_succ {M : List (List Item)} {k : Nat} (h : k < M.length) : wtM M (k + 1) = wtM M k ++ (nth M k).map Item.key := by
  unfold wtM
  rw [List.take_succ_eq_append_getElem h, List.flatMap_append, R.nth_eq h]
  simp
theorem stM_succ (M : List (List Item)) (k : Nat) : stM M (k + 1) = stM M k ++ [((off M (k + 1) : Nat) : Int)] := by
  unfold stM
  rw [List.range_succ, List.map_append]
  rfl
theorem stM_zero (M : List (List Item)) : stM M 0 = [0] := rfl
theorem stM_len (M : List (List Item)) (k : Nat) : (stM M k).length = k + 1 := by simp [stM]
theorem stM_nth {M : List (List Item)} {k j : Nat} (h : j ≤ k) : nth (stM M k) j = ((off M j : Nat) : Int) := by
  rw [R.nth_eq (by rw [stM_len]; omega)]
  simp [stM]
theorem hdM_nth {M : List (List Item)} {n j t : Nat} (hn : M.length = n) (h : j < n) (ht : t < (nth M j).length) : nth (hdM M n) (off M j + t) = (nth (nth M j) t).at_ := by
  unfold hdM
  rw [← hn, List.take_length]
  exact flat_at Item.at_ M j t (by omega) ht
theorem wtM_nth {M : List (List Item)} {n j t : Nat} (hn : M.length = n) (h : j < n) (ht : t < (nth M j).length) : nth (wtM M n) (off M j + t) = (nth (nth M j) t).key := by
  unfold wtM
  rw [← hn, List.take_length]
  exact flat_at Item.key M j t (by omega) ht
/-- Rows of arcs that may be. -/
structure Bks (n : Nat) (M : List (List Item)) : Prop where
  len : M.length = n
  it : ∀ j, j < n → ∀ x ∈ nth M j, 0 ≤ x.at_ ∧ x.at_ < (n : Nat) ∧ 0 ≤ x.key ∧ x.key ≤ 2147483648
  up : ∀ j, j < n → (nth M j).Pairwise fun x y => x.at_ < y.at_
structure IsG (n : Nat) (M : List (List Item)) (g : Gph) : Prop where
  sn : g.st.n = n + 1
  hn : g.hd.n = off M n
  wn : g.wt.n = off M n
  sl : g.st.L = stM M n
  hl : g.hd.L = hdM M n
  wl : g.wt.L = wtM M n
section
variable {n : Nat} {M : List (List Item)} {g : Gph}
theorem Bks.may (h : Bks n M) (hg : IsG n M g) (hn : n ≤ 4000) (hm : off M n ≤ 200000) : MayG g := by
  have hst : ∀ j, j ≤ n → nth g.st.L j = ((off M j : Nat) : Int) := fun j hj => by rw [hg.sl, stM_nth hj]
  have hl := h.len
  refine ⟨⟨by rw [hg.sn]; omega, by rw [hg.sn]; omega, by rw [hg.hn]; exact hm, by rw [hg.wn, hg.hn], by rw [hst 0 (Nat.zero_le _), off_zero]; rfl, by rw [hg.sn, Nat.add_sub_cancel, hst n (Nat.le_refl _), hg.hn], fun v hv => ?_⟩, fun v i hv h1 h2 => ?_⟩
  · rw [hg.sn] at hv
    rw [hst v (by omega), hst (v + 1) (by omega)]
    have := off_succ (M := M) (j := v) (by omega)
    omega
  · rw [hg.sn] at hv
    rw [hst v (by omega)] at h1
    rw [hst (v + 1) (by omega)] at h2
    have hs := off_succ (M := M) (j := v) (by omega)
    obtain ⟨t, rfl⟩ : ∃ t, i = off M v + t := ⟨i - off M v, by omega⟩
    have ht : t < (nth M v).length := by omega
    have hx := h.it v (by omega) _ (R.nth_mem ht)
    unfold okArc
    rw [hg.hl, hg.wl, hdM_nth hl (by omega) ht, wtM_nth hl (by omega) ht, hst v (by omega), hg.sn]
    refine ⟨hx.1, by omega, hx.2.2.1, hx.2.2.2, fun h3 => ?_⟩
    obtain ⟨q, rfl⟩ : ∃ q, t = q + 1 := ⟨t - 1, by omega⟩
    rw [show off M v + (q + 1) - 1 = off M v + q by omega, hdM_nth hl (by omega) (by omega)]
    have := List.pairwise_iff_getElem.1 (h.up v (by omega)) q (q + 1) (by omega) ht (by omega)
    rw [R.nth_eq (by omega), R.nth_eq ht]
    exact this
theorem Bks.leads (h : Bks n M) (hg : IsG n M g) {u w : Nat} (hu : u < n) : (acG g).leads u w ↔ ∃ x ∈ nth M u, x.at_ = (w : Nat) := by
  have hst : ∀ j, j ≤ n → (nth g.st.L j).toNat = off M j := fun j hj => by rw [hg.sl, stM_nth hj]; exact Int.toNat_natCast _
  have hl := h.len
  have hs := off_succ (M := M) (j := u) (by omega)
  have hS : (acG g).S u = off M u := hst u (by omega)
  have hS1 : (acG g).S (u + 1) = off M (u + 1) := hst (u + 1) (by omega)
  constructor
  · rintro ⟨i, ⟨h1, h2⟩, e⟩
    rw [hS] at h1
    rw [hS1] at h2
    obtain ⟨t, rfl⟩ : ∃ t, i = off M u + t := ⟨i - off M u, by omega⟩
    have ht : t < (nth M u).length := by omega
    have hx := h.it u hu _ (R.nth_mem ht)
    have e : (nth g.hd.L (off M u + t)).toNat = w := e
    rw [hg.hl, hdM_nth hl hu ht] at e
    exact ⟨_, R.nth_mem ht, by omega⟩
  · rintro ⟨x, hx, e⟩
    obtain ⟨t, ht, e2⟩ := List.getElem_of_mem hx
    refine ⟨off M u + t, ⟨by rw [hS]; omega, by rw [hS1]; omega⟩, ?_⟩
    show (nth g.hd.L (off M u + t)).toNat = w
    rw [hg.hl, hdM_nth hl hu ht, R.nth_eq ht, e2]
    omega
end
/-- The rows behind the first i arcs. -/
structure BkI (g : Gph) (n i : Nat) (M : List (List Item)) : Prop where
  len : M.length = n
  mem : ∀ j, j < n → ∀ x : Item, x ∈ nth M j ↔ ∃ v t : Nat, v < n ∧ (acG g).of v t ∧ t < i ∧ (acG g).H t = j ∧ x = ⟨nth g.wt.L t, (v : Nat)⟩
  up : ∀ j, j < n → (nth M j).Pairwise fun x y => x.at_ < y.at_
  cnt : off M n = i
theorem off_all : ∀ (M : List (List Item)) (j : Nat), M.length ≤ j → off M j = (M.map List.length).sum := fun M j h => by
  unfold off
  rw [List.take_of_length_le h]
theorem sum_set : ∀ (M : List (List Item)) (j : Nat) (x : Item), j < M.length → ((M.set j (nth M j ++ [x])).map List.length).sum = (M.map List.length).sum + 1
  | [], _, _, h => absurd h (Nat.not_lt_zero _)
  | l :: M, 0, x, _ => by
    show (List.map List.length ((l ++ [x]) :: M)).sum = (List.map List.length (l :: M)).sum + 1
    simp
    omega
  | l :: M, j + 1, x, h => by
    have h : j + 1 < M.length + 1 := h
    have := sum_set M j x (by omega)
    show (l.length :: ((M.set j (nth M j ++ [x])).map List.length)).sum = _
    rw [List.sum_cons, this, List.map_cons, List.sum_cons]
    omega
theorem nth_setR {M : List (List Item)} {j k : Nat} {l : List Item} (hj : j < M.length) : nth (M.set j l) k = if j = k then l else nth M k := by
  unfold R.nth
  rw [List.getD_eq_getElem?_getD, List.getD_eq_getElem?_getD, List.getElem?_set]
  by_cases e : j = k
  · subst e; rw [if_pos rfl, if_pos hj, if_pos rfl]; rfl
  · rw [if_neg e, if_neg e]
section
variable {g : Gph} {n i : Nat} {M : List (List Item)}
theorem nth_repN {n k : Nat} : nth (List.replicate n ([] : List Item)) k = [] := by
  unfold R.nth
  rw [List.getD_eq_getElem?_getD, List.getElem?_replicate]
  split <;> rfl
theorem sum_rep : ∀ n : Nat, ((List.replicate n ([] : List Item)).map List.length).sum = 0
  | 0 => rfl
  | n + 1 => by rw [List.replicate_succ, List.map_cons, List.sum_cons, sum_rep n]; rfl
theorem BkI.nil (g : Gph) (n : Nat) : BkI g n 0 (List.replicate n []) := by
  refine ⟨List.length_replicate .., fun j hj x => ?_, fun j hj => ?_, ?_⟩
  · rw [nth_repN]
    constructor
    · intro q; cases q
    · rintro ⟨_, t, _, _, q, _⟩
      exact absurd q (Nat.not_lt_zero _)
  · rw [nth_repN]; exact List.Pairwise.nil
  · rw [off_all _ _ (by rw [List.length_replicate]; exact Nat.le_refl _), sum_rep]
theorem BkI.add (h : BkI g n i M) (hm : MayG g) (hn : g.st.n - 1 = n) {v j : Nat} (hv : v < n) (hi : (acG g).of v i) (hj : (acG g).H i = j) (hjn : j < n) : BkI g n (i + 1) (M.set j (nth M j ++ [⟨nth g.wt.L i, (v : Nat)⟩])) := by
  have hI := acG_ok hm
  have hIn : (acG g).n = n := hn
  have hl := h.len
  have n1 := hm.n1
  refine ⟨by rw [List.length_set]; exact hl, fun k hk x => ?_, fun k hk => ?_, ?_⟩
  · rw [nth_setR (by omega)]
    split
    · rename_i e
      subst e
      rw [List.mem_append, List.mem_singleton, h.mem j hk]
      constructor
      · rintro (⟨a, t, q1, q2, q3, q4, q5⟩ | q)
        · exact ⟨a, t, q1, q2, by omega, q4, q5⟩
        · exact ⟨v, i, hv, hi, by omega, hj, q⟩
      · rintro ⟨a, t, q1, q2, q3, q4, q5⟩
        rcases Nat.lt_or_ge t i with c | c
        · exact .inl ⟨a, t, q1, q2, c, q4, q5⟩
        · have : t = i := by omega
          subst this
          have : a = v := hI.same (by rw [hIn]; exact q1) (by rw [hIn]; exact hv) q2 hi
          subst this
          exact .inr q5
    · rename_i e
      rw [h.mem k hk]
      constructor
      · rintro ⟨a, t, q1, q2, q3, q4, q5⟩
        exact ⟨a, t, q1, q2, by omega, q4, q5⟩
      · rintro ⟨a, t, q1, q2, q3, q4, q5⟩
        refine ⟨a, t, q1, q2, ?_, q4, q5⟩
        rcases Nat.lt_or_ge t i with c | c
        · exact c
        · have : t = i := by omega
          subst this
          exact absurd (hj.symm.trans q4) e
  · rw [nth_setR (by omega)]
    split
    · rename_i e
      subst e
      refine List.pairwise_append.2 ⟨h.up j hk, List.pairwise_singleton _ _, fun a ha b hb => ?_⟩
      rw [List.mem_singleton.1 hb]
      obtain ⟨u, t, q1, q2, q3, q4, rfl⟩ := (h.mem j hk a).1 ha
      show ((u : Nat) : Int) < ((v : Nat) : Int)
      rcases Nat.lt_trichotomy u v with c | c | c
      · omega
      · exfalso
        subst c
        have hlo := hm.lo (v := u) (by omega)
        have hhi := hm.lo (v := u + 1) (by omega)
        have a1 : (nth g.st.L u).toNat ≤ t := q2.1
        have a2 : i < (nth g.st.L (u + 1)).toNat := hi.2
        have b1 : (nth g.hd.L t).toNat = j := q4
        have b2 : (nth g.hd.L i).toNat = j := hj
        have := hm.rise (u := u) (a := t) (b := i) (by omega) (by omega) q3 (by omega)
        have g1 := (hm.arc u t (by omega) (by omega) (by omega)).1
        omega
      · exfalso
        have := hI.mono (u := v + 1) (v := u) (by omega) (by rw [hIn]; omega)
        have a1 := q2.1
        have a2 := hi.2
        omega
    · exact h.up k hk
  · rw [off_all _ _ (by rw [List.length_set]; omega), sum_set _ _ _ (by omega), ← off_all M n (by omega), h.cnt]
theorem BkI.bks (h : BkI g n g.hd.n M) (hm : MayG g) (hn : g.st.n - 1 = n) : Bks n M := by
  have n1 := hm.n1
  refine ⟨h.len, fun j hj x hx => ?_, h.up⟩
  obtain ⟨v, t, q1, q2, q3, q4, rfl⟩ := (h.mem j hj x).1 hx
  have hlo := hm.lo (v := v) (by omega)
  have hlo1 := hm.lo (v := v + 1) (by omega)
  have a1 : (nth g.st.L v).toNat ≤ t := q2.1
  have a2 : t < (nth g.st.L (v + 1)).toNat := q2.2
  have g1 := hm.arc v t (by omega) (by omega) (by omega)
  exact ⟨by dsimp only; omega, by dsimp only; omega, g1.2.2.1, g1.2.2.2.1⟩
theorem BkI.leads (h : BkI g n g.hd.n M) (hm : MayG g) (hn : g.st.n - 1 = n) {b : Gph} (hb : IsG n M b) {u w : Nat} (hu : u < n) : (acG b).leads u w ↔ w < n ∧ (acG g).leads w u := by
  have hI := acG_ok hm
  have hIn : (acG g).n = n := hn
  rw [(h.bks hm hn).leads hb hu]
  constructor
  · rintro ⟨x, hx, e⟩
    obtain ⟨v, t, q1, q2, q3, q4, rfl⟩ := (h.mem u hu x).1 hx
    have e : ((v : Nat) : Int) = (w : Nat) := e
    have : v = w := by omega
    subst this
    exact ⟨q1, t, q2, q4⟩
  · rintro ⟨hw, t, ht, e⟩
    exact ⟨_, (h.mem u hu ⟨nth g.wt.L t, (w : Nat)⟩).2 ⟨w, t, hw, ht, hI.lt (by rw [hIn]; exact hw) ht, e, rfl⟩, rfl⟩
theorem BkI.arc (h : BkI g n g.hd.n M) (hm : MayG g) (hn : g.st.n - 1 = n) {b : Gph} (hb : IsG n M b) {u w : Nat} : (acG b).arc u w ↔ (acG g).arc w u := by
  have hI := acG_ok hm
  have hIn : (acG g).n = n := hn
  have hbn : (acG b).n = n := by show b.st.n - 1 = n; rw [hb.sn]; rfl
  unfold Ac.arc
  rw [hIn, hbn]
  constructor
  · rintro ⟨hu, q⟩
    exact (h.leads hm hn hb hu).1 q
  · rintro ⟨hw, q⟩
    have hu : u < n := by
      obtain ⟨t, ht, e⟩ := q
      have := hI.hd t (hI.lt (by rw [hIn]; exact hw) ht)
      omega
    exact ⟨hu, (h.leads hm hn hb hu).2 ⟨hw, q⟩⟩
end
end Go.Proofs.Ytegbidklcaccjaa
