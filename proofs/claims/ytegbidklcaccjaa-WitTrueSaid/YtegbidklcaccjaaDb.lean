/- Least ways by going on till nothing is less: the plain law. -/
import Derived.Test.YtegbidklcaccjaaDp
namespace Go.Proofs.Ytegbidklcaccjaa
open R (In64 InU64 lo64 nth)
/-- Costs as they are lessened, round by round: beside the least ones. -/
structure Bf (I : Ins) (D P : List Int) (S : List Nat) (B : List Int) (t r x j : Nat) : Prop where
  bl : B.length = I.n
  bd : ∀ v, v < I.n → nth B v = 4611686018427387904 ∨ (0 ≤ nth B v ∧ nth B v ≤ 1152921504606846976 + t * 2147483648)
  ge : ∀ v, v < I.n → nth D v ≤ nth B v
  ps : ∀ v, v < I.n → nth D v < 4611686018427387904 → nth P v = -1 → nth B v ≤ nth D v
  pr : ∀ v, v < I.n → nth D v < 4611686018427387904 → S.idxOf v < r → nth B v ≤ nth D v
  pg : ∀ v, v < I.n → nth D v < 4611686018427387904 → S.idxOf v = r → ∀ u i, u ∈ S → I.S u ≤ i → i < I.S (u + 1) → I.H i = v → nth D v = nth D u + I.W i → S.idxOf u < S.idxOf v → (u < x ∨ u = x ∧ i < j) → nth B v ≤ nth D v
def rlx (I : Ins) (B : List Int) (v : Nat) (c : Int) : List Int := if I.op v = true ∧ c < nth B v then B.set v c else B
section
variable {I : Ins} {D P : List Int} {S : List Nat} {B : List Int} {t r x j : Nat}
theorem Bf.relax (h : Bf I D P S B t r x j) (hL : Least I D P S) (hI : I.Ok) (hx : x < I.n) (hf : nth B x < 4611686018427387904) (h1 : I.S x ≤ j) (h2 : j < I.S (x + 1)) : Bf I D P S (rlx I B (I.H j) (nth B x + I.W j)) (t + 1) r x (j + 1) ∧ nth (rlx I B (I.H j) (nth B x + I.W j)) x = nth B x := by
  obtain ⟨hv, w0, w1⟩ := hI.hd x j hx h1 h2
  have hbx := h.bd x hx
  have hgx := h.ge x hx
  unfold rlx
  by_cases hc : I.op (I.H j) = true ∧ nth B x + I.W j < nth B (I.H j)
  · rw [if_pos hc]
    have hB : ∀ w, nth (B.set (I.H j) (nth B x + I.W j)) w = if I.H j = w then nth B x + I.W j else nth B w := fun w => nth_put (by rw [h.bl]; exact hv)
    have hle : ∀ w, nth (B.set (I.H j) (nth B x + I.W j)) w ≤ nth B w := fun w => by
      rw [hB]
      split
      · rename_i e; rw [← e]; omega
      · exact Int.le_refl _
    refine ⟨⟨by rw [List.length_set]; exact h.bl, fun w hw => ?_, fun w hw => ?_, fun w hw hd hp => Int.le_trans (hle w) (h.ps w hw hd hp), fun w hw hd hp => Int.le_trans (hle w) (h.pr w hw hd hp), fun w hw hd hr u i q1 q3 q4 q5 q6 q7 q8 => ?_⟩, ?_⟩
    · rw [hB]
      split
      · omega
      · have := h.bd w hw
        omega
    · rw [hB]
      split
      · rename_i e
        have := hL.cl x hx (by omega) j h1 h2 hc.1
        rw [e] at this
        omega
      · exact h.ge w hw
    · by_cases e : u = x ∧ i = j
      · obtain ⟨rfl, rfl⟩ := e
        have := h.pr u hx (by omega) (by omega)
        rw [hB, if_pos q5]
        omega
      · refine Int.le_trans (hle w) (h.pg w hw hd hr u i q1 q3 q4 q5 q6 q7 ?_)
        rcases q8 with q8 | ⟨q8, q9⟩
        · exact .inl q8
        · have : i ≠ j := fun q => e ⟨q8, q⟩
          exact .inr ⟨q8, by omega⟩
    · rw [hB]
      split
      · rename_i e
        rw [e] at hc
        omega
      · rfl
  · rw [if_neg hc]
    refine ⟨⟨h.bl, fun w hw => ?_, h.ge, h.ps, h.pr, fun w hw hd hr u i q1 q3 q4 q5 q6 q7 q8 => ?_⟩, rfl⟩
    · have := h.bd w hw
      omega
    · by_cases e : u = x ∧ i = j
      · obtain ⟨rfl, rfl⟩ := e
        have := h.pr u hx (by omega) (by omega)
        have ho := (hL.su w hw hd).1
        have : ¬ (nth B u + I.W i < nth B (I.H i)) := fun q => hc ⟨by rw [q5]; exact ho, q⟩
        rw [q5] at this
        omega
      · refine h.pg w hw hd hr u i q1 q3 q4 q5 q6 q7 ?_
        rcases q8 with q8 | ⟨q8, q9⟩
        · exact .inl q8
        · have : i ≠ j := fun q => e ⟨q8, q⟩
          exact .inr ⟨q8, by omega⟩
theorem Bf.skip (h : Bf I D P S B t r x j) (hL : Least I D P S) (hx : x < I.n) (hf : ¬ nth B x < 4611686018427387904) {j' : Nat} (hj : j' ≤ I.S (x + 1)) : Bf I D P S B t r (x + 1) j' :=
  ⟨h.bl, h.bd, h.ge, h.ps, h.pr, fun w hw hd hr u i q1 q3 q4 q5 q6 q7 q8 => by
    have hu := (hL.fi u).1 q1
    by_cases e : u = x
    · rw [e] at hu q7
      have := h.pr x hx hu.2 (by omega)
      omega
    · refine h.pg w hw hd hr u i q1 q3 q4 q5 q6 q7 ?_
      rcases q8 with q8 | ⟨q8, q9⟩
      · exact .inl (by omega)
      · rw [q8] at q3
        omega⟩
theorem Bf.next (h : Bf I D P S B t r x j) (hj : I.S (x + 1) ≤ j) {j' : Nat} (hj' : j' ≤ I.S (x + 1)) : Bf I D P S B t r (x + 1) j' :=
  ⟨h.bl, h.bd, h.ge, h.ps, h.pr, fun w hw hd hr u i q1 q3 q4 q5 q6 q7 q8 => by
    refine h.pg w hw hd hr u i q1 q3 q4 q5 q6 q7 ?_
    rcases q8 with q8 | ⟨q8, q9⟩
    · by_cases e : u = x
      · rw [e] at q4
        exact .inr ⟨e, by omega⟩
      · exact .inl (by omega)
    · rw [q8] at q3
      omega⟩
theorem Bf.round (h : Bf I D P S B t r I.n j) (hL : Least I D P S) {j' : Nat} (hj' : j' ≤ I.S 0) : Bf I D P S B t (r + 1) 0 j' :=
  ⟨h.bl, h.bd, h.ge, h.ps, fun v hv hd hr => by
    rcases Nat.lt_or_ge (S.idxOf v) r with c | c
    · exact h.pr v hv hd c
    · rcases (hL.su v hv hd).2 with ⟨q1, _⟩ | ⟨u, i, q1, q2, q3, q4, q5, q6, q7⟩
      · exact h.ps v hv hd q1
      · exact h.pg v hv hd (by omega) u i q1 q3 q4 q5 q6 q7 (.inl ((hL.fi u).1 q1).1), fun w hw hd hr u i q1 q3 q4 q5 q6 q7 q8 => by
    rcases q8 with q8 | ⟨q8, q9⟩
    · exact absurd q8 (Nat.not_lt_zero _)
    · rw [q8] at q3
      omega⟩
theorem Bf.done (h : Bf I D P S B t r x j) (hL : Least I D P S) (hr : I.n ≤ r) (ht : t ≤ 1000000) : B = D := by
  refine List.ext_getElem (by rw [hL.dl, h.bl]) fun i h1 h2 => ?_
  have hi : i < I.n := by rw [← h.bl]; exact h1
  rw [← R.nth_eq h1, ← R.nth_eq h2]
  have h3 := h.ge i hi
  rcases Classical.em (nth D i < 4611686018427387904) with c | c
  · have hm := (hL.fi i).2 ⟨hi, c⟩
    have hl := nodup_le hL.nd fun u hu => ((hL.fi u).1 hu).1
    have := h.pr i hi c (by have := List.idxOf_lt_length_iff.2 hm; omega)
    omega
  · have h4 := hL.bd i hi
    have h5 := h.bd i hi
    omega
/-- The starts. -/
structure Bs (I : Ins) (D : List Int) (B : List Int) (m : Nat) : Prop where
  bl : B.length = I.n
  bd : ∀ v, v < I.n → nth B v = 4611686018427387904 ∨ (0 ≤ nth B v ∧ nth B v ≤ 1152921504606846976)
  ge : ∀ v, v < I.n → nth D v ≤ nth B v
  sa : ∀ s ∈ I.st.take m, I.op s.1 = true → nth B s.1 ≤ s.2
theorem Bs.step {m : Nat} (h : Bs I D B m) (hL : Least I D P S) (hI : I.Ok) {s : Nat × Int} (hs : I.st[m]? = some s) : Bs I D (rlx I B s.1 s.2) (m + 1) := by
  have hm := List.mem_of_getElem? hs
  obtain ⟨hv, h0, h1⟩ := hI.sk s hm
  have htk : I.st.take (m + 1) = I.st.take m ++ [s] := by rw [List.take_add_one, hs]; rfl
  unfold rlx
  by_cases hc : I.op s.1 = true ∧ s.2 < nth B s.1
  · rw [if_pos hc]
    have hB : ∀ w, nth (B.set s.1 s.2) w = if s.1 = w then s.2 else nth B w := fun w => nth_put (by rw [h.bl]; exact hv)
    have hle : ∀ w, nth (B.set s.1 s.2) w ≤ nth B w := fun w => by
      rw [hB]
      split
      · rename_i e; rw [← e]; omega
      · exact Int.le_refl _
    refine ⟨by rw [List.length_set]; exact h.bl, fun w hw => ?_, fun w hw => ?_, fun q hq ho => ?_⟩
    · rw [hB]
      split
      · exact .inr ⟨h0, h1⟩
      · exact h.bd w hw
    · rw [hB]
      split
      · rename_i e
        have := hL.sa s hm hc.1
        rw [← e]
        exact this
      · exact h.ge w hw
    · rw [htk] at hq
      rcases List.mem_append.1 hq with q1 | q1
      · exact Int.le_trans (hle _) (h.sa q q1 ho)
      · rw [List.mem_singleton.1 q1, hB, if_pos rfl]
        exact Int.le_refl _
  · rw [if_neg hc]
    refine ⟨h.bl, h.bd, h.ge, fun q hq ho => ?_⟩
    rw [htk] at hq
    rcases List.mem_append.1 hq with q1 | q1
    · exact h.sa q q1 ho
    · rw [List.mem_singleton.1 q1] at ho ⊢
      have : ¬ (s.2 < nth B s.1) := fun q => hc ⟨ho, q⟩
      omega
theorem Bs.bf (h : Bs I D B I.st.length) (hL : Least I D P S) {j : Nat} : Bf I D P S B 0 0 0 j :=
  ⟨h.bl, fun v hv => by have := h.bd v hv; omega, h.ge, fun v hv hd hp => by
    obtain ⟨q1, q2⟩ := hL.su v hv hd
    rcases q2 with ⟨_, q2⟩ | ⟨u, i, _, q2, _⟩
    · exact h.sa _ (by rw [List.take_length]; exact q2) q1
    · omega, fun v _ _ h => absurd h (Nat.not_lt_zero _), fun w hw hd hr u i q1 q3 q4 q5 q6 q7 q8 => by omega⟩
end
/-- How many are less. -/
def lessN (L : List Int) (n : Int) : Nat := L.countP fun c => decide (c < n)
theorem lessN_eq (L : List Int) (n : Int) : lessN L n = ((List.range L.length).filter fun i => decide (nth L i < n)).length := by
  have e : L = (List.range L.length).map (nth L) := by
    refine List.ext_getElem (by simp) fun i h1 h2 => ?_
    rw [List.getElem_map, List.getElem_range, R.nth_eq h1]
  unfold lessN
  rw [List.countP_eq_length_filter]
  conv => lhs; rw [e]
  rw [List.filter_map, List.length_map]
  rfl
theorem range_nodup (n : Nat) : (List.range n).Nodup := List.nodup_range
theorem lessN_le {L : List Int} {n : Int} {S : List Nat} (h : ∀ v, v < L.length → nth L v < n → v ∈ S) : lessN L n ≤ S.length := by
  rw [lessN_eq]
  refine ((range_nodup _).sublist List.filter_sublist).length_le_of_subset fun v hv => ?_
  obtain ⟨h1, h2⟩ := List.mem_filter.1 hv
  exact h v (List.mem_range.1 h1) (of_decide_eq_true h2)
theorem le_lessN {L : List Int} {n : Int} {S : List Nat} (hn : S.Nodup) (h : ∀ v ∈ S, v < L.length ∧ nth L v < n) : S.length ≤ lessN L n := by
  rw [lessN_eq]
  refine hn.length_le_of_subset fun v hv => ?_
  exact List.mem_filter.2 ⟨List.mem_range.2 (h v hv).1, decide_eq_true (h v hv).2⟩
end Go.Proofs.Ytegbidklcaccjaa
