/- A net in numbers: the plain law of degrees, counts, weights, and of the heaviest edge. -/
import Derived.Test.YtoainfnhmdcpoaaBw
namespace Go.Proofs.Ytoainfnhmdcpoaa
open R (In64 InU64 lo64 nth)
/-- At how many of the first k edges a node ends. -/
def cntE (E : List Ed) (v : Nat) : Nat → Nat
  | 0 => 0
  | k + 1 => cntE E v k + if (nth E k).a = (v : Nat) ∨ (nth E k).b = (v : Nat) then 1 else 0
def degL (E : List Ed) (m k : Nat) : List Int := (List.range m).map fun v => ((cntE E v k : Nat) : Int)
theorem cntE_le (E : List Ed) (v : Nat) : ∀ k, cntE E v k ≤ k
  | 0 => Nat.le_refl _
  | k + 1 => by
    have := cntE_le E v k
    unfold cntE
    split <;> omega
theorem degL_len (E : List Ed) (m k : Nat) : (degL E m k).length = m := by simp [degL]
theorem degL_nth {E : List Ed} {m k v : Nat} (h : v < m) : nth (degL E m k) v = ((cntE E v k : Nat) : Int) := by
  rw [R.nth_eq (by rw [degL_len]; exact h)]
  simp [degL]
theorem degL_zero (E : List Ed) (m : Nat) : degL E m 0 = List.replicate m 0 := by
  refine List.ext_getElem (by simp [degL]) fun i h1 h2 => ?_
  simp [degL, cntE]
theorem nth_setI {L : List Int} {v u : Nat} {x : Int} (hv : v < L.length) : nth (L.set v x) u = if v = u then x else nth L u := by
  unfold R.nth
  rw [List.getD_eq_getElem?_getD, List.getD_eq_getElem?_getD, List.getElem?_set]
  by_cases e : v = u
  · subst e; rw [if_pos rfl, if_pos hv, if_pos rfl]; rfl
  · rw [if_neg e, if_neg e]
theorem list_eqI {L L' : List Int} (hl : L.length = L'.length) (h : ∀ i, i < L.length → nth L i = nth L' i) : L = L' := List.ext_getElem hl fun i h1 h2 => by
  have := h i h1
  rwa [R.nth_eq h1, R.nth_eq h2] at this
theorem degL_succ {E : List Ed} {m k a b : Nat} (ha : (nth E k).a = (a : Nat)) (hb : (nth E k).b = (b : Nat)) (hab : a ≠ b) (ham : a < m) (hbm : b < m) : degL E m (k + 1) = ((degL E m k).set a (nth (degL E m k) a + 1)).set b (nth ((degL E m k).set a (nth (degL E m k) a + 1)) b + 1) := by
  refine list_eqI (by simp [degL]) fun v hv => ?_
  rw [degL_len] at hv
  rw [degL_nth hv, nth_setI (by rw [List.length_set, degL_len]; exact hbm), nth_setI (by rw [degL_len]; exact ham), nth_setI (by rw [degL_len]; exact ham), if_neg hab, degL_nth hv, degL_nth ham, degL_nth hbm]
  show (((cntE E v k + if (nth E k).a = (v : Nat) ∨ (nth E k).b = (v : Nat) then 1 else 0 : Nat)) : Int) = _
  rw [ha, hb]
  by_cases e1 : b = v
  · subst e1
    rw [if_pos (.inr rfl), if_pos rfl]
    omega
  · rw [if_neg e1]
    by_cases e2 : a = v
    · subst e2
      rw [if_pos (.inl rfl), if_pos rfl]
      omega
    · rw [if_neg e2, if_neg (by omega)]
      omega
theorem sum_setI : ∀ {L : List Int} {i : Nat} {x : Int}, i < L.length → (L.set i x).sum = L.sum + x - nth L i
  | [], _, _, h => absurd h (Nat.not_lt_zero _)
  | a :: L, 0, x, _ => by
    show (x :: L).sum = (a :: L).sum + x - a
    rw [List.sum_cons, List.sum_cons]
    omega
  | a :: L, i + 1, x, h => by
    have h : i + 1 < L.length + 1 := h
    have := sum_setI (L := L) (i := i) (x := x) (by omega)
    show (a :: L.set i x).sum = (a :: L).sum + x - nth L i
    rw [List.sum_cons, List.sum_cons, this]
    omega
theorem sum_rep0 : ∀ m : Nat, (List.replicate m (0 : Int)).sum = 0
  | 0 => rfl
  | m + 1 => by rw [List.replicate_succ, List.sum_cons, sum_rep0 m]; rfl
theorem degL_sum {E : List Ed} {m : Nat} : ∀ k, (∀ i, i < k → ∃ a b : Nat, (nth E i).a = (a : Nat) ∧ (nth E i).b = (b : Nat) ∧ a ≠ b ∧ a < m ∧ b < m) → (degL E m k).sum = 2 * (k : Nat) := by
  intro k
  induction k with
  | zero => intro _; rw [degL_zero, sum_rep0]; rfl
  | succ k ih =>
    intro h
    have ih := ih fun i hi => h i (by omega)
    obtain ⟨a, b, h1, h2, h3, h4, h5⟩ := h k (by omega)
    rw [degL_succ h1 h2 h3 h4 h5, sum_setI (by rw [List.length_set, degL_len]; exact h5), sum_setI (by rw [degL_len]; exact h4), ih]
    omega
theorem sum_take {L : List Int} {k : Nat} (h : k < L.length) : (L.take (k + 1)).sum = (L.take k).sum + nth L k := by
  rw [List.take_succ_eq_append_getElem h, List.sum_append, R.nth_eq h]
  simp
/-- How many there are of each. -/
def ctN (L : List Int) (d : Int) : Nat → Nat
  | 0 => 0
  | k + 1 => ctN L d k + if nth L k = d then 1 else 0
def ctL (L : List Int) (m k : Nat) : List Int := (List.range m).map fun d => ((ctN L ((d : Nat) : Int) k : Nat) : Int)
theorem ctN_le (L : List Int) (d : Int) : ∀ k, ctN L d k ≤ k
  | 0 => Nat.le_refl _
  | k + 1 => by
    have := ctN_le L d k
    unfold ctN
    split <;> omega
theorem ctL_len (L : List Int) (m k : Nat) : (ctL L m k).length = m := by simp [ctL]
theorem ctL_nth {L : List Int} {m k d : Nat} (h : d < m) : nth (ctL L m k) d = ((ctN L ((d : Nat) : Int) k : Nat) : Int) := by
  rw [R.nth_eq (by rw [ctL_len]; exact h)]
  simp [ctL]
theorem ctL_zero (L : List Int) (m : Nat) : ctL L m 0 = List.replicate m 0 := by
  refine List.ext_getElem (by simp [ctL]) fun i h1 h2 => ?_
  simp [ctL, ctN]
theorem ctL_succ {L : List Int} {m k d : Nat} (hd : nth L k = (d : Nat)) (hm : d < m) : ctL L m (k + 1) = (ctL L m k).set d (nth (ctL L m k) d + 1) := by
  refine list_eqI (by simp [ctL]) fun v hv => ?_
  rw [ctL_len] at hv
  rw [ctL_nth hv, nth_setI (by rw [ctL_len]; exact hm), ctL_nth hv, ctL_nth hm]
  show (((ctN L ((v : Nat) : Int) k + if nth L k = ((v : Nat) : Int) then 1 else 0 : Nat)) : Int) = _
  rw [hd]
  by_cases e : d = v
  · subst e
    rw [if_pos rfl, if_pos rfl]
    omega
  · rw [if_neg (by omega), if_neg e]
    omega
theorem ctL_snoc (L : List Int) (m k : Nat) : ctL L (m + 1) k = ctL L m k ++ [((ctN L ((m : Nat) : Int) k : Nat) : Int)] := by
  unfold ctL
  rw [List.range_succ, List.map_append]
  rfl
/-- The greatest one. -/
def maxL (L : List Int) : Nat → Int
  | 0 => nth L 0
  | k + 1 => max (maxL L k) (nth L k)
theorem maxL_ge {L : List Int} {i : Nat} : ∀ {k : Nat}, i < k → nth L i ≤ maxL L k
  | 0, h => absurd h (Nat.not_lt_zero _)
  | k + 1, h => by
    show nth L i ≤ max (maxL L k) (nth L k)
    rcases Nat.lt_or_ge i k with c | c
    · have := maxL_ge (L := L) (i := i) (k := k) c
      omega
    · rw [show i = k by omega]
      omega
theorem maxL_in {L : List Int} : ∀ k : Nat, 0 < L.length → k ≤ L.length → ∃ i, i < L.length ∧ maxL L k = nth L i
  | 0, h, _ => ⟨0, h, rfl⟩
  | k + 1, h, hk => by
    obtain ⟨i, hi, e⟩ := maxL_in k h (by omega)
    show ∃ i, i < L.length ∧ max (maxL L k) (nth L k) = nth L i
    rcases Int.le_total (maxL L k) (nth L k) with c | c
    · exact ⟨k, by omega, by omega⟩
    · exact ⟨i, hi, by omega⟩
/-- Weights together, of all edges, and of those that go one way alone. -/
def wAll (E : List Ed) : Nat → Int
  | 0 => 0
  | k + 1 => wAll E k + (nth E k).w
def wOne (E : List Ed) : Nat → Int
  | 0 => 0
  | k + 1 => wOne E k + if (nth E k).f = (nth E k).k then 0 else (nth E k).w
theorem wAll_in {E : List Ed} : ∀ k, (∀ i, i < k → 0 ≤ (nth E i).w ∧ (nth E i).w ≤ 2147483648) → 0 ≤ wAll E k ∧ wAll E k ≤ 2147483648 * (k : Nat)
  | 0, _ => by simp [wAll]
  | k + 1, h => by
    have ih := wAll_in k fun i hi => h i (by omega)
    have := h k (by omega)
    unfold wAll
    omega
theorem wOne_in {E : List Ed} : ∀ k, (∀ i, i < k → 0 ≤ (nth E i).w ∧ (nth E i).w ≤ 2147483648) → 0 ≤ wOne E k ∧ wOne E k ≤ 2147483648 * (k : Nat)
  | 0, _ => by simp [wOne]
  | k + 1, h => by
    have ih := wOne_in k fun i hi => h i (by omega)
    have := h k (by omega)
    unfold wOne
    split <;> omega
/-- The first one of the heaviest of the first k edges. -/
def best (E : List Ed) : Nat → Nat
  | 0 => 0
  | k + 1 => if (nth E (best E k)).w < (nth E k).w then k else best E k
theorem best_lt (E : List Ed) : ∀ k, 0 < k → best E k < k
  | 0, h => absurd h (Nat.lt_irrefl _)
  | 1, _ => by
    show (if (nth E 0).w < (nth E 0).w then 0 else 0) < 1
    split <;> omega
  | k + 2, _ => by
    have := best_lt E (k + 1) (by omega)
    show (if (nth E (best E (k + 1))).w < (nth E (k + 1)).w then k + 1 else best E (k + 1)) < k + 2
    split <;> omega
end Go.Proofs.Ytoainfnhmdcpoaa
