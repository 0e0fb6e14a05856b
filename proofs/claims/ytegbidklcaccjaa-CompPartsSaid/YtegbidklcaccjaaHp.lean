/- A heap as a list with the place of each: the plain law. -/
import Derived.Test.YtegbidklcaccjaaMp
namespace Go.Proofs.Ytegbidklcaccjaa
open R (In64 InU64 lo64 nth)

def ltP (a b : Item) : Prop := a.key < b.key ∨ a.key = b.key ∧ a.at_ < b.at_
instance (a b : Item) : Decidable (ltP a b) := by unfold ltP; infer_instance
theorem ltP_irr (a : Item) : ¬ ltP a a := by unfold ltP; omega
theorem ltP_asym {a b : Item} (h : ltP a b) : ¬ ltP b a := by unfold ltP at *; omega
theorem leP_trans {a b c : Item} (h1 : ¬ ltP b a) (h2 : ¬ ltP c b) : ¬ ltP c a := by unfold ltP at *; omega
theorem ltP_leP {a b c : Item} (h1 : ltP a b) (h2 : ¬ ltP c b) : ¬ ltP c a := by unfold ltP at *; omega
theorem leP_anti {a b : Item} (h1 : ¬ ltP a b) (h2 : ¬ ltP b a) : a.key = b.key ∧ a.at_ = b.at_ := by unfold ltP at *; omega
/-- Two items change places. -/
def swapL (L : List Item) (i k : Nat) : List Item := (L.set i (nth L k)).set k (nth L i)
def swI (i k j : Nat) : Nat := if j = k then i else if j = i then k else j
theorem swI_swI (i k j : Nat) : swI i k (swI i k j) = j := by unfold swI; split <;> split <;> (try split) <;> omega
theorem swI_lt {i k j n : Nat} (hi : i < n) (hk : k < n) (hj : j < n) : swI i k j < n := by unfold swI; split <;> (try split) <;> omega
theorem swapL_len (L : List Item) (i k : Nat) : (swapL L i k).length = L.length := by simp [swapL]
theorem nth_set {L : List Item} {i j : Nat} {x : Item} (hj : j < L.length) : nth (L.set i x) j = if i = j then x else nth L j := by
  rw [R.nth_eq (by simpa using hj), List.getElem_set]
  split
  · rfl
  · rw [R.nth_eq hj]
theorem nth_swapL {L : List Item} {i k j : Nat} (hj : j < L.length) : nth (swapL L i k) j = nth L (swI i k j) := by
  unfold swapL swI
  rw [nth_set (by simpa using hj), nth_set hj]
  by_cases h1 : k = j
  · rw [if_pos h1, if_pos h1.symm]
  · rw [if_neg h1, if_neg (Ne.symm h1)]
    by_cases h2 : i = j
    · rw [if_pos h2, if_pos h2.symm]
    · rw [if_neg h2, if_neg (Ne.symm h2)]
theorem mem_nth {L : List Item} {x : Item} : x ∈ L ↔ ∃ j, j < L.length ∧ nth L j = x := by
  constructor
  · intro h
    obtain ⟨j, hj, e⟩ := List.getElem_of_mem h
    exact ⟨j, hj, by rw [R.nth_eq hj]; exact e⟩
  · rintro ⟨j, hj, rfl⟩
    exact R.nth_mem hj
theorem mem_swapL {L : List Item} {i k : Nat} (hi : i < L.length) (hk : k < L.length) (x : Item) : x ∈ swapL L i k ↔ x ∈ L := by
  rw [mem_nth, mem_nth, swapL_len]
  constructor
  · rintro ⟨j, hj, h⟩
    exact ⟨swI i k j, swI_lt hi hk hj, by rw [← nth_swapL hj]; exact h⟩
  · rintro ⟨j, hj, h⟩
    exact ⟨swI i k j, swI_lt hi hk hj, by rw [nth_swapL (swI_lt hi hk hj), swI_swI]; exact h⟩
/-- The map tells each item's place. -/
def MapOk (L : List Item) (m : Int → Option Int) : Prop := (∀ j, j < L.length → m (nth L j).at_ = some ((j : Nat) : Int)) ∧ ∀ a v, m a = some v → ∃ j, j < L.length ∧ v = (j : Nat) ∧ (nth L j).at_ = a
theorem MapOk.inj {L : List Item} {m : Int → Option Int} (h : MapOk L m) {i j : Nat} (hi : i < L.length) (hj : j < L.length) (e : (nth L i).at_ = (nth L j).at_) : i = j := by
  have h1 := h.1 i hi
  rw [e, h.1 j hj] at h1
  injection h1 with h1
  omega
theorem MapOk.swap {L : List Item} {m : Int → Option Int} (h : MapOk L m) {i k : Nat} (hi : i < L.length) (hk : k < L.length) : MapOk (swapL L i k) (R.putM (R.putM m (nth (swapL L i k) i).at_ (i : Nat)) (nth (swapL L i k) k).at_ (k : Nat)) := by
  have inj : ∀ p q, p < L.length → q < L.length → (nth (swapL L i k) p).at_ = (nth (swapL L i k) q).at_ → p = q := fun p q hp hq e => by
    rw [nth_swapL hp, nth_swapL hq] at e
    have := h.inj (swI_lt hi hk hp) (swI_lt hi hk hq) e
    rw [← swI_swI i k p, this, swI_swI]
  constructor
  · intro j hj
    rw [swapL_len] at hj
    by_cases h1 : (nth (swapL L i k) j).at_ = (nth (swapL L i k) k).at_
    · rw [h1, R.putM_same, inj j k hj hk h1]
    · rw [R.putM_ne h1]
      by_cases h2 : (nth (swapL L i k) j).at_ = (nth (swapL L i k) i).at_
      · rw [h2, R.putM_same, inj j i hj hi h2]
      · rw [R.putM_ne h2, nth_swapL hj]
        have e : swI i k j = j := by
          unfold swI
          rw [if_neg (fun c => h1 (by rw [c])), if_neg (fun c => h2 (by rw [c]))]
        rw [e]
        exact h.1 j hj
  · intro a v hv
    rw [swapL_len]
    by_cases h1 : a = (nth (swapL L i k) k).at_
    · rw [h1, R.putM_same] at hv
      exact ⟨k, hk, by injection hv with hv; exact hv.symm, h1.symm⟩
    · rw [R.putM_ne h1] at hv
      by_cases h2 : a = (nth (swapL L i k) i).at_
      · rw [h2, R.putM_same] at hv
        exact ⟨i, hi, by injection hv with hv; exact hv.symm, h2.symm⟩
      · rw [R.putM_ne h2] at hv
        obtain ⟨j, hj, e1, e2⟩ := h.2 a v hv
        refine ⟨j, hj, e1, ?_⟩
        have e : swI i k j = j := by
          unfold swI
          rw [if_neg (fun c => h2 (by rw [nth_swapL hi, ← e2, c]; unfold swI; split; rename_i c2; rw [c2]; rw [if_pos rfl])), if_neg (fun c => h1 (by rw [nth_swapL hk, ← e2, c]; unfold swI; rw [if_pos rfl]))]
        rw [nth_swapL hj, e]
        exact e2
def par (j : Nat) : Nat := (j - 1) / 2
/-- The order of a heap; .. but for one place. -/
def HO (L : List Item) : Prop := ∀ j, 0 < j → j < L.length → ¬ ltP (nth L j) (nth L (par j))
def Bk (L : List Item) (i : Nat) : Prop := (∀ j, 0 < j → j < L.length → j ≠ i → par j ≠ i → ¬ ltP (nth L j) (nth L (par j))) ∧ ∀ j, 0 < j → j < L.length → par j = i → 0 < i → ¬ ltP (nth L j) (nth L (par i))
def Up (L : List Item) (i : Nat) : Prop := 0 < i → ¬ ltP (nth L i) (nth L (par i))
theorem HO.bk {L : List Item} (h : HO L) (i : Nat) : Bk L i := ⟨fun j h0 h1 _ _ => h j h0 h1, fun j h0 h1 h2 h3 => by
  have a1 := h j h0 h1
  have a2 := h i h3 (by unfold par at h2; omega)
  rw [h2] at a1
  exact leP_trans a2 a1⟩
theorem HO.set {L : List Item} (h : HO L) (i : Nat) (x : Item) : Bk (L.set i x) i := by
  have hb := h.bk i
  constructor
  · intro j h0 h1 h2 h3
    rw [List.length_set] at h1
    rw [nth_set h1, if_neg (Ne.symm h2), nth_set (by unfold par; omega), if_neg (Ne.symm h3)]
    exact hb.1 j h0 h1 h2 h3
  · intro j h0 h1 h2 h3
    rw [List.length_set] at h1
    rw [nth_set h1, if_neg (by unfold par at h2; omega), nth_set (by unfold par at *; omega), if_neg (by unfold par; omega)]
    exact hb.2 j h0 h1 h2 h3
theorem nth_app {L : List Item} {x : Item} {j : Nat} (hj : j < L.length) : nth (L ++ [x]) j = nth L j := by
  rw [R.nth_eq (by simp; omega), List.getElem_append_left hj, R.nth_eq hj]
theorem nth_last {L : List Item} {x : Item} : nth (L ++ [x]) L.length = x := by
  rw [R.nth_eq (by simp), List.getElem_append_right (Nat.le_refl _)]
  simp
theorem HO.app {L : List Item} (h : HO L) (x : Item) : Bk (L ++ [x]) L.length := by
  constructor
  · intro j h0 h1 h2 h3
    rw [List.length_append, List.length_singleton] at h1
    rw [nth_app (by omega), nth_app (by unfold par; omega)]
    exact h j h0 (by omega)
  · intro j h0 h1 h2 h3
    rw [List.length_append, List.length_singleton] at h1
    unfold par at h2
    omega
theorem swI_ne {i k j : Nat} (h1 : j ≠ i) (h2 : j ≠ k) : swI i k j = j := by unfold swI; rw [if_neg h2, if_neg h1]
theorem swI_l (i k : Nat) : swI i k i = k := by unfold swI; split; rename_i h; exact h; rw [if_pos rfl]
theorem swI_r (i k : Nat) : swI i k k = i := by unfold swI; rw [if_pos rfl]
/-- An item rises a step. -/
theorem Bk.up {L : List Item} {i : Nat} (h : Bk L i) (hi : i < L.length) (h0 : 0 < i) (_hl : ltP (nth L i) (nth L (par i))) : Bk (swapL L i (par i)) (par i) := by
  have hp : par i < i := by unfold par; omega
  constructor
  · intro j j0 j1 j2 j3
    rw [swapL_len] at j1
    have pj : par j < L.length := by unfold par; omega
    rw [nth_swapL j1, nth_swapL pj]
    by_cases e : par j = i
    · rw [e, swI_l, swI_ne (by unfold par at e; omega) j2]
      exact h.2 j j0 j1 e h0
    · have ji : j ≠ i := fun c => j3 (by rw [c])
      rw [swI_ne ji j2, swI_ne e j3]
      exact h.1 j j0 j1 ji e
  · intro j j0 j1 j2 j3
    rw [swapL_len] at j1
    have pp : par (par i) < par i := by unfold par at *; omega
    have a1 := h.1 (par i) j3 (by omega) (by omega) (by omega)
    rw [nth_swapL j1, nth_swapL (by omega), swI_ne (i := i) (k := par i) (j := par (par i)) (by omega) (by omega)]
    by_cases e : j = i
    · rw [e, swI_l]
      exact a1
    · have jp : j ≠ par i := by unfold par at j2 ⊢; omega
      rw [swI_ne e jp]
      have a2 := h.1 j j0 j1 e (by rw [j2]; omega)
      rw [j2] at a2
      exact leP_trans a1 a2
/-- An item sinks a step. -/
theorem Bk.down {L : List Item} {i c : Nat} (h : Bk L i) (hc : c < L.length) (hci : par c = i) (h0 : 0 < c) (hl : ltP (nth L c) (nth L i)) (hmin : ∀ j, 0 < j → j < L.length → par j = i → ¬ ltP (nth L j) (nth L c)) : Bk (swapL L i c) c ∧ Up (swapL L i c) c := by
  have hic : i < c := by unfold par at hci; omega
  refine ⟨⟨?_, ?_⟩, ?_⟩
  · intro j j0 j1 j2 j3
    rw [swapL_len] at j1
    have pj : par j < L.length := by unfold par; omega
    rw [nth_swapL j1, nth_swapL pj]
    by_cases e : par j = i
    · have ji : j ≠ i := by unfold par at e; omega
      rw [e, swI_l, swI_ne ji j2]
      exact hmin j j0 j1 e
    · by_cases ji : j = i
      · rw [ji, swI_l, swI_ne (by unfold par; omega) (by unfold par; omega)]
        exact h.2 c h0 hc hci (by omega)
      · rw [swI_ne ji j2, swI_ne e j3]
        exact h.1 j j0 j1 ji e
  · intro j j0 j1 j2 j3
    rw [swapL_len] at j1
    have jc : c < j := by unfold par at j2; omega
    rw [nth_swapL j1, hci, nth_swapL (by omega), swI_l, swI_ne (by omega) (by omega)]
    have := h.1 j j0 j1 (by omega) (by omega)
    rwa [j2] at this
  · intro _
    rw [nth_swapL hc, hci, nth_swapL (by omega), swI_r, swI_l]
    exact ltP_asym hl
theorem Bk.done {L : List Item} {i : Nat} (h : Bk L i) (hu : Up L i) (hmin : ∀ j, 0 < j → j < L.length → par j = i → ¬ ltP (nth L j) (nth L i)) : HO L := fun j j0 j1 => by
  by_cases e : par j = i
  · rw [e]; exact hmin j j0 j1 e
  · by_cases ji : j = i
    · subst ji; exact hu j0
    · exact h.1 j j0 j1 ji e
theorem HO.root {L : List Item} (h : HO L) : ∀ j, j < L.length → ¬ ltP (nth L j) (nth L 0)
  | 0, _ => ltP_irr _
  | j + 1, hj => by
    have h1 := h (j + 1) (by omega) hj
    have h2 := HO.root h (par (j + 1)) (by unfold par; omega)
    exact leP_trans h2 h1
  termination_by j => j
  decreasing_by unfold par; omega
/-- Which items there are. -/
def Holds2 (L : List Item) (κ : Int → Option Int) : Prop := ∀ x : Item, x ∈ L ↔ κ x.at_ = some x.key
structure HeapOk (L : List Item) (m κ : Int → Option Int) : Prop where
  map : MapOk L m
  ord : HO L
  has : Holds2 L κ
theorem HeapOk.there {L : List Item} {m κ : Int → Option Int} (h : HeapOk L m κ) {a v : Int} (hm : m a = some v) : ∃ j, j < L.length ∧ v = (j : Nat) ∧ (nth L j).at_ = a ∧ κ a = some (nth L j).key := by
  obtain ⟨j, hj, e1, e2⟩ := h.map.2 a v hm
  refine ⟨j, hj, e1, e2, ?_⟩
  have := (h.has (nth L j)).1 (R.nth_mem hj)
  rwa [e2] at this
theorem HeapOk.none {L : List Item} {m κ : Int → Option Int} (h : HeapOk L m κ) {a : Int} (hm : m a = none) : κ a = none := by
  cases hk : κ a with
  | none => rfl
  | some k =>
    exfalso
    have hmem : (⟨k, a⟩ : Item) ∈ L := (h.has ⟨k, a⟩).2 hk
    obtain ⟨j, hj, e⟩ := mem_nth.1 hmem
    have := h.map.1 j hj
    rw [e, hm] at this
    cases this
end Go.Proofs.Ytegbidklcaccjaa
