/- Package roads: All, and the document's. -/
import Derived.Test.YtegbidklcaccjaaRoads3
namespace Go.Proofs.Ytegbidklcaccjaa
open Go.RowKit
open R (In64 InU64 lo64 nth)
theorem GRoad.now {W w : World} {l : List R.Res} {x : Road} (hM : R.Own [] W w l) (h : GRoad W x) : GRoad w x := ⟨h.1, ⟨R.Own.inpIn hM h.2.1.1, h.2.1.2.1, h.2.1.2.2.1, h.2.1.2.2.2⟩, ⟨R.Own.inpIn hM h.2.2.1.1, h.2.2.1.2.1, h.2.2.1.2.2.1, h.2.2.1.2.2.2⟩, h.2.2.2⟩
theorem errR_ok {x : Road} (h : errR x = 0) : 1 ≤ x.rank ∧ x.rank ≤ 1048576 ∧ 2 ≤ x.p.n ∧ x.p.n ≤ 100 ∧ x.q.n + 1 = x.p.n := by
  by_cases hf : x.rank < 1 ∨ 1048576 < x.rank ∨ x.p.n < 2 ∨ 100 < x.p.n ∨ x.q.n + 1 ≠ x.p.n
  · rw [errR_1 hf] at h
    cases h
  · omega
theorem errR_in (x : Road) : 0 ≤ errR x ∧ errR x ≤ 10 := by
  unfold errR
  split
  · omega
  · split
    · omega
    · split
      · omega
      · split <;> omega
/-- The first road that is not, and why. -/
noncomputable def firstErr : List Road → Int
  | [] => 0
  | x :: l => if errR x = 0 then firstErr l else errR x
theorem firstErr_0 {L : List Road} (h : ∀ x ∈ L, errR x = 0) : firstErr L = 0 := by
  induction L with
  | nil => rfl
  | cons x l ih =>
    unfold firstErr
    rw [if_pos (h x (.head _)), ih fun y hy => h y (.tail _ hy)]
theorem firstErr_at {L : List Road} {k : Nat} (hk : k < L.length) (h : ∀ j, j < k → errR (nth L j) = 0) (hn : errR (nth L k) ≠ 0) : firstErr L = errR (nth L k) := by
  induction L generalizing k with
  | nil => exact absurd hk (Nat.not_lt_zero _)
  | cons x l ih =>
    unfold firstErr
    cases k with
    | zero =>
      have hx : errR x ≠ 0 := hn
      rw [if_neg hx]
      rfl
    | succ k =>
      have hx : errR x = 0 := h 0 (Nat.succ_pos _)
      rw [if_pos hx]
      exact ih (Nat.lt_of_succ_lt_succ hk) (fun j hj => h (j + 1) (Nat.succ_lt_succ hj)) hn
theorem mem_nthR {L : List Road} {x : Road} (h : x ∈ L) : ∃ j, j < L.length ∧ nth L j = x := by
  obtain ⟨j, hj, rfl⟩ := List.getElem_of_mem h
  exact ⟨j, hj, by unfold nth; rw [List.getD_eq_getElem?_getD, List.getElem?_eq_getElem hj]; rfl⟩
def lineN : List Road → Nat
  | [] => 0
  | x :: l => x.q.n + lineN l
theorem lineN_app (a b : List Road) : lineN (a ++ b) = lineN a + lineN b := by
  induction a with
  | nil => simp [lineN]
  | cons x l ih =>
    simp only [List.cons_append, lineN, ih]
    omega
theorem lineN_snoc {L : List Road} {k : Nat} (hk : k < L.length) : lineN (L.take (k + 1)) = lineN (L.take k) + (nth L k).q.n := by
  rw [take_snoc hk, lineN_app]
  rfl
theorem snoc0 {L : List Road} {k : Nat} (h : ∀ j, j < k → errR (nth L j) = 0) (h0 : errR (nth L k) = 0) : ∀ j, j < k + 1 → errR (nth L j) = 0 := fun j hj => by
  rcases Nat.lt_succ_iff_lt_or_eq.1 hj with h1 | rfl
  · exact h j h1
  · exact h0
def Rises (L : List Road) (k : Nat) : Prop := ∀ j, j + 1 < k → (nth L j).rank < (nth L (j + 1)).rank
/-- What is wrong with roads. -/
noncomputable def errAll (L : List Road) : Int :=
  if 200 < L.length then 4 else if firstErr L ≠ 0 then firstErr L else if @decide (Rises L L.length) (Classical.propDecidable _) = false then 1 else if 400 < lineN L then 4 else 0
theorem errAll_4 {L : List Road} (h : 200 < L.length) : errAll L = 4 := by
  unfold errAll
  rw [if_pos h]
theorem errAll_f {L : List Road} (h : ¬ 200 < L.length) {k : Nat} (hk : k < L.length) (h0 : ∀ j, j < k → errR (nth L j) = 0) (hn : errR (nth L k) ≠ 0) : errAll L = errR (nth L k) := by
  unfold errAll
  rw [if_neg h, firstErr_at hk h0 hn, if_pos hn]
theorem errAll_1 {L : List Road} (h : ¬ 200 < L.length) (h0 : ∀ j, j < L.length → errR (nth L j) = 0) (hr : ¬ Rises L L.length) : errAll L = 1 := by
  unfold errAll
  rw [if_neg h, firstErr_0 (fun x hx => by obtain ⟨j, hj, rfl⟩ := mem_nthR hx; exact h0 j hj), if_neg (by decide), if_pos (@decide_eq_false _ (Classical.propDecidable _) hr)]
theorem errAll_5 {L : List Road} (h : ¬ 200 < L.length) (h0 : ∀ j, j < L.length → errR (nth L j) = 0) (hr : Rises L L.length) : errAll L = if 400 < lineN L then 4 else 0 := by
  unfold errAll
  rw [if_neg h, firstErr_0 (fun x hx => by obtain ⟨j, hj, rfl⟩ := mem_nthR hx; exact h0 j hj), if_neg (by decide), @decide_eq_true _ (Classical.propDecidable _) hr, if_neg (by decide)]
section
variable (A : Option Addr) (n c : Nat) (L : List Road) (w : World) (hA : R.Inp [] w A n 4 (L.flatMap cRoad)) (hn : n = L.length) (hb : n ≤ 1000000000) (hG : ∀ x ∈ L, GRoad w x)
include hA hn hb hG
set_option maxHeartbeats 1000000 in
theorem all_any : Calls Try.prog 79 #[.slice A n c] w fun e w' => e = .returned (.int .i64 (errAll L)) ∧ Below w.heap.size w w' := by
  have hM := R.Own.start [] w
  refine R.calls_of_WC (fn := Try.f79) Try.func79 rfl Try.ntmps79 (Nat.le_of_ble_eq_true rfl) ?_
  (refine R.step ?_; (repeat' (first | (with_reducible refine And.intro ?_ ?_) | (with_reducible intro _))); all_goals refine R.Lft.mk ?_)
  · exact ⟨by rw [errAll_4 (by omega)], R.Own.below R.ohm⟩
  have h200 : ¬ 200 < L.length := by omega
  refine R.WC_loop (fun k : Nat => [(0, .slice A n c), (2, .int .i64 0), (3, .int .i64 (lineN (L.take k) : Nat)), (4, .int .i64 0), (13, .slice A n c), (14, .int .i64 (n : Nat)), (15, .int .i64 (k : Nat))])
    (fun k w1 => k ≤ n ∧ R.Own [] w w1 [] ∧ lineN (L.take k) ≤ 100 * k ∧ ∀ j, j < k → errR (nth L j) = 0) (fun k => n - k) ⟨0, ⟨rfl, rfl, rfl, rfl, rfl, rfl, rfl, trivial⟩, Nat.zero_le _, hM, Nat.le_refl _, fun j hj => absurd hj (Nat.not_lt_zero _)⟩ ?_
  clear hM
  rintro k f w1 ⟨hk, hM, hl, hall⟩
  by_cases hlt : k < n
  · have hx := hG _ (R.nth_mem (L := L) (i := k) (by omega))
    have hsn := lineN_snoc (L := L) (k := k) (by omega)
    (refine R.step ?_; (repeat' (first | (with_reducible refine And.intro ?_ ?_) | (with_reducible intro _))); all_goals refine R.Lft.mk ?_)
    refine R.WO_call1 rfl rfl R.vv ?_
    refine (rcheck_any (nth L k) _ (GRoad.now R.ohm hx)).mono ?_
    rintro _ w2 ⟨rfl, hb2⟩
    have hM := R.Own.call R.ohm hb2
    refine ⟨_, rfl, ?_⟩
    by_cases he0 : errR (nth L k) ≠ 0
    · (refine R.step ?_; (repeat' (first | (with_reducible refine And.intro ?_ ?_) | (with_reducible intro _))); all_goals refine R.Lft.mk ?_)
      exact ⟨by rw [errAll_f h200 (by omega) hall he0], R.Own.below R.ohm⟩
    have he0 : errR (nth L k) = 0 := Decidable.not_not.1 he0
    have hok := errR_ok he0
    (refine R.step ?_; (repeat' (first | (with_reducible refine And.intro ?_ ?_) | (with_reducible intro _))); all_goals refine R.Lft.mk ?_)
    refine ⟨k + 1, ⟨rfl, rfl, R.viaI rfl (by omega), rfl, rfl, rfl, R.viaI rfl (by omega), trivial⟩, ⟨by omega, R.Own.tl R.ohm, by omega, fun j hj => ?_⟩, by omega⟩
    exact snoc0 hall he0 j hj
  have hall : ∀ j, j < L.length → errR (nth L j) = 0 := fun j hj => hall j (by omega)
  have hln : lineN (L.take k) = lineN L := by rw [List.take_of_length_le (by omega)]
  rw [hln] at hl
  (refine R.step ?_; (repeat' (first | (with_reducible refine And.intro ?_ ?_) | (with_reducible intro _))); all_goals refine R.Lft.mk ?_)
  refine R.WC_loop (fun s : Nat × Int => [(2, .int .i64 0), (3, .int .i64 (lineN L : Nat)), (4, .int .i64 s.2), (30, .slice A n c), (31, .int .i64 (n : Nat)), (32, .int .i64 (s.1 : Nat))])
    (fun s w1 => s.1 ≤ n ∧ R.Own [] w w1 [] ∧ Rises L s.1 ∧ (s.1 = 0 → s.2 = 0) ∧ (0 < s.1 → s.2 = (nth L (s.1 - 1)).rank)) (fun s => n - s.1) ⟨(0, 0), ⟨rfl, R.viaI rfl (by omega), rfl, rfl, rfl, rfl, trivial⟩, Nat.zero_le _, R.ohm, fun j hj => by dsimp only at hj; omega, fun _ => rfl, fun h => by dsimp only at h; omega⟩ ?_
  clear hM hlt hk hln
  rintro ⟨k, v⟩ f w1 ⟨hk, hM, hr, hv0, hv1⟩
  dsimp only at hk hM hr hv0 hv1 ⊢
  by_cases hlt : k < n
  · have hok := errR_ok (hall k (by omega))
    (refine R.step ?_; (repeat' (first | (with_reducible refine And.intro ?_ ?_) | (with_reducible intro _))); all_goals refine R.Lft.mk ?_)
    · rename_i hle
      have hr2 : ¬ Rises L L.length := fun hr => by
        rcases Nat.eq_zero_or_pos k with h0 | h0
        · rw [hv0 h0] at hle
          omega
        · have := hr (k - 1) (by omega)
          rw [hv1 h0] at hle
          rw [show k - 1 + 1 = k by omega] at this
          omega
      exact ⟨by rw [errAll_1 h200 hall hr2], R.Own.below R.ohm⟩
    · rename_i hle
      refine ⟨(k + 1, (nth L k).rank), ⟨rfl, rfl, rfl, rfl, rfl, R.viaI rfl (by dsimp only; omega), trivial⟩, ⟨by dsimp only; omega, R.Own.tl R.ohm, fun j hj => ?_, fun h => absurd h (Nat.succ_ne_zero _), fun _ => rfl⟩, by dsimp only; omega⟩
      dsimp only at hj
      by_cases h : j + 1 < k
      · exact hr j h
      · obtain rfl : k = j + 1 := by omega
        rw [hv1 (by omega)] at hle
        rw [show j + 1 - 1 = j by omega] at hle
        omega
  obtain rfl : k = L.length := by omega
  have h5 := errAll_5 h200 hall hr
  (refine R.step ?_; (repeat' (first | (with_reducible refine And.intro ?_ ?_) | (with_reducible intro _))); all_goals refine R.Lft.mk ?_)
  · exact ⟨by rw [h5, if_pos (by omega)], R.Own.below R.ohm⟩
  · exact ⟨by rw [h5, if_neg (by omega)], R.Own.below R.ohm⟩
theorem all11_any (hq : ∀ x ∈ L, x.q.n ≤ 1000000000) : Calls Try.prog 56 #[.slice A n c] w fun e w' => e = .returned (.int .i64 (errAll L)) ∧ Below w.heap.size w w' := by
  have hM := R.Own.start [] w
  refine R.calls_of_WC (fn := Try.f56) Try.func56 rfl Try.ntmps56 (Nat.le_of_ble_eq_true rfl) ?_
  (refine R.step ?_; (repeat' (first | (with_reducible refine And.intro ?_ ?_) | (with_reducible intro _))); all_goals refine R.Lft.mk ?_)
  · exact ⟨by rw [errAll_4 (by omega)], R.Own.below R.ohm⟩
  have h200 : ¬ 200 < L.length := by omega
  refine R.WC_loop (fun s : Nat × Bool => [(0, .slice A n c), (2, .int .i64 0), (3, .int .i64 (lineN (L.take s.1) : Nat)), (4, .bool s.2), (5, .int .i64 (s.1 : Nat))])
    (fun s w1 => s.1 ≤ n ∧ R.Own [] w w1 [] ∧ lineN (L.take s.1) ≤ 100 * s.1 ∧ (∀ j, j < s.1 → errR (nth L j) = 0) ∧ (s.2 = true ↔ Rises L s.1)) (fun s => n - s.1) ⟨(0, true), ⟨rfl, rfl, rfl, rfl, rfl, trivial⟩, Nat.zero_le _, hM, Nat.le_refl _, fun j hj => by dsimp only at hj; omega, fun _ j hj => by dsimp only at hj; omega, fun _ => rfl⟩ ?_
  clear hM
  rintro ⟨k, r⟩ f w1 ⟨hk, hM, hl, hall, hr⟩
  dsimp only at hk hM hl hall hr ⊢
  by_cases hlt : k < n
  · have hx := hG _ (R.nth_mem (L := L) (i := k) (by omega))
    have hq1 := hq _ (R.nth_mem (L := L) (i := k) (by omega))
    have hsn := lineN_snoc (L := L) (k := k) (by omega)
    (refine R.step ?_; (repeat' (first | (with_reducible refine And.intro ?_ ?_) | (with_reducible intro _))); all_goals refine R.Lft.mk ?_)
    refine R.WO_call1 rfl rfl R.vv ?_
    refine (rcheck11_any (nth L k) _ (GRoad.now R.ohm hx) hq1).mono ?_
    rintro _ w2 ⟨rfl, hb2⟩
    have hM := R.Own.call R.ohm hb2
    refine ⟨_, rfl, ?_⟩
    by_cases he0 : errR (nth L k) ≠ 0
    · (refine R.step ?_; (repeat' (first | (with_reducible refine And.intro ?_ ?_) | (with_reducible intro _))); all_goals refine R.Lft.mk ?_)
      exact ⟨by rw [errAll_f h200 (by omega) hall he0], R.Own.below R.ohm⟩
    have he0 : errR (nth L k) = 0 := Decidable.not_not.1 he0
    have hok := errR_ok he0
    have e1 : ((k : Int) - 1).toNat = k - 1 := by omega
    (refine R.step ?_; (repeat' (first | (with_reducible refine And.intro ?_ ?_) | (with_reducible intro _))); all_goals refine R.Lft.mk ?_)
    · rename_i hr1 hk0
      refine ⟨(k + 1, true), ⟨rfl, rfl, R.viaI rfl (by dsimp only; omega), R.viaB rfl (by simp [*]), R.viaI rfl (by dsimp only; omega), trivial⟩, ⟨by dsimp only; omega, R.ohm, by dsimp only; omega, snoc0 hall he0, fun _ j hj => by dsimp only at hj; omega, fun _ => rfl⟩, by dsimp only; omega⟩
    · rename_i hr1 hk0
      refine ⟨(k + 1, decide ((nth L (k - 1)).rank < (nth L k).rank)), ⟨rfl, rfl, R.viaI rfl (by dsimp only; omega), R.viaB rfl (by simp [*]), R.viaI rfl (by dsimp only; omega), trivial⟩, ⟨by dsimp only; omega, R.ohm, by dsimp only; omega, snoc0 hall he0, ?_⟩, by dsimp only; omega⟩
      dsimp only
      rw [decide_eq_true_eq]
      constructor
      · intro h j hj
        by_cases h2 : j + 1 < k
        · exact hr.1 hr1 j h2
        · obtain rfl : k = j + 1 := by omega
          exact h
      · intro h
        have := h (k - 1) (by omega)
        rw [show k - 1 + 1 = k by omega] at this
        exact this
    · rename_i hr1
      refine ⟨(k + 1, false), ⟨rfl, rfl, R.viaI rfl (by dsimp only; omega), R.viaB rfl (by simp [*]), R.viaI rfl (by dsimp only; omega), trivial⟩, ⟨by dsimp only; omega, R.ohm, by dsimp only; omega, snoc0 hall he0, ?_⟩, by dsimp only; omega⟩
      dsimp only
      constructor
      · intro h
        cases h
      · intro h
        have := hr.2 fun j hj => h j (by omega)
        rw [hr1] at this
        cases this
  obtain rfl : k = n := by omega
  have hln : lineN (L.take k) = lineN L := by rw [List.take_of_length_le (by omega)]
  have hall : ∀ j, j < L.length → errR (nth L j) = 0 := fun j hj => hall j (by omega)
  rw [hln] at hl
  cases r
  · have hr2 : ¬ Rises L L.length := fun h => by
      rw [← hn] at h
      have := hr.2 h
      cases this
    (refine R.step ?_; (repeat' (first | (with_reducible refine And.intro ?_ ?_) | (with_reducible intro _))); all_goals refine R.Lft.mk ?_)
    exact ⟨by rw [errAll_1 h200 hall hr2], R.Own.below R.ohm⟩
  have h5 := errAll_5 h200 hall (by rw [← hn]; exact hr.1 rfl)
  (refine R.step ?_; (repeat' (first | (with_reducible refine And.intro ?_ ?_) | (with_reducible intro _))); all_goals refine R.Lft.mk ?_)
  · exact ⟨by rw [h5, if_pos (by omega)], R.Own.below R.ohm⟩
  · exact ⟨by rw [h5, if_neg (by omega)], R.Own.below R.ohm⟩
end
end Go.Proofs.Ytegbidklcaccjaa
