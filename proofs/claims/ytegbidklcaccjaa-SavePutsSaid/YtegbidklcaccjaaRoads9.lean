/- Package roads: a road added to none; the laws' own example. -/
import Derived.Test.YtegbidklcaccjaaRoads8
namespace Go.Proofs.Ytegbidklcaccjaa
open Go.RowKit
open R (In64 InU64 lo64 nth)
theorem errR_v {x y : Road} (h : vR y = vR x) (hy : WL y) (hx : WL x) : errR y = errR x := by
  obtain ⟨r, ⟨pA, pn, pc, pL⟩, ⟨qA, qn, qc, qL⟩, b⟩ := x
  obtain ⟨r2, ⟨pA2, pn2, pc2, pL2⟩, ⟨qA2, qn2, qc2, qL2⟩, b2⟩ := y
  unfold vR at h
  injection h with h1 h2 h3 h4
  obtain ⟨hy1, hy2⟩ := hy
  obtain ⟨hx1, hx2⟩ := hx
  dsimp only at h1 h2 h3 h4 hy1 hy2 hx1 hx2
  subst h1 h2 h3 h4 hy1 hy2 hx1 hx2
  rfl
theorem twin_awake : ¬ TwinP [⟨0, 0⟩, ⟨1, 0⟩] := by
  rintro ⟨k, hk, he⟩
  have hk : k + 1 < 2 := hk
  obtain rfl : k = 0 := by omega
  have he : (⟨1, 0⟩ : Pt) = ⟨0, 0⟩ := he
  cases he
def okL (L : List Road) : Prop := ∀ z ∈ L, WL z
theorem firstErr_v {A B : List Road} (h : A.map vR = B.map vR) (hA : okL A) (hB : okL B) : firstErr A = firstErr B := by
  induction A generalizing B with
  | nil =>
    cases B with
    | nil => rfl
    | cons y m => cases h
  | cons x l ih =>
    cases B with
    | nil => cases h
    | cons y m =>
      rw [List.map_cons, List.map_cons] at h
      injection h with h1 h2
      unfold firstErr
      rw [errR_v h1 (hA x (.head _)) (hB y (.head _)), ih h2 (fun z hz => hA z (.tail _ hz)) (fun z hz => hB z (.tail _ hz))]
theorem lineN_v {A B : List Road} (h : A.map vR = B.map vR) (hA : okL A) (hB : okL B) : lineN A = lineN B := by
  induction A generalizing B with
  | nil =>
    cases B with
    | nil => rfl
    | cons y m => cases h
  | cons x l ih =>
    cases B with
    | nil => cases h
    | cons y m =>
      rw [List.map_cons, List.map_cons] at h
      injection h with h1 h2
      have hq : x.q.L = y.q.L := congrArg RV.ws h1
      unfold lineN
      rw [(hA x (.head _)).2, (hB y (.head _)).2, hq, ih h2 (fun z hz => hA z (.tail _ hz)) (fun z hz => hB z (.tail _ hz))]
theorem rises_v {A B : List Road} (h : A.map vR = B.map vR) {n : Nat} (hr : Rises A n) : Rises B n := fun j hj => by
  have h1 : (nth A j).rank = (nth B j).rank := congrArg RV.id ((nth_map h).2 j)
  have h2 : (nth A (j + 1)).rank = (nth B (j + 1)).rank := congrArg RV.id ((nth_map h).2 (j + 1))
  rw [← h1, ← h2]
  exact hr j hj
theorem errAll_v {A B : List Road} (h : A.map vR = B.map vR) (hA : okL A) (hB : okL B) : errAll A = errAll B := by
  have hl := (nth_map h).1
  have hr : Rises A A.length = Rises B B.length := by
    rw [← hl]
    exact propext ⟨rises_v h, rises_v h.symm⟩
  unfold errAll
  rw [hl, firstErr_v h hA hB, lineN_v h hA hB]
  rw [hl] at hr
  rw [hr]
end Go.Proofs.Ytegbidklcaccjaa
