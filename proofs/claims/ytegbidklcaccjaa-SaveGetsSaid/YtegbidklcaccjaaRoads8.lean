/- Package roads: copies. -/
import Derived.Test.YtegbidklcaccjaaRoads7
namespace Go.Proofs.Ytegbidklcaccjaa
open Go.RowKit
open R (In64 InU64 lo64 nth)
/-- A road's own rows. -/
def nest (y : Road) : List R.Res := [.row y.p.A y.p.n y.p.c 145 2 (y.p.L.flatMap cPt), .row y.q.A y.q.n y.q.c 3 1 (y.q.L.flatMap R.cI)]
def nests (M : List Road) : List R.Res := M.flatMap nest
theorem nests_app (M N : List Road) : nests (M ++ N) = nests M ++ nests N := by unfold nests; rw [List.flatMap_append]
theorem nests_one (y : Road) : nests [y] = nest y := by simp [nests]
theorem nest_mem {M : List Road} {y : Road} (hy : y ∈ M) {r : R.Res} (hr : r ∈ nest y) : r ∈ nests M := List.mem_flatMap.2 ⟨y, hy, hr⟩
def WL (y : Road) : Prop := y.p.n = y.p.L.length ∧ y.q.n = y.q.L.length
theorem R.Own.giveN {F : List Nat} {W w w' : World} {l lc : List R.Res} (h : R.Own F W w l) (hc : R.Own [] w w' lc) : R.Own F W w' (l ++ lc) := R.Own.callF (l := l) (lc := []) (by rw [List.append_nil]; exact h) hc
theorem cap_of {F : List Nat} {W w : World} {l : List R.Res} {A : Option Addr} {n c sz : Nat} {e : TypeId} {cs : List Value} (hM : R.Own F W w l) (hm : .row A n c e sz cs ∈ l) : n ≤ c ∧ c ≤ 9223372036854775807 := by
  have hr : w.ownsRow 0 e sz (.slice A n c) n cs := hM.ok _ hm
  rcases hr.2 with ⟨hv, h0⟩ | ⟨g, cap, cur, hv, _, _, h3, h4, _⟩
  · injection hv with _ _ a3
    omega
  · injection hv with _ _ a3
    unfold maxLen at *
    omega
theorem GRoad.of {F : List Nat} {W W' w : World} {l : List R.Res} {x y : Road} (hx : GRoad W x) (hv : vR y = vR x) (hw : WL y) (hM : R.Own F W' w l) (hs : ∀ r ∈ nest y, r ∈ l) : GRoad w y := by
  unfold vR at hv
  injection hv with h1 h2 h3 h4
  have hp := hs _ (.head _)
  have hq := hs _ (.tail _ (.head _))
  refine ⟨by rw [h1]; exact hx.1, ⟨R.Own.inp hM hp, hw.1, cap_of hM hp, ?_⟩, ⟨R.Own.inp hM hq, hw.2, cap_of hM hq, ?_⟩, trivial⟩
  · intro p hp
    rw [h2] at hp
    exact hx.2.1.2.2.2 p hp
  · intro v hv
    rw [h3] at hv
    exact hx.2.2.1.2.2.2 v hv
theorem GRoads.of {F : List Nat} {W W' w : World} {l : List R.Res} {L M : List Road} (hG : ∀ x ∈ L, GRoad W x) (hv : M.map vR = L.map vR) (hw : ∀ y ∈ M, WL y) (hM : R.Own F W' w l) (hs : ∀ r ∈ nests M, r ∈ l) : ∀ y ∈ M, GRoad w y := by
  intro y hy
  have : vR y ∈ L.map vR := by rw [← hv]; exact List.mem_map_of_mem hy
  obtain ⟨x, hx, he⟩ := List.mem_map.1 this
  exact GRoad.of (hG x hx) he.symm (hw y hy) hM fun r hr => hs r (nest_mem hy hr)
theorem vR_take {L : List Road} {k : Nat} (hk : k < L.length) : (L.take (k + 1)).map vR = (L.take k).map vR ++ [vR (nth L k)] := by rw [take_snoc hk, List.map_append]; rfl
def orI (L : List Int) : Int := (L.find? fun v => decide (v ≠ 0)).getD 0
theorem orI_two (a b : Int) : orI [a, b] = if a ≠ 0 then a else b := by
  by_cases h : a = 0
  · by_cases h2 : b = 0
    · simp [orI, h, h2]
    · simp [orI, h, h2]
  · simp [orI, h]
theorem orI_at {L : List Int} {k : Nat} (hk : k < L.length) (h : ∀ j, j < k → nth L j = 0) (h0 : nth L k ≠ 0) : orI L = nth L k := by
  induction L generalizing k with
  | nil => exact absurd hk (Nat.not_lt_zero _)
  | cons x l ih =>
    cases k with
    | zero =>
      rw [nth_cons0] at h0 ⊢
      simp [orI, h0]
    | succ k =>
      have hx := h 0 (Nat.succ_pos _)
      rw [nth_cons0] at hx
      have := ih (Nat.lt_of_succ_lt_succ hk) (fun j hj => h (j + 1) (Nat.succ_lt_succ hj)) h0
      rw [nth_consS, ← this]
      simp [orI, hx]
theorem orI_0 {L : List Int} (h : ∀ j, j < L.length → nth L j = 0) : orI L = 0 := by
  induction L with
  | nil => rfl
  | cons x l ih =>
    have hx := h 0 (Nat.succ_pos _)
    rw [nth_cons0] at hx
    have := ih fun j hj => h (j + 1) (Nat.succ_lt_succ hj)
    simpa [orI, hx] using this
end Go.Proofs.Ytegbidklcaccjaa
