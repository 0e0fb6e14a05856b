/- Package roads: copies. -/
import Derived.Test.YtmmfndmfibbhcaaRoads7
namespace Go.Proofs.Ytmmfndmfibbhcaa
open Go.RowKit
open R (In64 InU64 lo64 nth)
/-- A road's own rows. -/
def nest (y : Road) : List R.Res := [.row y.p.A y.p.n y.p.c 112 2 (y.p.L.flatMap cPt), .row y.q.A y.q.n y.q.c 3 1 (y.q.L.flatMap R.cI)]
def nests (M : List Road) : List R.Res := M.flatMap nest
theorem nests_app (M N : List Road) : nests (M ++ N) = nests M ++ nests N := by unfold nests; rw [List.flatMap_append]
theorem nests_one (y : Road) : nests [y] = nest y := by simp [nests]
theorem nest_mem {M : List Road} {y : Road} (hy : y ∈ M) {r : R.Res} (hr : r ∈ nest y) : r ∈ nests M := List.mem_flatMap.2 ⟨y, hy, hr⟩
def WL (y : Road) : Prop := y.p.n = y.p.L.length ∧ y.q.n = y.q.L.length
theorem R.Own.giveN {F : List Nat} {W w w' : World} {l lc : List R.Res} (h : R.Own F W w l) (hc : R.Own [] w w' lc) : R.Own F W w' (l ++ lc) := R.Own.callF (l := l) (lc := []) (by rw [List.append_nil]; exact h) hc
theorem cap_of {F : List Nat} {W w : World} {l : List R.Res} {A : Option Addr} {n c sz : Nat} {e : TypeId} {cs : List Value} (hM : R.Own F W w l) (hm : .row A n c e sz cs ∈ l) : n ≤ c ∧ c ≤ 9223372036854775807 := by
  have hr : w.ownsRow 0 e sz (.slice A n c) n cs := hM.ok _ hm
  rcases hr.2 with ⟨hv, h0⟩ | ⟨g, cap, cur, hv, _, _, h3, h4, _⟩
  · injection hv with _ _ a3
    omega
  · injection hv with _ _ a3
    unfold maxLen at *
    omega
theorem GRoad.of {F : List Nat} {W W' w : World} {l : List R.Res} {x y : Road} (hx : GRoad W x) (hv : vR y = vR x) (hw : WL y) (hM : R.Own F W' w l) (hs : ∀ r ∈ nest y, r ∈ l) : GRoad w y := by
  unfold vR at hv
  injection hv with h1 h2 h3 h4
  have hp := hs _ (.head _)
  have hq := hs _ (.tail _ (.head _))
  refine ⟨by rw [h1]; exact hx.1, ⟨R.Own.inp hM hp, hw.1, cap_of hM hp, ?_⟩, ⟨R.Own.inp hM hq, hw.2, cap_of hM hq, ?_⟩, trivial⟩
  · intro p hp
    rw [h2] at hp
    exact hx.2.1.2.2.2 p hp
  · intro v hv
    rw [h3] at hv
    exact hx.2.2.1.2.2.2 v hv
theorem GRoads.of {F : List Nat} {W W' w : World} {l : List R.Res} {L M : List Road} (hG : ∀ x ∈ L, GRoad W x) (hv : M.map vR = L.map vR) (hw : ∀ y ∈ M, WL y) (hM : R.Own F W' w l) (hs : ∀ r ∈ nests M, r ∈ l) : ∀ y ∈ M, GRoad w y := by
  intro y hy
  have : vR y ∈ L.map vR := by rw [← hv]; exact List.mem_map_of_mem hy
  obtain ⟨x, hx, he⟩ := List.mem_map.1 this
  exact GRoad.of (hG x hx) he.symm (hw y hy) hM fun r hr => hs r (nest_mem hy hr)
theorem copied_any (x : Road) (w : World) (hx : GRoad w x) (hs : x.p.n ≤ 1000000000 ∧ x.q.n ≤ 1000000000) : Calls Try.prog 98 #[.agg (cRoad x).toArray] w fun e w' => ∃ y, vR y = vR x ∧ WL y ∧ e = .returned (.agg (cRoad y).toArray) ∧ R.Own [] w w' (nest y) := by
  have hM := R.Own.start [] w
  obtain ⟨g1, ⟨hp, hpl, hpc, hpg⟩, ⟨hq, hql, hqc, hqg⟩, _⟩ := hx
  refine R.calls_of_WC (fn := Try.f98) Try.func98 rfl Try.ntmps98 (Nat.le_of_ble_eq_true rfl) ?_
  (refine R.stepH ?_; (repeat' (first | (with_reducible refine And.intro ?_ ?_) | (with_reducible intro _))); all_goals refine R.Lft.mk ?_)
  refine R.WC_planX [(0, false), (1, false), (3, false), (4, false), (2, true), (6, false), (5, true), (7, true), (8, false), (9, true)] R.mixed (by decide +kernel) R.ohm ?_
  (refine R.stepH ?_; (repeat' (first | (with_reducible refine And.intro ?_ ?_) | (with_reducible intro _))); all_goals refine R.Lft.mk ?_)
  refine R.WO_call1 rfl rfl R.vv ?_
  refine (clone_Pt x.p.A x.p.n x.p.c x.p.L _ (R.Own.inpIn R.ohm hp) hpl hs.1).mono ?_
  rintro _ w3 ⟨A1, c1, rfl, hG⟩
  have hM := R.Own.give R.ohm hG
  refine ⟨_, rfl, R.Own.tl hM, ?_⟩
  (refine R.stepH ?_; (repeat' (first | (with_reducible refine And.intro ?_ ?_) | (with_reducible intro _))); all_goals refine R.Lft.mk ?_)
  refine R.WO_call1 rfl rfl R.vv ?_
  refine (clone_int x.q.A x.q.n x.q.c x.q.L _ (R.Own.inpIn R.ohm hq) hql hs.2).mono ?_
  rintro _ w4 ⟨A2, c2, rfl, hG2⟩
  have hM := R.Own.give R.ohm hG2
  refine ⟨_, rfl, R.Own.tl (R.Own.tl hM), ?_⟩
  (refine R.stepH ?_; (repeat' (first | (with_reducible refine And.intro ?_ ?_) | (with_reducible intro _))); all_goals refine R.Lft.mk ?_)
  exact ⟨⟨x.rank, ⟨A1, x.p.n, c1, x.p.L⟩, ⟨A2, x.q.n, c2, x.q.L⟩, x.both⟩, rfl, ⟨hpl, hql⟩, rfl, (R.Own.swap R.ohm).sub (List.Sublist.cons_cons _ (List.Sublist.cons_cons _ (List.nil_sublist _)))⟩
theorem vR_take {L : List Road} {k : Nat} (hk : k < L.length) : (L.take (k + 1)).map vR = (L.take k).map vR ++ [vR (nth L k)] := by rw [take_snoc hk, List.map_append]; rfl
set_option maxHeartbeats 1000000 in
theorem allc_any (A : Option Addr) (n c : Nat) (L : List Road) (w : World) (hA : R.Inp [] w A n 4 (L.flatMap cRoad)) (hn : n = L.length) (hb : n ≤ 1000000) (hG : ∀ x ∈ L, GRoad w x) (hs : ∀ x ∈ L, x.p.n ≤ 1000000000 ∧ x.q.n ≤ 1000000000) :
    Calls Try.prog 97 #[.slice A n c] w fun e w' => ∃ A1 c1 M, e = .returned (.slice A1 n c1) ∧ M.length = n ∧ M.map vR = L.map vR ∧ (∀ y ∈ M, WL y) ∧ R.Own [] w w' (.row A1 n c1 101 4 (M.flatMap cRoad) :: nests M) := by
  have hM := R.Own.start [] w
  refine R.calls_of_WC (fn := Try.f97) Try.func97 rfl Try.ntmps97 (Nat.le_of_ble_eq_true rfl) ?_
  (refine R.stepH ?_; (repeat' (first | (with_reducible refine And.intro ?_ ?_) | (with_reducible intro _))); all_goals refine R.Lft.mk ?_)
  refine R.WC_loop (fun s : Nat × Option Addr × Nat × List Road => [(2, .slice none 0 0), (3, .slice s.2.1 s.1 s.2.2.1), (6, .slice A n c), (7, .int .i64 (n : Nat)), (8, .int .i64 (s.1 : Nat))])
    (fun s w1 => s.1 ≤ n ∧ s.2.2.2.length = s.1 ∧ s.2.2.2.map vR = (L.take s.1).map vR ∧ (∀ y ∈ s.2.2.2, WL y) ∧ R.Own [] w w1 (.row s.2.1 s.1 s.2.2.1 101 4 (s.2.2.2.flatMap cRoad) :: nests s.2.2.2)) (fun s => n - s.1) ⟨(0, none, 0, []), ⟨rfl, rfl, rfl, rfl, rfl, trivial⟩, Nat.zero_le _, rfl, rfl, fun y hy => (by cases hy), R.Own.nil R.ohm _ _⟩ ?_
  clear hM
  rintro ⟨k, A1, c1, M⟩ f w1 ⟨hk, hMl, hMv, hWL, hM⟩
  dsimp only at hk hMl hMv hWL hM ⊢
  by_cases hlt : k < n
  · have hx := hG _ (R.nth_mem (L := L) (i := k) (by omega))
    have hz := hs _ (R.nth_mem (L := L) (i := k) (by omega))
    (refine R.stepH ?_; (repeat' (first | (with_reducible refine And.intro ?_ ?_) | (with_reducible intro _))); all_goals refine R.Lft.mk ?_)
    refine R.WO_call1 rfl rfl R.vv ?_
    refine (copied_any (nth L k) _ (GRoad.now R.ohm hx) hz).mono ?_
    rintro _ w2 ⟨y, hyv, hyw, rfl, hO⟩
    have hM := R.Own.giveN R.ohm hO
    refine ⟨_, rfl, ?_⟩
    simp only [List.cons_append] at hM
    rw [← nests_one y, ← nests_app] at hM
    (refine R.stepH ?_; (repeat' (first | (with_reducible refine And.intro ?_ ?_) | (with_reducible intro _))); all_goals refine R.Lft.mk ?_)
    rename_i A3 c3 _ hM
    refine ⟨(k + 1, A3, c3, M ++ [y]), ⟨rfl, rfl, rfl, rfl, R.viaI rfl (by dsimp only; omega), trivial⟩, ⟨by dsimp only; omega, by dsimp only; rw [List.length_append, hMl]; rfl, ?_, ?_, R.Own.tl hM⟩, by dsimp only; omega⟩
    · dsimp only
      rw [vR_take (by omega), List.map_append, hMv, ← hyv]
      rfl
    · intro z hz
      rcases List.mem_append.1 hz with h | h
      · exact hWL z h
      · rw [List.mem_singleton.1 h]
        exact hyw
  · obtain rfl : k = n := by omega
    (refine R.stepH ?_; (repeat' (first | (with_reducible refine And.intro ?_ ?_) | (with_reducible intro _))); all_goals refine R.Lft.mk ?_)
    rw [List.take_of_length_le (by omega)] at hMv
    exact ⟨A1, c1, M, rfl, hMl, hMv, hWL, R.ohm⟩
def orI (L : List Int) : Int := (L.find? fun v => decide (v ≠ 0)).getD 0
theorem orI_two (a b : Int) : orI [a, b] = if a ≠ 0 then a else b := by
  by_cases h : a = 0
  · by_cases h2 : b = 0
    · simp [orI, h, h2]
    · simp [orI, h, h2]
  · simp [orI, h]
theorem orI_at {L : List Int} {k : Nat} (hk : k < L.length) (h : ∀ j, j < k → nth L j = 0) (h0 : nth L k ≠ 0) : orI L = nth L k := by
  induction L generalizing k with
  | nil => exact absurd hk (Nat.not_lt_zero _)
  | cons x l ih =>
    cases k with
    | zero =>
      rw [nth_cons0] at h0 ⊢
      simp [orI, h0]
    | succ k =>
      have hx := h 0 (Nat.succ_pos _)
      rw [nth_cons0] at hx
      have := ih (Nat.lt_of_succ_lt_succ hk) (fun j hj => h (j + 1) (Nat.succ_lt_succ hj)) h0
      rw [nth_consS, ← this]
      simp [orI, hx]
theorem orI_0 {L : List Int} (h : ∀ j, j < L.length → nth L j = 0) : orI L = 0 := by
  induction L with
  | nil => rfl
  | cons x l ih =>
    have hx := h 0 (Nat.succ_pos _)
    rw [nth_cons0] at hx
    have := ih fun j hj => h (j + 1) (Nat.succ_lt_succ hj)
    simpa [orI, hx] using this
theorem or_any (A : Option Addr) (n c : Nat) (L : List Int) (w : World) (hA : R.Inp [] w A n 1 (L.flatMap R.cI)) (hn : n = L.length) (hb : n ≤ 1000000) : Calls Try.prog 94 #[.slice A n c] w fun e w' => e = .returned (.int .i64 (orI L)) ∧ Below w.heap.size w w' := by
  have hM := R.Own.start [] w
  refine R.calls_of_WC (fn := Try.f94) Try.func94 rfl Try.ntmps94 (Nat.le_of_ble_eq_true rfl) ?_
  (refine R.stepH ?_; (repeat' (first | (with_reducible refine And.intro ?_ ?_) | (with_reducible intro _))); all_goals refine R.Lft.mk ?_)
  refine R.WC_loop (fun k : Nat => [(2, .int .i64 0), (3, .int .i64 0), (6, .slice A n c), (7, .int .i64 (n : Nat)), (8, .int .i64 (k : Nat))])
    (fun k w1 => k ≤ n ∧ R.Own [] w w1 [] ∧ ∀ j, j < k → nth L j = 0) (fun k => n - k) ⟨0, ⟨rfl, rfl, rfl, rfl, rfl, trivial⟩, Nat.zero_le _, R.ohm, fun j hj => absurd hj (Nat.not_lt_zero _)⟩ ?_
  clear hM
  rintro k f w1 ⟨hk, hM, hall⟩
  by_cases hlt : k < n
  · (refine R.stepH ?_; (repeat' (first | (with_reducible refine And.intro ?_ ?_) | (with_reducible intro _))); all_goals refine R.Lft.mk ?_)
    · rename_i hh
      exact ⟨by rw [orI_at (k := k) (by omega) hall hh], R.Own.below R.ohm⟩
    · rename_i hh
      exact ⟨k + 1, ⟨rfl, rfl, rfl, rfl, R.viaI rfl (by omega), trivial⟩, ⟨by omega, R.ohm, snocN hall (Decidable.not_not.1 hh)⟩, by omega⟩
  · (refine R.stepH ?_; (repeat' (first | (with_reducible refine And.intro ?_ ?_) | (with_reducible intro _))); all_goals refine R.Lft.mk ?_)
    exact ⟨by rw [orI_0 fun j hj => hall j (by omega)], R.Own.below R.ohm⟩
set_option maxHeartbeats 1000000 in
theorem insertR_end {F : List Nat} {W w : World} {l : List R.Res} {A B : Option Addr} {n c d : Nat} {M : List Road} {y : Road} (hb : n ≤ 1000000) (hM : R.Own F W w (.row B 1 d 101 4 (cRoad y) :: .row A n c 101 4 (M.flatMap cRoad) :: l)) :
    Calls Try.prog 96 #[.slice A n c, .int .i64 (n : Nat), .slice B 1 d] w fun e w' => ∃ A1 c1, e = .returned (.slice A1 (n + 1) c1) ∧ R.Own F W w' (.row A1 (n + 1) c1 101 4 ((M ++ [y]).flatMap cRoad) :: l) := by
  have hcap := cap_of hM (.tail _ (.head _))
  refine R.calls_of_WC (fn := Try.f96) Try.func96 rfl Try.ntmps96 (Nat.le_of_ble_eq_true rfl) ?_
  (refine R.stepH ?_; (repeat' (first | (with_reducible refine And.intro ?_ ?_) | (with_reducible intro _))); all_goals refine R.Lft.mk ?_)
  exact ⟨_, _, rfl, R.ohm⟩
end Go.Proofs.Ytmmfndmfibbhcaa
