/- stat.Counts and snicketref50.Counts: how many nodes are of each degree; the laws' own example. -/
import Derived.Test.YtoainfnhmdcpoaaYb
namespace Go.Proofs.Ytoainfnhmdcpoaa
open Go.RowKit
open R (In64 InU64 lo64 nth)
theorem max_any (A : Option Addr) (n c : Nat) (L : List Int) (w : World) (hA : R.Inp [] w A n 1 (L.flatMap R.cI)) (hn : n = L.length) (hb : n ≤ 1000000) (h0 : 0 < n) : Calls Try.prog 99 #[.slice A n c] w fun e w' => e = .returned (.int .i64 (maxL L n)) ∧ Below w.heap.size w w' := by
  have hM := R.Own.start [] w
  have hm1 : maxL L 1 = nth L 0 := by show max (nth L 0) (nth L 0) = _; omega
  refine R.calls_of_WC (fn := Try.f99) Try.func99 rfl Try.ntmps99 (Nat.le_of_ble_eq_true rfl) ?_
  (refine R.stepV ?_; (repeat' (first | (with_reducible refine And.intro ?_ ?_) | (with_reducible intro _))); all_goals refine R.Lft.mk ?_)
  all_goals first
    | (exfalso; omega)
    | skip
  refine R.WC_loop (fun k : Nat => [(0, .slice A n c), (2, .int .i64 0), (3, .int .i64 (maxL L (k + 1))), (4, .int .i64 ((k + 1 : Nat) : Int))])
    (fun k w2 => k + 1 ≤ n ∧ R.Own [] w w2 []) (fun k => n - k) ⟨0, ⟨rfl, rfl, R.viaI rfl (by rw [hm1]; rfl), R.viaI rfl (by omega), trivial⟩, by omega, R.Own.nul R.ohm⟩ ?_
  clear hM
  rintro k f w2 ⟨hk, hM⟩
  by_cases hlt : k + 1 < n
  · (refine R.stepV ?_; (repeat' (first | (with_reducible refine And.intro ?_ ?_) | (with_reducible intro _))); all_goals refine R.Lft.mk ?_)
    exact ⟨k + 1, ⟨rfl, rfl, R.viaI rfl rfl, R.viaI rfl (by omega), trivial⟩, ⟨by omega, R.ohm⟩, by omega⟩
  · obtain rfl : n = k + 1 := by omega
    (refine R.stepV ?_; (repeat' (first | (with_reducible refine And.intro ?_ ?_) | (with_reducible intro _))); all_goals refine R.Lft.mk ?_)
    exact ⟨rfl, R.Own.below (by assumption)⟩
/-- How many there are of each degree. -/
def cntM (D : List Int) : Nat := if D.length = 0 then 0 else (maxL D D.length).toNat + 1
def cntsL (D : List Int) : List Int := ctL D (cntM D) D.length
theorem cntM_le {D : List Int} {b : Nat} (h : ∀ i, i < D.length → 0 ≤ nth D i ∧ nth D i ≤ (b : Nat)) : cntM D ≤ b + 1 ∧ (0 < D.length → ((cntM D : Nat) : Int) = maxL D D.length + 1 ∧ 0 ≤ maxL D D.length ∧ maxL D D.length ≤ (b : Nat)) := by
  unfold cntM
  by_cases e : D.length = 0
  · rw [if_pos e]
    exact ⟨Nat.zero_le _, fun h => by omega⟩
  · obtain ⟨i, hi, q⟩ := maxL_in (L := D) D.length (by omega) (Nat.le_refl _)
    have := h i hi
    rw [if_neg e]
    exact ⟨by omega, fun _ => by omega⟩
theorem more_iff {D : List Int} {b d : Nat} (h : ∀ i, i < D.length → 0 ≤ nth D i ∧ nth D i ≤ (b : Nat)) : (∃ u, u < D.length ∧ ((d : Nat) : Int) ≤ nth D u) ↔ d < cntM D := by
  obtain ⟨h1, h2⟩ := cntM_le h
  constructor
  · rintro ⟨u, hu, q⟩
    have := maxL_ge (L := D) (k := D.length) hu
    have := h2 (by omega)
    omega
  · intro hd
    have hl : 0 < D.length := by
      rcases Nat.eq_zero_or_pos D.length with e | e
      · unfold cntM at hd
        rw [if_pos e] at hd
        omega
      · exact e
    obtain ⟨i, hi, q⟩ := maxL_in (L := D) D.length hl (Nat.le_refl _)
    have := h2 hl
    exact ⟨i, hi, by omega⟩
theorem deg_in (E : List Ed) (m k : Nat) : ∀ i, i < (degL E m k).length → 0 ≤ nth (degL E m k) i ∧ nth (degL E m k) i ≤ (k : Nat) := fun i hi => by
  rw [degL_len] at hi
  rw [degL_nth hi]
  have := cntE_le E i k
  omega
section
variable (x : Nt) (w : World) (hG : GNt w x)
include hG
theorem counts_not (hb : netB x = false) : Calls Try.prog 37 #[.agg (cNt x).toArray] w fun e w' => e = .returned (.tuple #[.slice none 0 0, .int .i64 1]) ∧ Below w.heap.size w w' := by
  have hM := R.Own.start [] w
  refine R.calls_of_WC (fn := Try.f37) Try.func37 rfl Try.ntmps37 (Nat.le_of_ble_eq_true rfl) ?_
  (refine R.stepV ?_; (repeat' (first | (with_reducible refine And.intro ?_ ?_) | (with_reducible intro _))); all_goals refine R.Lft.mk ?_)
  refine R.WO_call1 rfl rfl R.vv ?_
  refine (deg_not x _ (GNt.now R.ohm hG) hb).mono ?_
  rintro _ w2 ⟨rfl, hb2⟩
  have hM := R.Own.call R.ohm hb2
  refine ⟨_, rfl, ?_⟩
  (refine R.stepV ?_; (repeat' (first | (with_reducible refine And.intro ?_ ?_) | (with_reducible intro _))); all_goals refine R.Lft.mk ?_; (all_goals (try (exact ⟨rfl, R.Own.below (by assumption)⟩))))
set_option maxHeartbeats 4000000 in
theorem counts_any (hb : netB x = true) : Calls Try.prog 37 #[.agg (cNt x).toArray] w fun e w' => ∃ A c, e = .returned (.tuple #[.slice A (cntsL (degL x.e.L x.s.n x.e.n)).length c, .int .i64 0]) ∧ R.Gives w w' A (cntsL (degL x.e.L x.s.n x.e.n)).length c 3 1 ((cntsL (degL x.e.L x.s.n x.e.n)).flatMap R.cI) := by
  have hM := R.Own.start [] w
  have hk := netB_e hb
  have hsn : x.s.n ≤ 200000 := (netB_iff.1 hb).1
  refine R.calls_of_WC (fn := Try.f37) Try.func37 rfl Try.ntmps37 (Nat.le_of_ble_eq_true rfl) ?_
  (refine R.stepV ?_; (repeat' (first | (with_reducible refine And.intro ?_ ?_) | (with_reducible intro _))); all_goals refine R.Lft.mk ?_)
  refine R.WO_call1 rfl rfl R.vv ?_
  refine (deg_any x _ (GNt.now R.ohm hG) hb).mono ?_
  rintro _ w2 ⟨Al, cl, rfl, hGd⟩
  have hdi := deg_in x.e.L x.s.n x.e.n
  have hdl := degL_len x.e.L x.s.n x.e.n
  obtain ⟨D, hD⟩ : ∃ D, degL x.e.L x.s.n x.e.n = D := ⟨_, rfl⟩
  rw [hD] at hGd hdi hdl ⊢
  obtain ⟨m1, m2⟩ := cntM_le hdi
  rw [hdl] at m2
  have hM := R.Own.give R.ohm hGd
  refine ⟨_, rfl, ?_⟩
  by_cases h0 : x.s.n = 0
  · have e0 : cntsL D = [] := by
      unfold cntsL cntM
      rw [if_pos (by omega)]
      rfl
    rw [e0]
    (refine R.stepV ?_; (repeat' (first | (with_reducible refine And.intro ?_ ?_) | (with_reducible intro _))); all_goals refine R.Lft.mk ?_)
    all_goals first
      | exact ⟨none, 0, rfl, (R.Own.nil (R.Own.nul R.ohm) _ _).gives⟩
      | (exfalso; omega)
  · obtain ⟨m3, m4, m5⟩ := m2 (by omega)
    have e0 : cntsL D = ctL D (cntM D) x.s.n := by unfold cntsL; rw [hdl]
    rw [e0, ctL_len]
    (refine R.stepV ?_; (repeat' (first | (with_reducible refine And.intro ?_ ?_) | (with_reducible intro _))); all_goals refine R.Lft.mk ?_)
    refine R.WO_call1 rfl rfl R.vv ?_
    refine (max_any Al x.s.n cl D _ (R.Own.inp R.ohm R.memb) hdl.symm (by omega) (by omega)).mono ?_
    rintro _ w3 ⟨rfl, hb3⟩
    have hM := R.Own.call R.ohm hb3
    refine ⟨_, rfl, ?_⟩
    obtain ⟨mx, hmx⟩ : ∃ mx : Nat, maxL D x.s.n = (mx : Nat) := ⟨(maxL D x.s.n).toNat, by rw [hdl] at *; omega⟩
    have hmc : cntM D = mx + 1 := by rw [hdl] at *; omega
    rw [hmx, hmc]
    (refine R.stepV ?_; (repeat' (first | (with_reducible refine And.intro ?_ ?_) | (with_reducible intro _))); all_goals refine R.Lft.mk ?_)
    rename_i Ao _ hM
    refine R.WC_loop (fun k : Nat => [(2, .slice none 0 0), (3, .int .i64 0), (5, .int .i64 0), (6, .slice Ao (mx + 1) (mx + 1)), (22, .slice Al x.s.n cl), (23, .int .i64 (x.s.n : Nat)), (24, .int .i64 (k : Nat))])
      (fun k w2 => k ≤ x.s.n ∧ R.Own [] w w2 [.row Ao (mx + 1) (mx + 1) 3 1 ((ctL D (mx + 1) k).flatMap R.cI), .row Al x.s.n cl 3 1 (D.flatMap R.cI)]) (fun k => x.s.n - k)
      ⟨0, ⟨rfl, rfl, rfl, rfl, rfl, rfl, rfl, trivial⟩, Nat.zero_le _, by rw [ctL_zero]; exact R.Own.sub hM (List.sublist_append_left [_, _] _)⟩ ?_
    clear hM
    rintro k f w4 ⟨hkn, hM⟩
    by_cases hlt : k < x.s.n
    · have hdk := hdi k (by omega)
      have hge := maxL_ge (L := D) (i := k) (k := x.s.n) hlt
      rw [hmx] at hge
      obtain ⟨d, hd⟩ : ∃ d : Nat, nth D k = (d : Nat) := ⟨(nth D k).toNat, by omega⟩
      have hdt : (nth D k).toNat = d := by omega
      obtain ⟨gA, rfl⟩ := row_form (R.Own.ok hM _ (.head _)) (by omega)
      have hcl := ctL_len D (mx + 1) k
      have c1 := ctN_le D ((d : Nat) : Int) k
      have d1 : nth (ctL D (mx + 1) k) (nth D k).toNat = ((ctN D ((d : Nat) : Int) k : Nat) : Int) := by rw [hdt, ctL_nth (by omega)]
      (refine R.stepV ?_; (repeat' (first | (with_reducible refine And.intro ?_ ?_) | (with_reducible intro _))); all_goals refine R.Lft.mk ?_)
      rename_i hM
      rw [hdt, ← ctL_succ hd (by omega)] at hM
      exact ⟨k + 1, ⟨rfl, rfl, rfl, rfl, rfl, rfl, R.viaI rfl (by omega), trivial⟩, ⟨by omega, hM⟩, by omega⟩
    · obtain rfl : k = x.s.n := by omega
      (refine R.stepV ?_; (repeat' (first | (with_reducible refine And.intro ?_ ?_) | (with_reducible intro _))); all_goals refine R.Lft.mk ?_)
      exact ⟨_, _, rfl, R.Own.gives R.ohm⟩
set_option maxHeartbeats 4000000 in
theorem rcounts_any (hb : netB x = true) : Calls Try.prog 42 #[.agg (cNt x).toArray] w fun e w' => ∃ A c, e = .returned (.slice A (cntsL (degL x.e.L x.s.n x.e.n)).length c) ∧ R.Gives w w' A (cntsL (degL x.e.L x.s.n x.e.n)).length c 3 1 ((cntsL (degL x.e.L x.s.n x.e.n)).flatMap R.cI) := by
  have hM := R.Own.start [] w
  have hk := netB_e hb
  have hsn : x.s.n ≤ 200000 := (netB_iff.1 hb).1
  refine R.calls_of_WC (fn := Try.f42) Try.func42 rfl Try.ntmps42 (Nat.le_of_ble_eq_true rfl) ?_
  (refine R.stepV ?_; (repeat' (first | (with_reducible refine And.intro ?_ ?_) | (with_reducible intro _))); all_goals refine R.Lft.mk ?_)
  refine R.WO_call1 rfl rfl R.vv ?_
  refine (rdeg_any x _ (GNt.now R.ohm hG) hb).mono ?_
  rintro _ w2 ⟨Al, cl, rfl, hGd⟩
  have hdi := deg_in x.e.L x.s.n x.e.n
  have hdl := degL_len x.e.L x.s.n x.e.n
  obtain ⟨D, hD⟩ : ∃ D, degL x.e.L x.s.n x.e.n = D := ⟨_, rfl⟩
  rw [hD] at hGd hdi hdl ⊢
  obtain ⟨m1, m2⟩ := cntM_le hdi
  have hmo := fun d => more_iff (d := d) hdi
  rw [hdl] at hmo
  have e0 : cntsL D = ctL D (cntM D) x.s.n := by unfold cntsL; rw [hdl]
  rw [e0, ctL_len]
  obtain ⟨M, hMM⟩ : ∃ M, cntM D = M := ⟨_, rfl⟩
  rw [hMM] at m1 hmo ⊢
  have hM := R.Own.give R.ohm hGd
  refine ⟨_, rfl, ?_⟩
  (refine R.stepV ?_; (repeat' (first | (with_reducible refine And.intro ?_ ?_) | (with_reducible intro _))); all_goals refine R.Lft.mk ?_)
  rename_i gn _ _ Ao co _ hM
  refine R.WC_loop (fun i : Nat × Option Addr × Nat => [(1, .pointer (some ⟨gn, 0, none⟩)), (2, .slice none 0 0), (3, .slice Al x.s.n cl), (4, .slice i.2.1 (min i.1 M) i.2.2), (5, .int .i64 (i.1 : Nat))])
    (fun i w2 => i.1 ≤ 2 * x.e.n + 1 ∧ R.Own [] w w2 [.row i.2.1 (min i.1 M) i.2.2 3 1 ((ctL D (min i.1 M) x.s.n).flatMap R.cI), .row Al x.s.n cl 3 1 (D.flatMap R.cI), .blk gn 44 (cNt x)]) (fun i => 2 * x.e.n + 1 - i.1)
    ⟨(0, Ao, co), ⟨rfl, rfl, rfl, R.viaS rfl (by dsimp only; omega), rfl, trivial⟩, Nat.zero_le _, by dsimp only; rw [Nat.zero_min]; exact hM⟩ ?_
  clear hM
  rintro ⟨d, Ao, co⟩ f w4 ⟨hd, hM⟩
  dsimp only at hd hM ⊢
  by_cases hlt : d ≤ 2 * x.e.n
  · (refine R.stepV ?_; (repeat' (first | (with_reducible refine And.intro ?_ ?_) | (with_reducible intro _))); all_goals refine R.Lft.mk ?_)
    refine R.WC_loop (fun i : Nat × Bool => [(1, .pointer (some ⟨gn, 0, none⟩)), (2, .slice none 0 0), (3, .slice Al x.s.n cl), (4, .slice Ao (min d M) co), (5, .int .i64 (d : Nat)), (6, .int .i64 ((ctN D ((d : Nat) : Int) i.1 : Nat) : Int)), (7, .bool i.2), (8, .int .i64 (i.1 : Nat))])
      (fun i w2 => i.1 ≤ x.s.n ∧ (i.2 = true ↔ ∃ u, u < i.1 ∧ ((d : Nat) : Int) ≤ nth D u) ∧ R.Own [] w w2 [.row Ao (min d M) co 3 1 ((ctL D (min d M) x.s.n).flatMap R.cI), .row Al x.s.n cl 3 1 (D.flatMap R.cI), .blk gn 44 (cNt x)]) (fun i => x.s.n - i.1)
      ⟨(0, false), ⟨rfl, rfl, rfl, rfl, rfl, rfl, rfl, rfl, trivial⟩, Nat.zero_le _, ⟨fun q => (by cases q), fun ⟨u, q, _⟩ => absurd q (Nat.not_lt_zero _)⟩, R.ohm⟩ ?_
    clear hM
    rintro ⟨v, mo⟩ f w5 ⟨hv, hmr, hM⟩
    dsimp only at hv hmr hM ⊢
    by_cases hvl : v < x.s.n
    · have c1 := ctN_le D ((d : Nat) : Int) v
      have hmt : ∀ b : Bool, (b = true ↔ mo = true ∨ ((d : Nat) : Int) ≤ nth D v) → (b = true ↔ ∃ u, u < v + 1 ∧ ((d : Nat) : Int) ≤ nth D u) := fun b hbb => by
        rw [hbb, hmr]
        constructor
        · rintro (⟨u, h1, h2⟩ | h)
          · exact ⟨u, by omega, h2⟩
          · exact ⟨v, by omega, h⟩
        · rintro ⟨u, h1, h2⟩
          rcases Nat.lt_or_ge u v with c | c
          · exact .inl ⟨u, c, h2⟩
          · exact .inr (by rw [show v = u by omega]; exact h2)
      have e1 : nth D v = ((d : Nat) : Int) → ctN D ((d : Nat) : Int) (v + 1) = ctN D ((d : Nat) : Int) v + 1 := fun h => by
        show ctN D ((d : Nat) : Int) v + (if _ then 1 else 0) = _
        rw [if_pos h]
      have e2 : ¬ nth D v = ((d : Nat) : Int) → ctN D ((d : Nat) : Int) (v + 1) = ctN D ((d : Nat) : Int) v := fun h => by
        show ctN D ((d : Nat) : Int) v + (if _ then 1 else 0) = _
        rw [if_neg h]
        rfl
      cases mo
      · by_cases hdd : nth D v = ((d : Nat) : Int)
        · (refine R.stepV ?_; (repeat' (first | (with_reducible refine And.intro ?_ ?_) | (with_reducible intro _))); all_goals refine R.Lft.mk ?_)
          exact ⟨(v + 1, decide (((d : Nat) : Int) ≤ nth D v)), ⟨rfl, rfl, rfl, rfl, rfl, R.viaI rfl (by dsimp only; rw [e1 hdd]; omega), rfl, R.viaI rfl (by dsimp only; omega), trivial⟩, ⟨by dsimp only; omega, hmt _ (by simp), R.ohm⟩, by dsimp only; omega⟩
        · (refine R.stepV ?_; (repeat' (first | (with_reducible refine And.intro ?_ ?_) | (with_reducible intro _))); all_goals refine R.Lft.mk ?_)
          exact ⟨(v + 1, decide (((d : Nat) : Int) ≤ nth D v)), ⟨rfl, rfl, rfl, rfl, rfl, R.viaI rfl (by dsimp only; rw [e2 hdd]), rfl, R.viaI rfl (by dsimp only; omega), trivial⟩, ⟨by dsimp only; omega, hmt _ (by simp), R.ohm⟩, by dsimp only; omega⟩
      · by_cases hdd : nth D v = ((d : Nat) : Int)
        · (refine R.stepV ?_; (repeat' (first | (with_reducible refine And.intro ?_ ?_) | (with_reducible intro _))); all_goals refine R.Lft.mk ?_)
          exact ⟨(v + 1, true), ⟨rfl, rfl, rfl, rfl, rfl, R.viaI rfl (by dsimp only; rw [e1 hdd]; omega), rfl, R.viaI rfl (by dsimp only; omega), trivial⟩, ⟨by dsimp only; omega, hmt _ (by simp), R.ohm⟩, by dsimp only; omega⟩
        · (refine R.stepV ?_; (repeat' (first | (with_reducible refine And.intro ?_ ?_) | (with_reducible intro _))); all_goals refine R.Lft.mk ?_)
          exact ⟨(v + 1, true), ⟨rfl, rfl, rfl, rfl, rfl, R.viaI rfl (by dsimp only; rw [e2 hdd]), rfl, R.viaI rfl (by dsimp only; omega), trivial⟩, ⟨by dsimp only; omega, hmt _ (by simp), R.ohm⟩, by dsimp only; omega⟩
    · obtain rfl : v = x.s.n := by omega
      rw [hmo] at hmr
      cases mo with
      | true =>
        have hdm := hmr.1 rfl
        have e3 : min d M = d := by omega
        have e4 : min (d + 1) M = d + 1 := by omega
        have e5 := ctL_snoc D d x.s.n
        have e6 := ctN_le D ((d : Nat) : Int) x.s.n
        rw [e3] at hM ⊢
        have e7 := ctL_len D d x.s.n
        (refine R.stepV ?_; (repeat' (first | (with_reducible refine And.intro ?_ ?_) | (with_reducible intro _))); all_goals refine R.Lft.mk ?_)
        rename_i A2 c2 _ hM
        rw [← e5] at hM
        refine ⟨(d + 1, A2, c2), ⟨rfl, rfl, rfl, R.viaS rfl (by dsimp only; omega), R.viaI rfl (by dsimp only; omega), trivial⟩, ⟨by dsimp only; omega, ?_⟩, by dsimp only; omega⟩
        dsimp only
        rw [e4]
        exact hM
      | false =>
        have hdm : ¬ d < M := fun q => by have := hmr.2 q; cases this
        have e4 : min (d + 1) M = min d M := by omega
        (refine R.stepV ?_; (repeat' (first | (with_reducible refine And.intro ?_ ?_) | (with_reducible intro _))); all_goals refine R.Lft.mk ?_)
        refine ⟨(d + 1, Ao, co), ⟨rfl, rfl, rfl, R.viaS rfl (by dsimp only; omega), R.viaI rfl (by dsimp only; omega), trivial⟩, ⟨by dsimp only; omega, ?_⟩, by dsimp only; omega⟩
        dsimp only
        rw [e4]
        exact R.ohm
  · obtain rfl : d = 2 * x.e.n + 1 := by omega
    have e3 : min (2 * x.e.n + 1) M = M := by omega
    rw [e3] at hM ⊢
    (refine R.stepV ?_; (repeat' (first | (with_reducible refine And.intro ?_ ?_) | (with_reducible intro _))); all_goals refine R.Lft.mk ?_)
    exact ⟨_, _, rfl, R.Own.gives R.ohm⟩
end
end Go.Proofs.Ytoainfnhmdcpoaa
