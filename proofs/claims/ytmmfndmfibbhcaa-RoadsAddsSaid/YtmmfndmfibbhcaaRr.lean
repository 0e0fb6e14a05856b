/- The law RoadsAdds: the walk. -/
import Derived.Test.YtmmfndmfibbhcaaRq
namespace Go.Proofs.Ytmmfndmfibbhcaa
open Go.ChangeShapes Go.WideShapes Go.ChangeAt Go.RowKit
open R (In64 InU64 lo64 nth)
theorem groad_zero (w : World) : GRoad w ⟨0, ⟨none, 0, 0, []⟩, ⟨none, 0, 0, []⟩, false⟩ :=
  ⟨(by decide : (Lit.int .i64 0).wf = true), ⟨R.Own.inp (R.Own.nil (R.Own.start [] w) 112 2) (.head _), rfl, ⟨Nat.le_refl _, Nat.zero_le _⟩, fun v hv => (by cases hv)⟩, ⟨R.Own.inp (R.Own.nil (R.Own.start [] w) 3 1) (.head _), rfl, ⟨Nat.le_refl _, Nat.zero_le _⟩, fun v hv => (by cases hv)⟩, trivial⟩
theorem one_id {L : List Road} (hr : Rises L L.length) {k : Nat} (hk : k < L.length) {z : Road} (hz : z ∈ L) (he : z.rank = (nth L k).rank) : z = nth L k := by
  obtain ⟨j, hj, rfl⟩ := mem_nthR hz
  rcases Nat.lt_trichotomy j k with h | rfl | h
  · have := rises_lt hr h hk
    omega
  · rfl
  · have := rises_lt hr h hj
    omega
theorem mem_ids {L : List Road} {t : Int} : t ∈ ids L ↔ ∃ j, j < L.length ∧ (nth L j).rank = t := by
  constructor
  · intro h
    obtain ⟨z, hz, he⟩ := List.mem_map.1 h
    obtain ⟨j, hj, rfl⟩ := mem_nthR hz
    exact ⟨j, hj, he⟩
  · rintro ⟨j, hj, rfl⟩
    exact List.mem_map_of_mem (R.nth_mem hj)
section
variable (A : Option Addr) (n c : Nat) (L : List Road) (x : Road) (t : Int) (w : World) (hA : R.Inp [] w A n 4 (L.flatMap cRoad)) (hn : n = L.length) (hbn : n ≤ 9223372036854775807) (hG : ∀ x ∈ L, GRoad w x) (hx : GRoad w x)
include hA hn hbn hG hx
set_option maxRecDepth 4000 in
set_option maxHeartbeats 16000000 in
theorem roadsAdds_any : Calls Try.prog 15 #[.slice A n c, .agg (cRoad x).toArray, .int .i64 t] w fun e w' => e = .returned (.bool true) ∧ Below w.heap.size w w' := by
  have hM := R.Own.start [] w
  refine R.calls_of_WC (fn := Try.f15) Try.func15 rfl Try.ntmps15 (Nat.le_of_ble_eq_true rfl) ?_
  (refine R.stepH ?_; (repeat' (first | (with_reducible refine And.intro ?_ ?_) | (with_reducible intro _))); all_goals refine R.Lft.mk ?_)
  rename_i bx _ hM
  refine R.WO_call1 rfl rfl R.vv ?_
  refine (light_any A n c L _ (R.Own.inpIn R.ohm hA) hn hbn fun z hz => GRoad.now R.ohm (hG z hz)).mono ?_
  rintro _ w3 ⟨b1, rfl, hw3, h1⟩
  subst hw3
  refine ⟨_, rfl, ?_⟩
  cases b1
  · (refine R.stepH ?_; (repeat' (first | (with_reducible refine And.intro ?_ ?_) | (with_reducible intro _))); all_goals refine R.Lft.mk ?_; (all_goals (try (exact ⟨rfl, R.Own.below (by assumption)⟩))))
  obtain ⟨hl1, hs1⟩ := h1 rfl
  (refine R.stepH ?_; (repeat' (first | (with_reducible refine And.intro ?_ ?_) | (with_reducible intro _))); all_goals refine R.Lft.mk ?_)
  rename_i B d w4 hM
  have hGx1 : ∀ z ∈ [x], GRoad w4 z := fun z hz => by
    rw [List.mem_singleton.1 hz]
    exact GRoad.now hM hx
  refine R.WO_call1 rfl rfl R.vv ?_
  refine (light_any B 1 d [x] _ (R.Own.inp hM (.head _)) rfl (by omega) hGx1).mono ?_
  rintro _ w5 ⟨b2, rfl, hw5, h2⟩
  subst hw5
  refine ⟨_, rfl, ?_⟩
  cases b2
  · (refine R.stepH ?_; (repeat' (first | (with_reducible refine And.intro ?_ ?_) | (with_reducible intro _))); all_goals refine R.Lft.mk ?_; (all_goals (try (exact ⟨rfl, R.Own.below (by assumption)⟩))))
  obtain ⟨hl2, hs2⟩ := h2 rfl
  have hsx := hs2 x (.head _)
  have hM := R.dr (.row B _ _ _ _ _) hM
  have hsL : ∀ z ∈ L, z.p.n ≤ 1000000000 ∧ z.q.n ≤ 1000000000 := fun z hz => by have := hs1 z hz; omega
  have hokL := okL_of hG
  have wx : WL x := ⟨hx.2.1.2.1, hx.2.2.1.2.1⟩
  (refine R.stepH ?_; (repeat' (first | (with_reducible refine And.intro ?_ ?_) | (with_reducible intro _))); all_goals refine R.Lft.mk ?_)
  refine R.WO_call2 rfl rfl R.vv R.vv ?_
  refine (add_any A n c L x _ (R.Own.inpIn R.ohm hA) hn (by omega) (fun z hz => GRoad.now R.ohm (hG z hz)) (GRoad.now R.ohm hx) hsL).mono ?_
  rintro _ w6 ⟨A1, c1, M1, hv1, hk1, rfl, hO1⟩
  have hM := R.Own.giveN R.ohm hO1
  refine ⟨_, rfl, ?_⟩
  (refine R.stepH ?_; (repeat' (first | (with_reducible refine And.intro ?_ ?_) | (with_reducible intro _))); all_goals refine R.Lft.mk ?_)
  refine R.WO_call2 rfl rfl R.vv R.vv ?_
  refine (drop_any A n c L t w6 (R.Own.inpIn hM hA) hn (by omega) (fun z hz => GRoad.now hM (hG z hz)) hsL).mono ?_
  rintro _ w7 ⟨A2, c2, M2, hv2, hk2, rfl, hO2⟩
  have hM := R.Own.giveN hM hO2
  refine ⟨_, rfl, ?_⟩
  (refine R.stepH ?_; (repeat' (first | (with_reducible refine And.intro ?_ ?_) | (with_reducible intro _))); all_goals refine R.Lft.mk ?_)
  refine R.WO_call2 rfl rfl R.vv R.vv ?_
  refine (add11_any A n c L x w7 (R.Own.inpIn hM hA) hn (by omega) (fun z hz => GRoad.now hM (hG z hz)) (GRoad.now hM hx) hsL (by omega)).mono ?_
  rintro _ w8 ⟨A3, c3, M3, hv3, rfl, hO3⟩
  have hM := R.Own.give hM hO3
  refine ⟨_, rfl, ?_⟩
  (refine R.stepH ?_; (repeat' (first | (with_reducible refine And.intro ?_ ?_) | (with_reducible intro _))); all_goals refine R.Lft.mk ?_)
  refine R.WO_call2 rfl rfl R.vv R.vv ?_
  refine (drop11_any A n c L t w8 (R.Own.inpIn hM hA) hn (by omega) (fun z hz => GRoad.now hM (hG z hz)) hsL).mono ?_
  rintro _ w9 ⟨A4, c4, M4, hv4, rfl, hO4⟩
  have hM := R.Own.give hM hO4
  refine ⟨_, rfl, ?_⟩
  (refine R.stepH ?_; (repeat' (first | (with_reducible refine And.intro ?_ ?_) | (with_reducible intro _))); all_goals refine R.Lft.mk ?_)
  refine R.WO_call2 rfl rfl R.vv R.vv ?_
  refine (find_any A n c L t w9 (R.Own.inpIn hM hA) hn (by omega) (fun z hz => GRoad.now hM (hG z hz)) hsL).mono ?_
  rintro _ w10 ⟨y, b, rfl, hyw, hbv, hyt, hyf, hO5⟩
  have hM := R.Own.giveN hM hO5
  refine ⟨_, rfl, ?_⟩
  rw [← hv3] at hv1
  rw [← hv4] at hv2
  have hG3 : ∀ z ∈ M3, GRoad w z := fun z hz => by
    rw [hv3] at hz
    split at hz
    · rcases insR_mem hz with rfl | h
      · exact hx
      · exact hG z h
    · cases hz
  have hG4 : ∀ z ∈ M4, GRoad w z := fun z hz => by
    rw [hv4] at hz
    split at hz
    · exact hG z (List.mem_filter.1 hz).1
    · cases hz
  have hl3 : M1.length ≤ 100000 := by
    rw [(nth_map hv1).1, hv3]
    split
    · rename_i h0
      obtain ⟨q1, q2, q3, q4⟩ := errAdd_ok h0
      rw [insR_len (errAll_ok q1).2.2.1 q3]
      omega
    · exact Nat.zero_le _
  have hl4 : M2.length ≤ 100000 := by
    rw [(nth_map hv2).1, hv4]
    split
    · unfold dropL
      have := List.length_filter_le (fun z : Road => decide (z.rank ≠ t)) L
      omega
    · exact Nat.zero_le _
  have q13 : eqRs M1 M3 = true := decide_eq_true hv1
  have q24 : eqRs M2 M4 = true := decide_eq_true hv2
  clear hv3 hv4
  (refine R.stepH ?_; (repeat' (first | (with_reducible refine And.intro ?_ ?_) | (with_reducible intro _))); all_goals refine R.Lft.mk ?_)
  rename_i by0 _ _ w11 hM
  simp only [List.cons_append, List.append_assoc, List.nil_append] at hM
  refine R.WO_call1 rfl rfl R.vv ?_
  refine (all11_any A n c L w11 (R.Own.inpIn hM hA) hn (by omega) (fun z hz => GRoad.now hM (hG z hz)) fun z hz => (hsL z hz).2).mono ?_
  rintro _ w12 ⟨rfl, hb12⟩
  have hM := R.Own.call hM hb12
  refine ⟨_, rfl, ?_⟩
  by_cases h0 : errAll L ≠ 0
  · obtain rfl : b = false := by rw [hbv]; exact decide_eq_false fun h => h0 h.1
    (refine R.stepH ?_; (repeat' (first | (with_reducible refine And.intro ?_ ?_) | (with_reducible intro _))); all_goals refine R.Lft.mk ?_)
    refine R.WC_planO [(0, false), (2, false), (1, true), (3, true), (4, false), (5, false), (6, false), (8, false), (7, true), (9, true), (10, false), (11, false), (12, false), (13, false), (14, false), (15, false), (16, false), (17, false), (18, false), (19, false), (20, false), (21, false), (22, false), (23, false), (24, false), (25, true), (26, false), (27, false), (28, false), (29, false), (30, true), (31, false), (32, false), (33, false), (34, false), (35, false), (36, false), (37, false), (38, false), (39, false), (40, false), (41, false), (42, true), (43, false), (44, false), (45, false), (46, true), (47, false), (48, false)] R.mixed (by decide +kernel) R.ohm ?_
    (refine R.stepH ?_; (repeat' (first | (with_reducible refine And.intro ?_ ?_) | (with_reducible intro _))); all_goals refine R.Lft.mk ?_)
    refine R.WO_call1 rfl rfl R.vv ?_
    refine (rcheck_any x _ (GRoad.now R.ohm hx)).mono ?_
    rintro _ v1 ⟨rfl, hc1⟩
    have hM := R.Own.call R.ohm hc1
    first
      | refine ⟨_, rfl, hM, ?_⟩
      | refine ⟨_, rfl, ?_⟩
    (refine R.stepH ?_; (repeat' (first | (with_reducible refine And.intro ?_ ?_) | (with_reducible intro _))); all_goals refine R.Lft.mk ?_)
    refine R.WO_call1 rfl rfl R.vv ?_
    refine (rcheck11_any x _ (GRoad.now R.ohm hx) (by omega)).mono ?_
    rintro _ v2 ⟨rfl, hc2⟩
    have hM := R.Own.call R.ohm hc2
    first
      | refine ⟨_, rfl, hM, ?_⟩
      | refine ⟨_, rfl, ?_⟩
    (refine R.stepH ?_; (repeat' (first | (with_reducible refine And.intro ?_ ?_) | (with_reducible intro _))); all_goals refine R.Lft.mk ?_)
    all_goals first
      | exact absurd rfl ‹¬ errR x = errR x›
      | skip
    refine R.WO_call1 rfl rfl R.vv ?_
    refine (all_any A n c L _ (R.Own.inpIn R.ohm hA) hn (by omega) (fun z hz => GRoad.now R.ohm (hG z hz))).mono ?_
    rintro _ v3 ⟨rfl, hc3⟩
    have hM := R.Own.call R.ohm hc3
    first
      | refine ⟨_, rfl, hM, ?_⟩
      | refine ⟨_, rfl, ?_⟩
    (refine R.stepH ?_; (repeat' (first | (with_reducible refine And.intro ?_ ?_) | (with_reducible intro _))); all_goals refine R.Lft.mk ?_)
    refine R.WO_call1 rfl rfl R.vv ?_
    refine (all11_any A n c L _ (R.Own.inpIn R.ohm hA) hn (by omega) (fun z hz => GRoad.now R.ohm (hG z hz)) fun z hz => (hsL z hz).2).mono ?_
    rintro _ v4 ⟨rfl, hc4⟩
    have hM := R.Own.call R.ohm hc4
    first
      | refine ⟨_, rfl, hM, ?_⟩
      | refine ⟨_, rfl, ?_⟩
    (refine R.stepH ?_; (repeat' (first | (with_reducible refine And.intro ?_ ?_) | (with_reducible intro _))); all_goals refine R.Lft.mk ?_)
    all_goals first
      | exact absurd rfl ‹¬ errAll L = errAll L›
      | skip
    all_goals first
      | exact absurd rfl ‹¬ errAdd L x = errAdd L x›
      | skip
    all_goals first
      | exact absurd rfl ‹¬ errDrop L t = errDrop L t›
      | skip
    refine R.WO_call2 rfl rfl R.vv R.vv ?_
    refine (same11_any A1 A3 M1.length c1 M3.length c3 M1 M3 v4 (R.Own.inp (c := c1) (e := 101) hM (by simp)) (R.Own.inp (c := c3) (e := 101) hM (by simp)) rfl rfl (by omega) (GRoads.of hG3 hv1 hk1 hM (fun r hr => by simp [hr])) (fun z hz => GRoad.now hM (hG3 z hz))).mono ?_
    rintro _ v5 ⟨rfl, hc5⟩
    have hM := R.Own.call R.ohm hc5
    first
      | refine ⟨_, rfl, hM, ?_⟩
      | refine ⟨_, rfl, ?_⟩
    rw [q13]
    (refine R.stepH ?_; (repeat' (first | (with_reducible refine And.intro ?_ ?_) | (with_reducible intro _))); all_goals refine R.Lft.mk ?_)
    refine R.WO_call2 rfl rfl R.vv R.vv ?_
    refine (same11_any A2 A4 M2.length c2 M4.length c4 M2 M4 v5 (R.Own.inp (c := c2) (e := 101) hM (by simp)) (R.Own.inp (c := c4) (e := 101) hM (by simp)) rfl rfl (by omega) (GRoads.of hG4 hv2 hk2 hM (fun r hr => by simp [hr])) (fun z hz => GRoad.now hM (hG4 z hz))).mono ?_
    rintro _ v6 ⟨rfl, hc6⟩
    have hM := R.Own.call R.ohm hc6
    first
      | refine ⟨_, rfl, hM, ?_⟩
      | refine ⟨_, rfl, ?_⟩
    rw [q24]
    (refine R.stepH ?_; (repeat' (first | (with_reducible refine And.intro ?_ ?_) | (with_reducible intro _))); all_goals refine R.Lft.mk ?_)
    refine R.WO_call2 rfl rfl R.vv R.vv ?_
    refine (one_any y ⟨0, ⟨none, 0, 0, []⟩, ⟨none, 0, 0, []⟩, false⟩ v6 (by rw [hyf rfl]; exact groad_zero v6) (groad_zero v6)).mono ?_
    rintro _ v7 ⟨rfl, hc7⟩
    have hM := R.Own.call R.ohm hc7
    first
      | refine ⟨_, rfl, hM, ?_⟩
      | refine ⟨_, rfl, ?_⟩
    rw [show eqR y ⟨0, ⟨none, 0, 0, []⟩, ⟨none, 0, 0, []⟩, false⟩ = true from decide_eq_true (congrArg vR (hyf rfl))]
    (refine R.stepH ?_; (repeat' (first | (with_reducible refine And.intro ?_ ?_) | (with_reducible intro _))); all_goals refine R.Lft.mk ?_; (all_goals (try (exact ⟨rfl, R.Own.below (by assumption)⟩))))
  have h0 := Decidable.not_not.1 h0
  obtain ⟨_, _, hr, _⟩ := errAll_ok h0
  have hbm : b = true ↔ t ∈ ids L := by
    rw [hbv, decide_eq_true_eq]
    exact ⟨fun h => h.2, fun h => ⟨h0, h⟩⟩
  have hGy : ∀ w', (∃ l, R.Own [] w w' l ∧ ∀ r ∈ nest y, r ∈ l) → b = true → GRoad w' y := fun w' ⟨l, hO, hm⟩ hb => by
    obtain ⟨z, hz, _, hyz⟩ := hyt hb
    exact GRoad.of (hG z hz) hyz hyw hO hm
  rw [h0]
  (refine R.stepH ?_; (repeat' (first | (with_reducible refine And.intro ?_ ?_) | (with_reducible intro _))); all_goals refine R.Lft.mk ?_)
  refine R.WC_loop (fun s : Nat × Bool => [(0, .slice A n c), (2, .int .i64 t), (4, .pointer (some ⟨bx, 0, none⟩)), (6, .bool false), (7, .slice A1 M1.length c1), (8, .int .i64 (errAdd L x)), (9, .slice A2 M2.length c2), (10, .int .i64 (errDrop L t)), (11, .slice A3 M3.length c3), (12, .int .i64 (errAdd L x)), (13, .slice A4 M4.length c4), (14, .int .i64 (errDrop L t)), (15, .pointer (some ⟨by0, 0, none⟩)), (16, .bool b), (17, .bool s.2), (18, .int .i64 (s.1 : Nat))])
    (fun s w1 => s.1 ≤ n ∧ (s.2 = true ↔ ∃ j, j < s.1 ∧ (nth L j).rank = t) ∧ R.Own [] w w1 (.blk by0 101 (cRoad y) :: .row A4 M4.length c4 101 4 (M4.flatMap cRoad) :: .row A3 M3.length c3 101 4 (M3.flatMap cRoad) :: .blk bx 101 (cRoad x) :: .row A1 M1.length c1 101 4 (M1.flatMap cRoad) :: (nests M1 ++ .row A2 M2.length c2 101 4 (M2.flatMap cRoad) :: (nests M2 ++ nest y)))) (fun s => n - s.1)
    ⟨(0, false), ⟨rfl, rfl, rfl, rfl, rfl, rfl, rfl, rfl, rfl, rfl, rfl, rfl, rfl, rfl, rfl, rfl, trivial⟩, Nat.zero_le _, ⟨fun h => (by cases h), fun ⟨j, hj, _⟩ => absurd hj (Nat.not_lt_zero _)⟩, R.ohm⟩ ?_
  clear hM
  rintro ⟨k, th⟩ f w13 ⟨hk, hth, hM⟩
  dsimp only at hk hth hM ⊢
  by_cases hlt : k < n
  · by_cases hkt : (nth L k).rank = t
    · have hbt : b = true := hbm.2 (mem_ids.2 ⟨k, by omega, hkt⟩)
      (refine R.stepH ?_; (repeat' (first | (with_reducible refine And.intro ?_ ?_) | (with_reducible intro _))); all_goals refine R.Lft.mk ?_)
      obtain ⟨z, hz, hzr, hyz⟩ := hyt hbt
      have hzk : z = nth L k := one_id hr (by omega) hz (by omega)
      have hey : eqR y (nth L k) = true := decide_eq_true (by rw [hyz, hzk])
      refine R.WO_call2 rfl rfl R.vv R.vv ?_
      refine (one_any y (nth L k) _ (hGy _ ⟨_, R.ohm, fun r hr => by simp [hr]⟩ hbt) (GRoad.now R.ohm (hG _ (R.nth_mem (by omega))))).mono ?_
      rintro _ w14 ⟨rfl, hb14⟩
      have hM := R.Own.call R.ohm hb14
      first
        | refine ⟨_, rfl, hM, ?_⟩
        | refine ⟨_, rfl, ?_⟩
      rw [hey]
      (refine R.stepH ?_; (repeat' (first | (with_reducible refine And.intro ?_ ?_) | (with_reducible intro _))); all_goals refine R.Lft.mk ?_)
      exact ⟨(k + 1, true), ⟨rfl, rfl, rfl, rfl, rfl, rfl, rfl, rfl, rfl, rfl, rfl, rfl, rfl, rfl, rfl, R.viaI rfl (by dsimp only; omega), trivial⟩, ⟨by dsimp only; omega, ⟨fun _ => ⟨k, Nat.lt_succ_self k, hkt⟩, fun _ => rfl⟩, R.ohm⟩, by dsimp only; omega⟩
    · (refine R.stepH ?_; (repeat' (first | (with_reducible refine And.intro ?_ ?_) | (with_reducible intro _))); all_goals refine R.Lft.mk ?_)
      refine ⟨(k + 1, th), ⟨rfl, rfl, rfl, rfl, rfl, rfl, rfl, rfl, rfl, rfl, rfl, rfl, rfl, rfl, rfl, R.viaI rfl (by dsimp only; omega), trivial⟩, ⟨by dsimp only; omega, ⟨fun h => ?_, fun ⟨j, hj, he⟩ => ?_⟩, R.ohm⟩, by dsimp only; omega⟩
      · obtain ⟨j, hj, he⟩ := hth.1 h
        exact ⟨j, by dsimp only; omega, he⟩
      · dsimp only at hj
        refine hth.2 ⟨j, ?_, he⟩
        rcases Nat.lt_succ_iff_lt_or_eq.1 hj with h | rfl
        · exact h
        · exact absurd he hkt
  have hthb : th = b := by
    rw [Bool.eq_iff_iff, hth, hbm, mem_ids]
    constructor
    · rintro ⟨j, hj, he⟩
      exact ⟨j, by omega, he⟩
    · rintro ⟨j, hj, he⟩
      exact ⟨j, by omega, he⟩
  subst hthb
  cases th
  · (refine R.stepH ?_; (repeat' (first | (with_reducible refine And.intro ?_ ?_) | (with_reducible intro _))); all_goals refine R.Lft.mk ?_)
    refine R.WC_planO [(0, false), (2, false), (1, true), (3, true), (4, false), (5, false), (6, false), (8, false), (7, true), (9, true), (10, false), (11, false), (12, false), (13, false), (14, false), (15, false), (16, false), (17, false), (18, false), (19, false), (20, false), (21, false), (22, false), (23, false), (24, false), (25, true), (26, false), (27, false), (28, false), (29, false), (30, true), (31, false), (32, false), (33, false), (34, false), (35, false), (36, false), (37, false), (38, false), (39, false), (40, false), (41, false), (42, true), (43, false), (44, false), (45, false), (46, true), (47, false), (48, false)] R.mixed (by decide +kernel) R.ohm ?_
    (refine R.stepH ?_; (repeat' (first | (with_reducible refine And.intro ?_ ?_) | (with_reducible intro _))); all_goals refine R.Lft.mk ?_)
    refine R.WO_call1 rfl rfl R.vv ?_
    refine (rcheck_any x _ (GRoad.now R.ohm hx)).mono ?_
    rintro _ v1 ⟨rfl, hc1⟩
    have hM := R.Own.call R.ohm hc1
    first
      | refine ⟨_, rfl, hM, ?_⟩
      | refine ⟨_, rfl, ?_⟩
    (refine R.stepH ?_; (repeat' (first | (with_reducible refine And.intro ?_ ?_) | (with_reducible intro _))); all_goals refine R.Lft.mk ?_)
    refine R.WO_call1 rfl rfl R.vv ?_
    refine (rcheck11_any x _ (GRoad.now R.ohm hx) (by omega)).mono ?_
    rintro _ v2 ⟨rfl, hc2⟩
    have hM := R.Own.call R.ohm hc2
    first
      | refine ⟨_, rfl, hM, ?_⟩
      | refine ⟨_, rfl, ?_⟩
    (refine R.stepH ?_; (repeat' (first | (with_reducible refine And.intro ?_ ?_) | (with_reducible intro _))); all_goals refine R.Lft.mk ?_)
    all_goals first
      | exact absurd rfl ‹¬ errR x = errR x›
      | skip
    refine R.WO_call1 rfl rfl R.vv ?_
    refine (all_any A n c L _ (R.Own.inpIn R.ohm hA) hn (by omega) (fun z hz => GRoad.now R.ohm (hG z hz))).mono ?_
    rintro _ v3 ⟨rfl, hc3⟩
    have hM := R.Own.call R.ohm hc3
    first
      | refine ⟨_, rfl, hM, ?_⟩
      | refine ⟨_, rfl, ?_⟩
    (refine R.stepH ?_; (repeat' (first | (with_reducible refine And.intro ?_ ?_) | (with_reducible intro _))); all_goals refine R.Lft.mk ?_)
    refine R.WO_call1 rfl rfl R.vv ?_
    refine (all11_any A n c L _ (R.Own.inpIn R.ohm hA) hn (by omega) (fun z hz => GRoad.now R.ohm (hG z hz)) fun z hz => (hsL z hz).2).mono ?_
    rintro _ v4 ⟨rfl, hc4⟩
    have hM := R.Own.call R.ohm hc4
    first
      | refine ⟨_, rfl, hM, ?_⟩
      | refine ⟨_, rfl, ?_⟩
    (refine R.stepH ?_; (repeat' (first | (with_reducible refine And.intro ?_ ?_) | (with_reducible intro _))); all_goals refine R.Lft.mk ?_)
    all_goals first
      | exact absurd rfl ‹¬ errAll L = errAll L›
      | skip
    all_goals first
      | exact absurd rfl ‹¬ errAdd L x = errAdd L x›
      | skip
    all_goals first
      | exact absurd rfl ‹¬ errDrop L t = errDrop L t›
      | skip
    refine R.WO_call2 rfl rfl R.vv R.vv ?_
    refine (same11_any A1 A3 M1.length c1 M3.length c3 M1 M3 v4 (R.Own.inp (c := c1) (e := 101) hM (by simp)) (R.Own.inp (c := c3) (e := 101) hM (by simp)) rfl rfl (by omega) (GRoads.of hG3 hv1 hk1 hM (fun r hr => by simp [hr])) (fun z hz => GRoad.now hM (hG3 z hz))).mono ?_
    rintro _ v5 ⟨rfl, hc5⟩
    have hM := R.Own.call R.ohm hc5
    first
      | refine ⟨_, rfl, hM, ?_⟩
      | refine ⟨_, rfl, ?_⟩
    rw [q13]
    (refine R.stepH ?_; (repeat' (first | (with_reducible refine And.intro ?_ ?_) | (with_reducible intro _))); all_goals refine R.Lft.mk ?_)
    refine R.WO_call2 rfl rfl R.vv R.vv ?_
    refine (same11_any A2 A4 M2.length c2 M4.length c4 M2 M4 v5 (R.Own.inp (c := c2) (e := 101) hM (by simp)) (R.Own.inp (c := c4) (e := 101) hM (by simp)) rfl rfl (by omega) (GRoads.of hG4 hv2 hk2 hM (fun r hr => by simp [hr])) (fun z hz => GRoad.now hM (hG4 z hz))).mono ?_
    rintro _ v6 ⟨rfl, hc6⟩
    have hM := R.Own.call R.ohm hc6
    first
      | refine ⟨_, rfl, hM, ?_⟩
      | refine ⟨_, rfl, ?_⟩
    rw [q24]
    (refine R.stepH ?_; (repeat' (first | (with_reducible refine And.intro ?_ ?_) | (with_reducible intro _))); all_goals refine R.Lft.mk ?_)
    refine R.WO_call2 rfl rfl R.vv R.vv ?_
    refine (one_any y ⟨0, ⟨none, 0, 0, []⟩, ⟨none, 0, 0, []⟩, false⟩ v6 (by rw [hyf rfl]; exact groad_zero v6) (groad_zero v6)).mono ?_
    rintro _ v7 ⟨rfl, hc7⟩
    have hM := R.Own.call R.ohm hc7
    first
      | refine ⟨_, rfl, hM, ?_⟩
      | refine ⟨_, rfl, ?_⟩
    rw [show eqR y ⟨0, ⟨none, 0, 0, []⟩, ⟨none, 0, 0, []⟩, false⟩ = true from decide_eq_true (congrArg vR (hyf rfl))]
    (refine R.stepH ?_; (repeat' (first | (with_reducible refine And.intro ?_ ?_) | (with_reducible intro _))); all_goals refine R.Lft.mk ?_; (all_goals (try (exact ⟨rfl, R.Own.below (by assumption)⟩))))
  · (refine R.stepH ?_; (repeat' (first | (with_reducible refine And.intro ?_ ?_) | (with_reducible intro _))); all_goals refine R.Lft.mk ?_)
    refine R.WC_planO [(0, false), (2, false), (1, true), (3, true), (4, false), (5, false), (6, false), (8, false), (7, true), (9, true), (10, false), (11, false), (12, false), (13, false), (14, false), (15, false), (16, false), (17, false), (18, false), (19, false), (20, false), (21, false), (22, false), (23, false), (24, false), (25, true), (26, false), (27, false), (28, false), (29, false), (30, true), (31, false), (32, false), (33, false), (34, false), (35, false), (36, false), (37, false), (38, false), (39, false), (40, false), (41, false), (42, true), (43, false), (44, false), (45, false), (46, true), (47, false), (48, false)] R.mixed (by decide +kernel) R.ohm ?_
    (refine R.stepH ?_; (repeat' (first | (with_reducible refine And.intro ?_ ?_) | (with_reducible intro _))); all_goals refine R.Lft.mk ?_)
    refine R.WO_call1 rfl rfl R.vv ?_
    refine (rcheck_any x _ (GRoad.now R.ohm hx)).mono ?_
    rintro _ v1 ⟨rfl, hc1⟩
    have hM := R.Own.call R.ohm hc1
    first
      | refine ⟨_, rfl, hM, ?_⟩
      | refine ⟨_, rfl, ?_⟩
    (refine R.stepH ?_; (repeat' (first | (with_reducible refine And.intro ?_ ?_) | (with_reducible intro _))); all_goals refine R.Lft.mk ?_)
    refine R.WO_call1 rfl rfl R.vv ?_
    refine (rcheck11_any x _ (GRoad.now R.ohm hx) (by omega)).mono ?_
    rintro _ v2 ⟨rfl, hc2⟩
    have hM := R.Own.call R.ohm hc2
    first
      | refine ⟨_, rfl, hM, ?_⟩
      | refine ⟨_, rfl, ?_⟩
    (refine R.stepH ?_; (repeat' (first | (with_reducible refine And.intro ?_ ?_) | (with_reducible intro _))); all_goals refine R.Lft.mk ?_)
    all_goals first
      | exact absurd rfl ‹¬ errR x = errR x›
      | skip
    refine R.WO_call1 rfl rfl R.vv ?_
    refine (all_any A n c L _ (R.Own.inpIn R.ohm hA) hn (by omega) (fun z hz => GRoad.now R.ohm (hG z hz))).mono ?_
    rintro _ v3 ⟨rfl, hc3⟩
    have hM := R.Own.call R.ohm hc3
    first
      | refine ⟨_, rfl, hM, ?_⟩
      | refine ⟨_, rfl, ?_⟩
    (refine R.stepH ?_; (repeat' (first | (with_reducible refine And.intro ?_ ?_) | (with_reducible intro _))); all_goals refine R.Lft.mk ?_)
    refine R.WO_call1 rfl rfl R.vv ?_
    refine (all11_any A n c L _ (R.Own.inpIn R.ohm hA) hn (by omega) (fun z hz => GRoad.now R.ohm (hG z hz)) fun z hz => (hsL z hz).2).mono ?_
    rintro _ v4 ⟨rfl, hc4⟩
    have hM := R.Own.call R.ohm hc4
    first
      | refine ⟨_, rfl, hM, ?_⟩
      | refine ⟨_, rfl, ?_⟩
    (refine R.stepH ?_; (repeat' (first | (with_reducible refine And.intro ?_ ?_) | (with_reducible intro _))); all_goals refine R.Lft.mk ?_)
    all_goals first
      | exact absurd rfl ‹¬ (0 : Int) = (0 : Int)›
      | skip
    all_goals first
      | exact absurd rfl ‹¬ errAll L = errAll L›
      | skip
    all_goals first
      | exact absurd rfl ‹¬ errAdd L x = errAdd L x›
      | skip
    all_goals first
      | exact absurd rfl ‹¬ errDrop L t = errDrop L t›
      | skip
    refine R.WO_call2 rfl rfl R.vv R.vv ?_
    refine (same11_any A1 A3 M1.length c1 M3.length c3 M1 M3 v4 (R.Own.inp (c := c1) (e := 101) hM (by simp)) (R.Own.inp (c := c3) (e := 101) hM (by simp)) rfl rfl (by omega) (GRoads.of hG3 hv1 hk1 hM (fun r hr => by simp [hr])) (fun z hz => GRoad.now hM (hG3 z hz))).mono ?_
    rintro _ v5 ⟨rfl, hc5⟩
    have hM := R.Own.call R.ohm hc5
    first
      | refine ⟨_, rfl, hM, ?_⟩
      | refine ⟨_, rfl, ?_⟩
    rw [q13]
    (refine R.stepH ?_; (repeat' (first | (with_reducible refine And.intro ?_ ?_) | (with_reducible intro _))); all_goals refine R.Lft.mk ?_)
    refine R.WO_call2 rfl rfl R.vv R.vv ?_
    refine (same11_any A2 A4 M2.length c2 M4.length c4 M2 M4 v5 (R.Own.inp (c := c2) (e := 101) hM (by simp)) (R.Own.inp (c := c4) (e := 101) hM (by simp)) rfl rfl (by omega) (GRoads.of hG4 hv2 hk2 hM (fun r hr => by simp [hr])) (fun z hz => GRoad.now hM (hG4 z hz))).mono ?_
    rintro _ v6 ⟨rfl, hc6⟩
    have hM := R.Own.call R.ohm hc6
    first
      | refine ⟨_, rfl, hM, ?_⟩
      | refine ⟨_, rfl, ?_⟩
    rw [q24]
    (refine R.stepH ?_; (repeat' (first | (with_reducible refine And.intro ?_ ?_) | (with_reducible intro _))); all_goals refine R.Lft.mk ?_; (all_goals (try (exact ⟨rfl, R.Own.below (by assumption)⟩))))
end
set_option maxRecDepth 100000 in
theorem walk_RoadsAdds {H : Type} {enc : TypeId × Value → H} (W : World) (base : Nat) (args : Array Value) (ds : List (DataW H)) (ps : List MemPlace) (hA : DataW.TrodAll enc Try.prog W 0 (fun _ => true) true [70, 101, 3] args.toList ds ps)
    (hval : ∀ (j : Nat) t v, #[70, 101, 3][j]? = some t → args[j]? = some v → Value.okWide Try.prog W .any base t v) :
    Calls Try.prog 15 args W fun e W' => e = .returned (.bool true) ∧ Below W.heap.size W W' := by
  obtain ⟨v0, v1, v2, d0, d1, d2, p0, p1, p2, rfl, rfl, rfl, h0, h1, h2⟩ := trodAll_three hA
  obtain ⟨z0, q0, g0, a0, b0⟩ := R.open_arg (hval 0 70 v0 rfl rfl) h0
  obtain ⟨z1, q1, g1, a1, b1⟩ := R.open_arg (hval 1 101 v1 rfl rfl) h1
  obtain ⟨z2, q2, g2, a2, b2⟩ := R.open_arg (hval 2 3 v2 rfl rfl) h2
  obtain rfl := b0 (by kernel_rfl) _ rfl
  obtain rfl := a1 (by kernel_rfl)
  obtain rfl := b2 (by kernel_rfl) _ rfl
  exact roadsAdds_any z0.A z0.n z0.c z0.L z1 z2 W g0.1 g0.2.1 (by have := g0.2.2.1; omega) g0.2.2.2 g1
end Go.Proofs.Ytmmfndmfibbhcaa

