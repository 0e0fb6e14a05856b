/- The law StatCounts: the walk. -/
import Derived.Test.YtoainfnhmdcpoaaYd
namespace Go.Proofs.Ytoainfnhmdcpoaa
open Go.ChangeShapes Go.WideShapes Go.ChangeAt Go.RowKit
open R (In64 InU64 lo64 nth)
theorem edge_fk {x : Nt} {i : Nat} (h : netB x = true) (hi : i < x.e.n) : (nth x.e.L i).f = true ∨ (nth x.e.L i).k = true := ((netB_iff.1 h).2.2.2.2.1 i hi).2.2.2.2.1
theorem heavy_u (x : Nt) (w : World) (hG : GNt w x) (hb : netB x = true) : Calls Try.prog 39 #[.agg (cNt x).toArray] w fun en w' => ∃ b e : Int, ((x.e.n = 0 ∧ b = 0 ∧ e = 11) ∨ (0 < x.e.n ∧ b = (best x.e.L x.e.n : Nat) ∧ e = 0)) ∧ en = .returned (.tuple #[.int .i64 b, .int .i64 e]) ∧ Below w.heap.size w w' := by
  by_cases h0 : x.e.n = 0
  · refine (heavy_0 x w hG hb h0).mono ?_
    rintro _ w5 ⟨rfl, hb5⟩
    exact ⟨0, 11, .inl ⟨h0, rfl, rfl⟩, rfl, hb5⟩
  · refine (heavy_any x w hG hb (by omega)).mono ?_
    rintro _ w5 ⟨rfl, hb5⟩
    exact ⟨_, 0, .inr ⟨by omega, rfl, rfl⟩, rfl, hb5⟩
def bkV (E : List Ed) (k : Nat) : Int := if k = 0 then -1 else ((best E k : Nat) : Int)
set_option maxHeartbeats 8000000 in
theorem statCounts_any (x : Nt) (w : World) (hG : GNt w x) : Calls Try.prog 8 #[.agg (cNt x).toArray] w fun e w' => e = .returned (.bool true) ∧ Below w.heap.size w w' := by
  have hM := R.Own.start [] w
  have hL := hG.lasts
  obtain ⟨⟨s1, s2, s3, -⟩, ⟨h1, h2, h3, -⟩, -⟩ := id hG
  refine R.calls_of_WC (fn := Try.f8) Try.func8 rfl Try.ntmps8 (Nat.le_of_ble_eq_true rfl) ?_
  (refine R.stepV ?_; (repeat' (first | (with_reducible refine And.intro ?_ ?_) | (with_reducible intro _))); all_goals refine R.Lft.mk ?_)
  · exact ⟨rfl, R.Own.below (by assumption)⟩
  cases hb : netB x with
  | false =>
    refine R.WO_call1 rfl rfl R.vv ?_
    refine (deg_not x _ (GNt.now R.ohm hG) hb).mono ?_
    rintro _ w2 ⟨rfl, hb2⟩
    have hM := R.Own.call R.ohm hb2
    refine ⟨_, rfl, ?_⟩
    (refine R.stepV ?_; (repeat' (first | (with_reducible refine And.intro ?_ ?_) | (with_reducible intro _))); all_goals refine R.Lft.mk ?_)
    refine R.WO_call1 rfl rfl R.vv ?_
    refine (counts_not x _ (GNt.now R.ohm hG) hb).mono ?_
    rintro _ w3 ⟨rfl, hb3⟩
    have hM := R.Own.call R.ohm hb3
    refine ⟨_, rfl, ?_⟩
    (refine R.stepV ?_; (repeat' (first | (with_reducible refine And.intro ?_ ?_) | (with_reducible intro _))); all_goals refine R.Lft.mk ?_)
    refine R.WO_call1 rfl rfl R.vv ?_
    refine (weight_not x _ (GNt.now R.ohm hG) hb).mono ?_
    rintro _ w4 ⟨rfl, hb4⟩
    have hM := R.Own.call R.ohm hb4
    refine ⟨_, rfl, ?_⟩
    (refine R.stepV ?_; (repeat' (first | (with_reducible refine And.intro ?_ ?_) | (with_reducible intro _))); all_goals refine R.Lft.mk ?_)
    refine R.WO_call1 rfl rfl R.vv ?_
    refine (heavy_not x _ (GNt.now R.ohm hG) hb).mono ?_
    rintro _ w5 ⟨rfl, hb5⟩
    have hM := R.Own.call R.ohm hb5
    refine ⟨_, rfl, ?_⟩
    (refine R.stepV ?_; (repeat' (first | (with_reducible refine And.intro ?_ ?_) | (with_reducible intro _))); all_goals refine R.Lft.mk ?_)
    all_goals first
      | exact ⟨rfl, R.Own.below (by assumption)⟩
      | exact nbw_f hb (by assumption)
  | true =>
    have hk := netB_e hb
    have hsn : x.s.n ≤ 200000 := (netB_iff.1 hb).1
    have hdl := degL_len x.e.L x.s.n x.e.n
    have hdi := deg_in x.e.L x.s.n x.e.n
    have hds := degL_sum (E := x.e.L) (m := x.s.n) x.e.n fun i hi => edge_ab hb hi
    refine R.WO_call1 rfl rfl R.vv ?_
    refine (deg_any x _ (GNt.now R.ohm hG) hb).mono ?_
    rintro _ w2 ⟨A1, c1, rfl, hG1⟩
    obtain ⟨D, hD⟩ : ∃ D, degL x.e.L x.s.n x.e.n = D := ⟨_, rfl⟩
    rw [hD] at hG1 hdl hdi hds
    have hM := R.Own.give R.ohm hG1
    refine ⟨_, rfl, ?_⟩
    (refine R.stepV ?_; (repeat' (first | (with_reducible refine And.intro ?_ ?_) | (with_reducible intro _))); all_goals refine R.Lft.mk ?_)
    refine R.WO_call1 rfl rfl R.vv ?_
    refine (counts_any x _ (GNt.now R.ohm hG) hb).mono ?_
    rintro _ w3 ⟨A2, c2, rfl, hG2⟩
    rw [hD] at hG2 ⊢
    have hM := R.Own.give R.ohm hG2
    refine ⟨_, rfl, ?_⟩
    (refine R.stepV ?_; (repeat' (first | (with_reducible refine And.intro ?_ ?_) | (with_reducible intro _))); all_goals refine R.Lft.mk ?_)
    refine R.WO_call1 rfl rfl R.vv ?_
    refine (weight_any x _ (GNt.now R.ohm hG) hb).mono ?_
    rintro _ w4 ⟨rfl, hb4⟩
    have hM := R.Own.call R.ohm hb4
    refine ⟨_, rfl, ?_⟩
    (refine R.stepV ?_; (repeat' (first | (with_reducible refine And.intro ?_ ?_) | (with_reducible intro _))); all_goals refine R.Lft.mk ?_)
    refine R.WO_call1 rfl rfl R.vv ?_
    refine (heavy_u x _ (GNt.now R.ohm hG) hb).mono ?_
    rintro _ w5 ⟨b, e, hbe, rfl, hb5⟩
    have hM := R.Own.call R.ohm hb5
    refine ⟨_, rfl, ?_⟩
    (refine R.stepV ?_; (repeat' (first | (with_reducible refine And.intro ?_ ?_) | (with_reducible intro _))); all_goals refine R.Lft.mk ?_)
    all_goals first
      | exact nbw_t hb (by assumption)
      | skip
    rename_i gn _ _ _ _ _ _ _ _ _ hM _
    refine R.WC_loop (fun k : Nat => [(1, .pointer (some ⟨gn, 0, none⟩)), (2, .bool false), (3, .slice A1 x.s.n c1), (4, .int .i64 0), (5, .slice A2 (cntsL D).length c2), (6, .int .i64 0), (7, .int .i64 (wAll x.e.L x.e.n)), (8, .int .i64 (wOne x.e.L x.e.n)), (9, .int .i64 0), (10, .int .i64 b), (11, .int .i64 e), (12, .int .i64 0), (13, .int .i64 (wAll x.e.L k)), (14, .int .i64 (wOne x.e.L k)), (15, .int .i64 (bkV x.e.L k)), (16, .int .i64 (k : Nat))])
      (fun k w2 => k ≤ x.e.n ∧ R.Own [] w w2 [.row A2 (cntsL D).length c2 3 1 ((cntsL D).flatMap R.cI), .row A1 x.s.n c1 3 1 (D.flatMap R.cI), .blk gn 44 (cNt x)]) (fun k => x.e.n - k)
      ⟨0, ⟨rfl, rfl, rfl, rfl, rfl, rfl, rfl, rfl, rfl, rfl, rfl, rfl, rfl, rfl, rfl, rfl, trivial⟩, Nat.zero_le _, R.ohm⟩ ?_
    clear hM
    rintro k f w6 ⟨hkn, hM⟩
    by_cases hlt : k < x.e.n
    · have hw := edge_wt hb hlt
      have b1 := wAll_in (E := x.e.L) k fun i hi => edge_wt hb (by omega)
      have b2 := wOne_in (E := x.e.L) k fun i hi => edge_wt hb (by omega)
      have e1 : wAll x.e.L (k + 1) = wAll x.e.L k + (nth x.e.L k).w := rfl
      have efk := edge_fk hb hlt
      have eA : ((!(nth x.e.L k).f) = true ∨ (!(nth x.e.L k).k) = true) → wOne x.e.L (k + 1) = wOne x.e.L k + (nth x.e.L k).w := fun h => by
        show wOne x.e.L k + (if _ then 0 else _) = _
        rw [if_neg fun q => ?_]
        rw [← q] at h efk
        cases hq : (nth x.e.L k).f <;> rw [hq] at h efk <;> simp at h efk
      have eB : (!(nth x.e.L k).f) = false → (!(nth x.e.L k).k) = false → wOne x.e.L (k + 1) = wOne x.e.L k := fun h1 h2 => by
        show wOne x.e.L k + (if _ then 0 else _) = _
        rw [if_pos (by simp at h1 h2; rw [h1, h2])]
        omega
      have e3 : bkV x.e.L (k + 1) = ((best x.e.L (k + 1) : Nat) : Int) := if_neg (by omega)
      have e4 : best x.e.L (k + 1) = if (nth x.e.L (best x.e.L k)).w < (nth x.e.L k).w then k else best x.e.L k := rfl
      rcases Nat.eq_zero_or_pos k with rfl | hk0
      · have e5 : bkV x.e.L 0 = -1 := rfl
        have e6 : best x.e.L (0 + 1) = 0 := by
          have : best x.e.L 1 < 1 := best_lt x.e.L 1 (by omega)
          show best x.e.L 1 = 0
          omega
        rw [e5]
        (refine R.stepV ?_; (repeat' (first | (with_reducible refine And.intro ?_ ?_) | (with_reducible intro _))); all_goals refine R.Lft.mk ?_)
        all_goals first
          | exact ⟨0 + 1, ⟨rfl, rfl, rfl, rfl, rfl, rfl, rfl, rfl, rfl, rfl, rfl, rfl, R.viaI rfl (by rw [e1]), R.viaI rfl (by first | rw [eA (.inl (by assumption))] | rw [eA (.inr (by assumption))] | rw [eB (by assumption) (by assumption)]), R.viaI rfl (by rw [e3, e6]), R.viaI rfl (by omega), trivial⟩, ⟨by omega, by assumption⟩, by omega⟩
      · have e5 : bkV x.e.L k = ((best x.e.L k : Nat) : Int) := if_neg (by omega)
        have hbl := best_lt x.e.L k hk0
        rw [e5]
        (refine R.stepV ?_; (repeat' (first | (with_reducible refine And.intro ?_ ?_) | (with_reducible intro _))); all_goals refine R.Lft.mk ?_)
        all_goals first
          | exact ⟨k + 1, ⟨rfl, rfl, rfl, rfl, rfl, rfl, rfl, rfl, rfl, rfl, rfl, rfl, R.viaI rfl (by rw [e1]), R.viaI rfl (by first | rw [eA (.inl (by assumption))] | rw [eA (.inr (by assumption))] | rw [eB (by assumption) (by assumption)]), R.viaI rfl (by rw [e3, e4, if_pos (by assumption)]), R.viaI rfl (by omega), trivial⟩, ⟨by omega, by assumption⟩, by omega⟩
          | exact ⟨k + 1, ⟨rfl, rfl, rfl, rfl, rfl, rfl, rfl, rfl, rfl, rfl, rfl, rfl, R.viaI rfl (by rw [e1]), R.viaI rfl (by first | rw [eA (.inl (by assumption))] | rw [eA (.inr (by assumption))] | rw [eB (by assumption) (by assumption)]), R.viaI rfl (by rw [e3, e4, if_neg (by assumption)]), R.viaI rfl (by omega), trivial⟩, ⟨by omega, by assumption⟩, by omega⟩
    · obtain rfl : k = x.e.n := by omega
      have b1 := wAll_in (E := x.e.L) x.e.n fun i hi => edge_wt hb (by omega)
      have b2 := wOne_in (E := x.e.L) x.e.n fun i hi => edge_wt hb (by omega)
      (refine R.stepV ?_; (repeat' (first | (with_reducible refine And.intro ?_ ?_) | (with_reducible intro _))); all_goals refine R.Lft.mk ?_)
      refine R.WC_loop (fun i : Nat => [(1, .pointer (some ⟨gn, 0, none⟩)), (2, .bool false), (3, .slice A1 x.s.n c1), (4, .int .i64 0), (5, .slice A2 (cntsL D).length c2), (6, .int .i64 0), (7, .int .i64 (wAll x.e.L x.e.n)), (8, .int .i64 (wOne x.e.L x.e.n)), (9, .int .i64 0), (10, .int .i64 b), (11, .int .i64 e), (12, .int .i64 ((D.take i).sum)), (13, .int .i64 (wAll x.e.L x.e.n)), (14, .int .i64 (wOne x.e.L x.e.n)), (15, .int .i64 (bkV x.e.L x.e.n)), (17, .int .i64 (i : Nat))])
        (fun i w2 => i ≤ x.s.n ∧ (0 ≤ (D.take i).sum ∧ (D.take i).sum ≤ 200000 * (i : Nat)) ∧ R.Own [] w w2 [.row A2 (cntsL D).length c2 3 1 ((cntsL D).flatMap R.cI), .row A1 x.s.n c1 3 1 (D.flatMap R.cI), .blk gn 44 (cNt x)]) (fun i => x.s.n - i)
        ⟨0, ⟨rfl, rfl, rfl, rfl, rfl, rfl, rfl, rfl, rfl, rfl, rfl, rfl, rfl, rfl, rfl, rfl, trivial⟩, Nat.zero_le _, ⟨by simp, by simp⟩, R.ohm⟩ ?_
      clear hM
      rintro i f w7 ⟨hi, ⟨u1, u2⟩, hM⟩
      by_cases hil : i < x.s.n
      · have hq := hdi i (by omega)
        have e7 := sum_take (L := D) (k := i) (by omega)
        (refine R.stepV ?_; (repeat' (first | (with_reducible refine And.intro ?_ ?_) | (with_reducible intro _))); all_goals refine R.Lft.mk ?_)
        exact ⟨i + 1, ⟨rfl, rfl, rfl, rfl, rfl, rfl, rfl, rfl, rfl, rfl, rfl, R.viaI rfl (by rw [e7]), rfl, rfl, rfl, R.viaI rfl (by omega), trivial⟩, ⟨by omega, ⟨by rw [e7]; omega, by rw [e7]; omega⟩, R.ohm⟩, by omega⟩
      · obtain rfl : i = x.s.n := by omega
        have ht : D.take x.s.n = D := by rw [← hdl, List.take_length]
        rw [ht, hds] at u1 u2 ⊢
        have hdd : decide (D = D) = true := decide_eq_true rfl
        have hcc : decide (cntsL D = cntsL D) = true := decide_eq_true rfl
        have hcl : (cntsL D).length ≤ 1000000 := by
          have := (cntM_le hdi).1
          unfold cntsL
          rw [ctL_len]
          omega
        (refine R.stepV ?_; (repeat' (first | (with_reducible refine And.intro ?_ ?_) | (with_reducible intro _))); all_goals refine R.Lft.mk ?_)
        refine R.WO_call1 rfl rfl R.vv ?_
        refine (rdeg_any x _ (GNt.now R.ohm hG) hb).mono ?_
        rintro _ w8 ⟨A3, c3, rfl, hG3⟩
        rw [hD] at hG3
        have hM := R.Own.give R.ohm hG3
        refine ⟨_, rfl, ?_⟩
        (refine R.stepV ?_; (repeat' (first | (with_reducible refine And.intro ?_ ?_) | (with_reducible intro _))); all_goals refine R.Lft.mk ?_)
        refine R.WO_call2 rfl rfl R.vv R.vv ?_
        refine (same01 A1 A3 _ c1 _ c3 D D _ (R.Own.inp R.ohm R.memb) hdl.symm (by omega) (R.Own.inp R.ohm (.head _)) hdl.symm).mono ?_
        rintro _ w9 ⟨rfl, hb9⟩
        have hM := R.Own.call R.ohm hb9
        refine ⟨_, rfl, ?_⟩
        rw [hdd]
        (refine R.stepV ?_; (repeat' (first | (with_reducible refine And.intro ?_ ?_) | (with_reducible intro _))); all_goals refine R.Lft.mk ?_)
        refine R.WO_call1 rfl rfl R.vv ?_
        refine (rcounts_any x _ (GNt.now R.ohm hG) hb).mono ?_
        rintro _ w10 ⟨A4, c4, rfl, hG4⟩
        rw [hD] at hG4 ⊢
        have hM := R.Own.give R.ohm hG4
        refine ⟨_, rfl, ?_⟩
        (refine R.stepV ?_; (repeat' (first | (with_reducible refine And.intro ?_ ?_) | (with_reducible intro _))); all_goals refine R.Lft.mk ?_)
        refine R.WO_call2 rfl rfl R.vv R.vv ?_
        refine (same01 A2 A4 _ c2 _ c4 (cntsL D) (cntsL D) _ (R.Own.inp R.ohm R.memb) rfl (by omega) (R.Own.inp R.ohm (.head _)) rfl).mono ?_
        rintro _ w11 ⟨rfl, hb11⟩
        have hM := R.Own.call R.ohm hb11
        refine ⟨_, rfl, ?_⟩
        rw [hcc]
        rcases hbe with ⟨n0, rfl, rfl⟩ | ⟨n0, rfl, rfl⟩
        · have e8 : bkV x.e.L x.e.n = -1 := by rw [n0]; rfl
          rw [e8]
          (refine R.stepV ?_; (repeat' (first | (with_reducible refine And.intro ?_ ?_) | (with_reducible intro _))); all_goals refine R.Lft.mk ?_)
          all_goals first
            | exact ⟨rfl, R.Own.below (by assumption)⟩
            | (exfalso; omega)
        · have e8 : bkV x.e.L x.e.n = ((best x.e.L x.e.n : Nat) : Int) := if_neg (by omega)
          rw [e8]
          (refine R.stepV ?_; (repeat' (first | (with_reducible refine And.intro ?_ ?_) | (with_reducible intro _))); all_goals refine R.Lft.mk ?_)
          all_goals first
            | exact ⟨rfl, R.Own.below (by assumption)⟩
            | (exfalso; omega)
set_option maxRecDepth 100000 in
theorem walk_StatCounts {H : Type} {enc : TypeId × Value → H} (W : World) (base : Nat) (args : Array Value) (ds : List (DataW H)) (ps : List MemPlace) (hA : DataW.TrodAll enc Try.prog W 0 (fun _ => true) true [44] args.toList ds ps)
    (hval : ∀ (j : Nat) t v, #[44][j]? = some t → args[j]? = some v → Value.okWide Try.prog W .any base t v) :
    Calls Try.prog 8 args W fun e W' => e = .returned (.bool true) ∧ Below W.heap.size W W' := by
  obtain ⟨v0, d0, rfl, rfl, h0⟩ := trodAll_one hA
  obtain ⟨z0, q0, g0, a0, b0⟩ := R.open_arg (hval 0 44 v0 rfl rfl) h0
  obtain rfl := a0 (by kernel_rfl)
  exact statCounts_any z0 W g0
end Go.Proofs.Ytoainfnhmdcpoaa
