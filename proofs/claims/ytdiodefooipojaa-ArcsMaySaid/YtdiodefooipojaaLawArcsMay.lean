/- The law ArcsMay: its walk, where awake answers true. The law ArcsMay, out of its walk: for every input it returns true, and each argument reads behind the call as it read before. No condition. -/
import Derived.Test.YtdiodefooipojaaArt
import Derived.Test.YtdiodefooipojaaCl
import Derived.Test.YtdiodefooipojaaFrame
namespace Go.Proofs.Ytdiodefooipojaa
open Go.ChangeShapes Go.WideShapes Go.ChangeAt Go.RowKit
open R (In64 InU64 lo64 nth)

structure P2 where
  a : Int
  b : Int
  deriving DecidableEq, Inhabited
def cP2 (x : P2) : List Value := [.int .i64 x.a, .int .i64 x.b]
instance encc_P2 : R.EncC cP2 2 := ⟨fun _ => rfl, by simp [cP2, Value.oneCell'], by decide⟩
instance enct_P2 : R.EncT Try.prog 25 P2 cP2 2 := {}
instance iss_P2 (a b : Int) : R.Iss cP2 [.int .i64 a, .int .i64 b] [⟨a, b⟩] := ⟨rfl⟩
def GP2 (_ : World) (x : P2) : Prop := In64 x.a ∧ In64 x.b
instance opn_P2 : R.Opn Try.prog 25 P2 cP2 GP2 := ⟨fun {H eh W base sp held fuel cs x} hx => by
  have hu : Try.prog.underlying 25 = some (.array 2 3) := by kernel_rfl
  have hi : Try.prog.underlying 3 = some (.int .i64) := by kernel_rfl
  have hc : Try.prog.cellsOf 3 = 1 := by kernel_rfl
  obtain ⟨m, hl, h⟩ := trod_arr hu hx
  rw [show Try.prog.cellsOf 25 = 2 by kernel_rfl] at hl
  rw [hc] at h
  obtain ⟨v0, v1, rfl⟩ : ∃ v0 v1, cs = [v0, v1] := by
    match cs, hl with
    | [v0, v1], _ => exact ⟨v0, v1, rfl⟩
  obtain ⟨y0, k0⟩ := h 0 (by decide)
  obtain ⟨y1, k1⟩ := h 1 (by decide)
  obtain ⟨n0, e0, _, g0⟩ := DataW.trod_int hi k0
  obtain ⟨n1, e1, _, g1⟩ := DataW.trod_int hi k1
  have b0 := bounds_i64 g0
  have b1 := bounds_i64 g1
  simp at e0 e1
  exact ⟨⟨n0, n1⟩, by rw [e0, e1]; rfl, by unfold GP2; dsimp only; unfold In64; omega⟩⟩
theorem aarc_no (g : Gph) (v u : Int) (w : World) (h : GGph w g) (hv : v < 0 ∨ sizeB g ≤ v) : Calls Try.prog 9 #[.agg (cGph g).toArray, .int .i64 v, .int .i64 u] w fun e w' => e = .returned (.tuple #[.int .i64 0, .bool false]) ∧ Below w.heap.size w w' := by
  have hM := R.Own.start [] w
  refine R.calls_of_WC (fn := Try.f9) Try.func9 rfl Try.ntmps9 (Nat.le_of_ble_eq_true rfl) ?_
  (refine R.stepN ?_; (repeat' (first | (with_reducible refine And.intro ?_ ?_) | (with_reducible intro _))); all_goals refine R.Lft.mk ?_)
  rename_i hM
  refine R.WO_call2 rfl rfl R.vv R.vv ?_
  refine (aOut_no g v _ (h.lasts _ hM.below) hv).mono ?_
  rintro _ w3 ⟨rfl, hb3⟩
  have hM := hM.call hb3
  refine ⟨_, rfl, ?_⟩
  (refine R.stepN ?_; (repeat' (first | (with_reducible refine And.intro ?_ ?_) | (with_reducible intro _))); all_goals refine R.Lft.mk ?_)
  refine R.WO_call3 rfl rfl R.vv R.vv R.vv ?_
  refine (searchI none 0 0 [] u _ (R.Inp.nil _ _ _ _) rfl (by decide) (fun i j _ hj => absurd hj (Nat.not_lt_zero _))).mono ?_
  rintro _ w4 ⟨⟨i, b, rfl, k1, k2⟩, hb4⟩
  have hM := hM.call hb4
  refine ⟨_, rfl, ?_⟩
  cases b with
  | true => exact absurd (k1 rfl).1 (Nat.not_lt_zero _)
  | false =>
    (refine R.stepN ?_; (repeat' (first | (with_reducible refine And.intro ?_ ?_) | (with_reducible intro _))); all_goals refine R.Lft.mk ?_)
    exact ⟨rfl, R.Own.below (by assumption)⟩
theorem ne_same {b c : Bool} {p : Prop} (e : b = c) (h : (!(b == c)) = true) : p := by subst e; cases b <;> cases h
set_option maxHeartbeats 4000000 in
theorem arcsMay_no (g h : Gph) (x : P2) (w : World) (hG : GGph w g) (hH : GGph w h) (hx : GP2 w x) (hs : g.st.n ≤ 40 ∧ g.hd.n ≤ 300 ∧ g.wt.n ≤ 300) (hs2 : h.st.n ≤ 40 ∧ h.hd.n ≤ 300 ∧ h.wt.n ≤ 300) (hv : x.a < 0 ∨ sizeB g ≤ x.a) : Calls Try.prog 3 #[.agg (cGph g).toArray, .agg (cGph h).toArray, .agg (cP2 x).toArray] w fun e w' => e = .returned (.bool true) ∧ Below w.heap.size w w' := by
  have hM := R.Own.start [] w
  have hL := hG.lasts
  have hL2 := hH.lasts
  obtain ⟨x1, x2⟩ := hx
  have i1 : R.ConB Try.prog 5 #[.agg (cGph g).toArray] Unit (fun _ _ => True) (fun _ => .bool true) := ⟨fun s w h => by
    have q := (con_small19 g).h s w h
    rw [decide_eq_true hs] at q
    exact q⟩
  have i2 : R.ConB Try.prog 5 #[.agg (cGph h).toArray] Unit (fun _ _ => True) (fun _ => .bool true) := ⟨fun s w hh => by
    have q := (con_small19 h).h s w hh
    rw [decide_eq_true hs2] at q
    exact q⟩
  obtain ⟨s1, s2, s3⟩ := hs
  cases hm : mayG g with
  | false =>
    have hz : sizeB g = 0 := by unfold sizeB; rw [hm]; rfl
    have j1 : R.ConB Try.prog 10 #[.agg (cGph g).toArray] Unit (fun _ w => GGph w g) (fun _ => .bool false) := ⟨fun s w h => by
      have q := (con_amay g).h s w h
      rw [hm] at q
      exact q⟩
    have j2 : R.ConB Try.prog 7 #[.agg (cGph g).toArray] Unit (fun _ w => GGph w g) (fun _ => .bool false) := ⟨fun s w h => by
      have q := (con_rmay19 g).h s w h
      rw [hm] at q
      exact q⟩
    refine R.calls_of_WC (fn := Try.f3) Try.func3 rfl Try.ntmps3 (Nat.le_of_ble_eq_true rfl) ?_
    (refine R.stepN ?_; (repeat' (first | (with_reducible refine And.intro ?_ ?_) | (with_reducible intro _))); all_goals refine R.Lft.mk ?_)
    rename_i hM
    refine R.WO_call2 rfl rfl R.vv R.vv ?_
    refine (aOut_no g x.a _ (hG.lasts _ hM.below) hv).mono ?_
    rintro _ w3 ⟨rfl, hb3⟩
    have hM := hM.call hb3
    refine ⟨_, rfl, ?_⟩
    (refine R.stepN ?_; (repeat' (first | (with_reducible refine And.intro ?_ ?_) | (with_reducible intro _))); all_goals refine R.Lft.mk ?_)
    refine R.WO_call3 rfl rfl R.vv R.vv R.vv ?_
    refine (aarc_no g x.a x.b _ (hG.lasts _ (R.Own.below R.ohm)) hv).mono ?_
    rintro _ w4 ⟨rfl, hb4⟩
    have hM := R.Own.call R.ohm hb4
    refine ⟨_, rfl, ?_⟩
    (refine R.stepN ?_; (repeat' (first | (with_reducible refine And.intro ?_ ?_) | (with_reducible intro _))); all_goals refine R.Lft.mk ?_)
    refine R.WC_planO [(0, false), (2, false), (1, true), (3, false), (4, false), (5, false), (6, false), (8, false), (9, false), (7, true), (10, true), (11, false), (12, false)] R.mixed (by decide +kernel) R.ohm ?_
    (refine R.stepN ?_; (repeat' (first | (with_reducible refine And.intro ?_ ?_) | (with_reducible intro _))); all_goals refine R.Lft.mk ?_)
    all_goals first
      | exact ne_same rfl (by assumption)
      | skip
    refine R.WC_planO [(0, false), (1, false), (2, false), (3, false), (4, false), (5, false), (6, false), (7, false), (8, false), (9, false), (10, false), (11, true), (12, false), (13, false)] R.mixed (by decide +kernel) R.ohm ?_
    (refine R.stepN ?_; (repeat' (first | (with_reducible refine And.intro ?_ ?_) | (with_reducible intro _))); all_goals refine R.Lft.mk ?_)
    all_goals first
      | exact ⟨rfl, R.Own.below (by assumption)⟩
      | exact absurd hz (by assumption)
  | true =>
    have hz : sizeB g = (g.st.n : Int) - 1 := by unfold sizeB sizeG; rw [hm]; rfl
    have j1 : R.ConB Try.prog 10 #[.agg (cGph g).toArray] Unit (fun _ w => GGph w g) (fun _ => .bool true) := ⟨fun s w h => by
      have q := (con_amay g).h s w h
      rw [hm] at q
      exact q⟩
    have j2 : R.ConB Try.prog 7 #[.agg (cGph g).toArray] Unit (fun _ w => GGph w g) (fun _ => .bool true) := ⟨fun s w h => by
      have q := (con_rmay19 g).h s w h
      rw [hm] at q
      exact q⟩
    refine R.calls_of_WC (fn := Try.f3) Try.func3 rfl Try.ntmps3 (Nat.le_of_ble_eq_true rfl) ?_
    (refine R.stepN ?_; (repeat' (first | (with_reducible refine And.intro ?_ ?_) | (with_reducible intro _))); all_goals refine R.Lft.mk ?_)
    rename_i hM
    refine R.WO_call2 rfl rfl R.vv R.vv ?_
    refine (aOut_no g x.a _ (hG.lasts _ hM.below) hv).mono ?_
    rintro _ w3 ⟨rfl, hb3⟩
    have hM := hM.call hb3
    refine ⟨_, rfl, ?_⟩
    (refine R.stepN ?_; (repeat' (first | (with_reducible refine And.intro ?_ ?_) | (with_reducible intro _))); all_goals refine R.Lft.mk ?_)
    refine R.WO_call3 rfl rfl R.vv R.vv R.vv ?_
    refine (aarc_no g x.a x.b _ (hG.lasts _ (R.Own.below R.ohm)) hv).mono ?_
    rintro _ w4 ⟨rfl, hb4⟩
    have hM := R.Own.call R.ohm hb4
    refine ⟨_, rfl, ?_⟩
    (refine R.stepN ?_; (repeat' (first | (with_reducible refine And.intro ?_ ?_) | (with_reducible intro _))); all_goals refine R.Lft.mk ?_)
    refine R.WC_planO [(0, false), (2, false), (1, true), (3, false), (4, false), (5, false), (6, false), (8, false), (9, false), (7, true), (10, true), (11, false), (12, false)] R.mixed (by decide +kernel) R.ohm ?_
    (refine R.stepN ?_; (repeat' (first | (with_reducible refine And.intro ?_ ?_) | (with_reducible intro _))); all_goals refine R.Lft.mk ?_)
    all_goals first
      | exact ne_same rfl (by assumption)
      | skip
    refine R.WC_planO [(0, false), (1, false), (2, false), (3, false), (4, false), (5, false), (6, false), (7, false), (8, false), (9, false), (10, false), (11, true), (12, false), (13, false)] R.mixed (by decide +kernel) R.ohm ?_
    (refine R.stepN ?_; (repeat' (first | (with_reducible refine And.intro ?_ ?_) | (with_reducible intro _))); all_goals refine R.Lft.mk ?_)
    all_goals first
      | exact ⟨rfl, R.Own.below (by assumption)⟩
      | (exfalso; omega)
set_option maxHeartbeats 8000000 in
theorem arcsMay_in (g h : Gph) (x : P2) (v : Nat) (hxa : x.a = (v : Nat)) (w : World) (hG : GGph w g) (hH : GGph w h) (hs : g.st.n ≤ 40 ∧ g.hd.n ≤ 300 ∧ g.wt.n ≤ 300) (hs2 : h.st.n ≤ 40 ∧ h.hd.n ≤ 300 ∧ h.wt.n ≤ 300) (hm : MayG g) (hv : v + 1 < g.st.n) : Calls Try.prog 3 #[.agg (cGph g).toArray, .agg (cGph h).toArray, .agg (cP2 x).toArray] w fun e w' => e = .returned (.bool true) ∧ Below w.heap.size w w' := by
  have hM := R.Own.start [] w
  have hL := hG.lasts
  have hL2 := hH.lasts
  have i1 : R.ConB Try.prog 5 #[.agg (cGph g).toArray] Unit (fun _ _ => True) (fun _ => .bool true) := ⟨fun s w h => by
    have q := (con_small19 g).h s w h
    rw [decide_eq_true hs] at q
    exact q⟩
  have i2 : R.ConB Try.prog 5 #[.agg (cGph h).toArray] Unit (fun _ _ => True) (fun _ => .bool true) := ⟨fun s w hh => by
    have q := (con_small19 h).h s w hh
    rw [decide_eq_true hs2] at q
    exact q⟩
  have j1 : R.ConB Try.prog 10 #[.agg (cGph g).toArray] Unit (fun _ w => GGph w g) (fun _ => .bool true) := ⟨fun s w h => by
    have q := (con_amay g).h s w h
    rw [mayG_t hm] at q
    exact q⟩
  have j2 : R.ConB Try.prog 7 #[.agg (cGph g).toArray] Unit (fun _ w => GGph w g) (fun _ => .bool true) := ⟨fun s w h => by
    have q := (con_rmay19 g).h s w h
    rw [mayG_t hm] at q
    exact q⟩
  obtain ⟨z, hz⟩ : ∃ z : Int, (g.st.n : Int) - 1 = z := ⟨_, rfl⟩
  have j3 : R.ConB Try.prog 14 #[.agg (cGph g).toArray] Unit (fun _ w => GGph w g) (fun _ => .int .i64 z) := ⟨fun s w h => by
    have q := (con_asize g).h s w h
    unfold sizeB sizeG at q
    rw [mayG_t hm, if_pos rfl, hz] at q
    exact q⟩
  have j4 : R.ConB Try.prog 13 #[.agg (cGph g).toArray] Unit (fun _ _ => True) (fun _ => .int .i64 z) := ⟨fun s w h => by
    have q := (con_size19 g).h s w (by omega)
    rw [hz] at q
    exact q⟩
  obtain ⟨s1, s2, s3⟩ := hs
  obtain ⟨⟨gA1, gA2, -, -⟩, ⟨gB1, gB2, -, -⟩, ⟨gC1, gC2, -, -⟩⟩ := id hG
  have n4 := hm.n4
  have hlo := hm.lo (v := v) (by omega)
  have hup := hm.up v hv
  have hhi := hm.hi (v := v + 1) (by omega)
  have ek : (x.a + 1).toNat = v + 1 := by omega
  have ev : x.a.toNat = v := by omega
  have hlo2 : 0 ≤ nth g.st.L x.a.toNat := by rw [ev]; exact hlo
  have hup2 : nth g.st.L x.a.toNat ≤ nth g.st.L (x.a + 1).toNat := by rw [ek, ev]; exact hup
  have hhi2 : nth g.st.L (x.a + 1).toNat ≤ (g.hd.n : Nat) := by rw [ek]; exact hhi
  have hdg2 : ((degG g v : Nat) : Int) = nth g.st.L (x.a + 1).toNat - nth g.st.L x.a.toNat := by rw [ek, ev]; unfold degG; omega
  have hdg : degG g v = (nth g.st.L (v + 1)).toNat - (nth g.st.L v).toNat := rfl
  refine R.calls_of_WC (fn := Try.f3) Try.func3 rfl Try.ntmps3 (Nat.le_of_ble_eq_true rfl) ?_
  (refine R.stepN ?_; (repeat' (first | (with_reducible refine And.intro ?_ ?_) | (with_reducible intro _))); all_goals refine R.Lft.mk ?_)
  rename_i gg _ _ gh _ _ gx _ _ _ _ _ _ _ hM
  refine R.WO_call2 rfl rfl R.vv R.vv ?_
  have q := aOut_any g v _ (hG.lasts _ hM.below) hm hv
  rw [← hxa] at q
  refine q.mono ?_
  clear q
  rintro _ w3 ⟨A, c, rfl, hGv⟩
  have hM := R.Own.give hM hGv
  refine ⟨_, rfl, ?_⟩
  (refine R.stepN ?_; (repeat' (first | (with_reducible refine And.intro ?_ ?_) | (with_reducible intro _))); all_goals refine R.Lft.mk ?_)
  refine R.WO_call3 rfl rfl R.vv R.vv R.vv ?_
  have q := aarc_any g v x.b _ (hG.lasts _ (R.Own.below hM)) hm hv
  rw [← hxa] at q
  refine q.mono ?_
  clear q
  rintro _ w4 ⟨rfl, hb4⟩
  obtain ⟨av, hav⟩ : ∃ av, arcF (outT g v (degG g v)) x.b = av := ⟨_, rfl⟩
  rw [hav]
  have hM := R.Own.call R.ohm hb4
  refine ⟨_, rfl, ?_⟩
  (refine R.stepN ?_; (repeat' (first | (with_reducible refine And.intro ?_ ?_) | (with_reducible intro _))); all_goals refine R.Lft.mk ?_)
  refine R.WC_planO [(0, false), (2, false), (1, true), (3, false), (4, false), (5, false), (6, false), (8, false), (9, false), (7, true), (10, true), (11, false), (12, false)] R.mixed (by decide +kernel) R.ohm ?_
  (refine R.stepN ?_; (repeat' (first | (with_reducible refine And.intro ?_ ?_) | (with_reducible intro _))); all_goals refine R.Lft.mk ?_)
  all_goals first
    | exact ne_same rfl (by assumption)
    | skip
  refine R.WC_planO [(0, false), (1, false), (2, false), (3, false), (4, false), (5, false), (6, false), (7, false), (8, false), (9, false), (10, false), (11, true), (12, false), (13, false)] R.mixed (by decide +kernel) R.ohm ?_
  (refine R.stepN ?_; (repeat' (first | (with_reducible refine And.intro ?_ ?_) | (with_reducible intro _))); all_goals refine R.Lft.mk ?_)
  all_goals first
    | (exfalso; omega)
    | skip
  have hAs : ∃ a, g.st.A = some a := (R.Own.rdIn (show R.Own [] w _ _ from R.ohm) hG.1.1).some_ (by omega) (by decide)
  refine R.WC_planO [(0, false), (2, false), (1, true), (3, true), (4, false), (5, false), (6, false), (7, false), (8, false), (9, false), (10, false), (11, false), (12, false), (13, false), (14, false), (15, false), (16, false), (17, false), (18, false), (19, false), (20, false), (21, false), (22, false), (23, false)] R.mixed (by decide +kernel) R.ohm ?_
  (refine R.stepN ?_; (repeat' (first | (with_reducible refine And.intro ?_ ?_) | (with_reducible intro _))); all_goals refine R.Lft.mk ?_)
  all_goals first
    | exact absurd rfl (by assumption)
    | skip
  refine R.WC_loop (fun i : Nat => [(3, .pointer (some ⟨gg, 0, none⟩)), (5, .pointer (some ⟨gx, 0, none⟩)), (6, .bool false), (8, .slice A (degG g v) c), (9, .int .i64 (if 0 ≤ av then av else 0)), (10, .bool (decide (0 ≤ av))), (11, .int .i64 (i : Nat))])
    (fun i w2 => i ≤ degG g v ∧ R.Own [] w w2 [.row A (degG g v) c 35 2 ((outT g v (degG g v)).flatMap cItem), .blk gx 25 (cP2 x), .blk gh 24 (cGph h), .blk gg 24 (cGph g)]) (fun i => degG g v - i)
    ⟨0, ⟨rfl, rfl, rfl, rfl, rfl, rfl, rfl, trivial⟩, Nat.zero_le _, R.ohm⟩ ?_
  rintro i f w5 ⟨hi, hM5⟩
  have hol := outT_len g v (degG g v)
  clear hM
  by_cases hlt : i < degG g v
  · have hx := outT_nth g v hlt
    have ei : (nth g.st.L x.a.toNat + (i : Nat)).toNat = (nth g.st.L v).toNat + i := by rw [ev]; omega
    obtain ⟨gA, hA⟩ := row_form (R.Own.ok hM5 _ (.head _)) (by omega)
    subst hA
    (refine R.stepN ?_; (repeat' (first | (with_reducible refine And.intro ?_ ?_) | (with_reducible intro _))); all_goals refine R.Lft.mk ?_)
    · rename_i hne
      exact absurd (by rw [hx, ei]) hne
    · exact ⟨i + 1, ⟨rfl, rfl, rfl, rfl, rfl, rfl, R.viaI rfl (by omega), trivial⟩, ⟨by omega, R.ohm⟩, by omega⟩
  · obtain rfl : i = degG g v := by omega
    (refine R.stepN ?_; (repeat' (first | (with_reducible refine And.intro ?_ ?_) | (with_reducible intro _))); all_goals refine R.Lft.mk ?_)
    rename_i hM
    refine R.WO_call3 rfl rfl R.vv R.vv R.vv ?_
    have q := rarc_any g v x.b _ (hG.lasts _ (R.Own.below R.ohm)) hm hv
    rw [← hxa, hav] at q
    refine q.mono ?_
    clear q
    rintro _ w6 ⟨rfl, hb6⟩
    have hM := R.Own.call R.ohm hb6
    refine ⟨_, rfl, ?_⟩
    by_cases h0 : 0 ≤ av
    · rw [if_pos h0, decide_eq_true h0]
      (refine R.stepN ?_; (repeat' (first | (with_reducible refine And.intro ?_ ?_) | (with_reducible intro _))); all_goals refine R.Lft.mk ?_)
      · exact ⟨rfl, R.Own.below R.ohm⟩
      · exact absurd (decide_eq_true h0).symm (by assumption)
    · rw [if_neg h0, decide_eq_false h0]
      (refine R.stepN ?_; (repeat' (first | (with_reducible refine And.intro ?_ ?_) | (with_reducible intro _))); all_goals refine R.Lft.mk ?_)
      · exact ⟨rfl, R.Own.below R.ohm⟩
      · exact absurd (decide_eq_false h0).symm (by assumption)
theorem arcsMay_any (g h : Gph) (x : P2) (w : World) (hG : GGph w g) (hH : GGph w h) (hx : GP2 w x) : Calls Try.prog 3 #[.agg (cGph g).toArray, .agg (cGph h).toArray, .agg (cP2 x).toArray] w fun e w' => e = .returned (.bool true) ∧ Below w.heap.size w w' := by
  by_cases hs : g.st.n ≤ 40 ∧ g.hd.n ≤ 300 ∧ g.wt.n ≤ 300
  · by_cases hs2 : h.st.n ≤ 40 ∧ h.hd.n ≤ 300 ∧ h.wt.n ≤ 300
    · by_cases hv : x.a < 0 ∨ sizeB g ≤ x.a
      · exact arcsMay_no g h x w hG hH hx hs hs2 hv
      · cases hm : mayG g with
        | false =>
          have hz : sizeB g = 0 := by unfold sizeB; rw [hm]; rfl
          omega
        | true =>
          have hz : sizeB g = (g.st.n : Int) - 1 := by unfold sizeB sizeG; rw [hm]; rfl
          exact arcsMay_in g h x x.a.toNat (by omega) w hG hH hs hs2 (mayG_p hm) (by omega)
    · have hM := R.Own.start [] w
      have i1 : R.ConB Try.prog 5 #[.agg (cGph g).toArray] Unit (fun _ _ => True) (fun _ => .bool true) := ⟨fun s w h => by
        have q := (con_small19 g).h s w h
        rw [decide_eq_true hs] at q
        exact q⟩
      have i2 : R.ConB Try.prog 5 #[.agg (cGph h).toArray] Unit (fun _ _ => True) (fun _ => .bool false) := ⟨fun s w hh => by
        have q := (con_small19 h).h s w hh
        rw [decide_eq_false hs2] at q
        exact q⟩
      refine R.calls_of_WC (fn := Try.f3) Try.func3 rfl Try.ntmps3 (Nat.le_of_ble_eq_true rfl) ?_
      (refine R.stepN ?_; (repeat' (first | (with_reducible refine And.intro ?_ ?_) | (with_reducible intro _))); all_goals refine R.Lft.mk ?_)
      exact ⟨rfl, R.Own.below R.ohm⟩
  · have hM := R.Own.start [] w
    have i1 : R.ConB Try.prog 5 #[.agg (cGph g).toArray] Unit (fun _ _ => True) (fun _ => .bool false) := ⟨fun s w h => by
      have q := (con_small19 g).h s w h
      rw [decide_eq_false hs] at q
      exact q⟩
    refine R.calls_of_WC (fn := Try.f3) Try.func3 rfl Try.ntmps3 (Nat.le_of_ble_eq_true rfl) ?_
    (refine R.stepN ?_; (repeat' (first | (with_reducible refine And.intro ?_ ?_) | (with_reducible intro _))); all_goals refine R.Lft.mk ?_)
    exact ⟨rfl, R.Own.below R.ohm⟩
set_option maxRecDepth 100000 in
theorem walk_ArcsMay {H : Type} {enc : TypeId × Value → H} (W : World) (base : Nat) (args : Array Value) (ds : List (DataW H)) (ps : List MemPlace) (hA : DataW.TrodAll enc Try.prog W 0 (fun _ => true) true [24, 24, 25] args.toList ds ps)
    (hval : ∀ (j : Nat) t v, #[24, 24, 25][j]? = some t → args[j]? = some v → Value.okWide Try.prog W .any base t v) :
    Calls Try.prog 3 args W fun e W' => e = .returned (.bool true) ∧ Below W.heap.size W W' := by
  obtain ⟨v0, v1, v2, d0, d1, d2, p0, p1, p2, rfl, rfl, rfl, h0, h1, h2⟩ := trodAll_three hA
  obtain ⟨z0, q0, g0, a0, b0⟩ := R.open_arg (hval 0 24 v0 rfl rfl) h0
  obtain ⟨z1, q1, g1, a1, b1⟩ := R.open_arg (hval 1 24 v1 rfl rfl) h1
  obtain ⟨z2, q2, g2, a2, b2⟩ := R.open_arg (hval 2 25 v2 rfl rfl) h2
  obtain rfl := a0 (by kernel_rfl)
  obtain rfl := a1 (by kernel_rfl)
  obtain rfl := a2 (by kernel_rfl)
  exact arcsMay_any z0 z1 z2 W g0 g1 g2
end Go.Proofs.Ytdiodefooipojaa
namespace Go.Proofs.Ytdiodefooipojaa
open Go.ChangeShapes Go.WideShapes Go.ChangeAt Go.RowKit
set_option maxRecDepth 100000 in
theorem arcsMay_lifted (os : Os) (started : os.Started) (H : Type) (enc : TypeId × Value → H) :
    ReturnsInHanded {} Try.checked os 3 .any (Rows.arcsMaySpec.pre6 enc Try.prog Try.f3 Rows.arcsMayRow.domain false) (Rows.arcsMaySpec.post enc Try.prog Try.f3 false true false false) := by
  refine returnsInHanded_of_change (C := Try.checked) ownKnob_none started (by kernel_rfl) Try.func3
    (ChangeSpec.witness6 (enc := enc) (C := Try.checked) false ⟨#[], #[.agg #[.slice none 0 0, .slice none 0 0, .slice none 0 0], .agg #[.slice none 0 0, .slice none 0 0, .slice none 0 0], .agg #[.int .i64 0, .int .i64 0]], []⟩ 8 (by kernel_rfl) (by kernel_rfl) (by kernel_rfl) (by kernel_rfl)) ?_
  intro W base args ds gs before hval0 hW _ _
  have hval : ∀ (j : Nat) t v, Try.f3.params[j]? = some t → args[j]? = some v → Value.okWide Try.prog W .any base t v := hval0
  have hW' := hW
  obtain ⟨p, q, hA0, hV, rfl, hfz, hnd⟩ := hW
  have hA : DataW.TrodAll enc Try.prog W 0 (fun _ => true) true Try.f3.params.toList args.toList ds p := hA0
  obtain ⟨rfl, rfl⟩ := trodVars_none hV
  have hA1 := hA
  rw [Try.params3] at hA1 hval
  simp only [List.append_nil] at hW'
  refine (walk_ArcsMay W base args ds p hA1 hval).mono fun e W' ⟨he, hb⟩ => ?_
  subst he
  refine ⟨_, rfl, law_post rfl laidOut hW' hA (by kernel_rfl) rfl (by kernel_rfl) ?_ hb⟩
  clear hb hW' hA hfz hnd hV hval hval0 hA0
  obtain ⟨v0, vs0, d0, ds0, p0, q0, e0, rfl, g0, h0, r0⟩ := trodAll_cons hA1
  obtain ⟨v1, vs1, d1, ds1, p1, q1, e1, rfl, g1, h1, r1⟩ := trodAll_cons r0
  obtain ⟨v2, vs2, d2, ds2, p2, q2, e2, rfl, g2, h2, r2⟩ := trodAll_cons r1
  obtain ⟨_, rfl, _⟩ := trodAll_nil r2
  rfl

theorem arcsMay_holds : Rows.ArcsMaySaid :=
  OpenClaim.holds_of_wide 3 Try.f3 rfl rfl rfl rfl rfl rfl rfl ⟨rfl, rfl, rfl, rfl, rfl⟩ rfl rfl rfl rfl rfl (by kernel_rfl) Try.func3 (by kernel_rfl)
    (of_decide_eq_true (by kernel_rfl)) (by unfold Func.isWrapper; first | (rw [if_pos (by decide +kernel)]; kernel_rfl) | (rw [if_neg (by decide +kernel)]; exact ⟨rfl, rfl⟩))
    (fun os started H enc _ => arcsMay_lifted os started H enc)
#print axioms arcsMay_holds
end Go.Proofs.Ytdiodefooipojaa
