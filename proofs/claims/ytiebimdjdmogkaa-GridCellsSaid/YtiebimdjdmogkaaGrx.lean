/- In which square a point lies, and how far it is from a square: the walks. The document's answer for the square of a point; how far a point is from a square: the walks. How far a point is from a square: the walks. The grid of the cross: its walk; awake31. The law GridCells: its walk. -/
import Derived.Test.YtiebimdjdmogkaaGrd
namespace Go.Proofs.Ytiebimdjdmogkaa
open Go.RowKit
open R (In64 InU64 lo64 nth)
attribute [-instance] con_glast con_gfirst con_gside

def okC (g : Gq) (p : Pq) : Prop := mayGq g ∧ mayPq p ∧ inG g p
instance dec_okC (g : Gq) (p : Pq) : Decidable (okC g p) := by unfold okC; infer_instance
/-- What may is known of a grid's squares. -/
theorem gq_bd {g : Gq} (h : mayGq g) : 0 ≤ g.side * g.cols ∧ g.side * g.cols ≤ 137438953472 ∧ 0 ≤ g.side * g.rows ∧ g.side * g.rows ≤ 137438953472 ∧ 0 ≤ g.cols * g.rows ∧ g.cols * g.rows ≤ 4096 := by
  obtain ⟨s1, s2, c1, c2, r1, r2, _⟩ := h
  have a := mul_bd (a := g.side) (b := g.cols) (A := 2147483648) (B := 64) (by omega) s2 (by omega) c2
  have b := mul_bd (a := g.side) (b := g.rows) (A := 2147483648) (B := 64) (by omega) s2 (by omega) r2
  have c := mul_bd (a := g.cols) (b := g.rows) (A := 64) (B := 64) (by omega) c2 (by omega) r2
  omega
set_option maxHeartbeats 1000000 in
theorem gcell_any (g : Gq) (p : Pq) (w : World) : Calls Try.prog 4 #[.agg (cGq g).toArray, .agg (cPq p).toArray] w fun e w' => e = .returned (.tuple #[.int .i64 (if okC g p then cellV g p else 0), .bool (decide (okC g p))]) ∧ Below w.heap.size w w' := by
  have hM := R.Own.start [] w
  have no : ¬ okC g p → (fun e w' => e = Ending.returned (.tuple #[.int .i64 0, .bool false]) ∧ Below w.heap.size w w') = fun e w' => e = Ending.returned (.tuple #[.int .i64 (if okC g p then cellV g p else 0), .bool (decide (okC g p))]) ∧ Below w.heap.size w w' := fun h => by rw [if_neg h, decide_eq_false h]
  by_cases hg : mayGq g
  · have i1 : R.ConB Try.prog 9 #[.agg (cGq g).toArray] Unit (fun _ _ => True) (fun _ => .bool true) := ⟨fun s w h => by
      have q := gmay_any g w
      rw [decide_eq_true hg] at q
      exact q⟩
    by_cases hp : mayPq p
    · have i2 : R.ConB Try.prog 10 #[.agg (cPq p).toArray] Unit (fun _ _ => True) (fun _ => .bool true) := ⟨fun s w h => by
        have q := pmay_any p w
        rw [decide_eq_true hp] at q
        exact q⟩
      obtain ⟨m1, m2, m3, m4, m5, m6⟩ := gq_bd hg
      obtain ⟨s1, s2, c1, c2, r1, r2, l1, l2, l3, l4⟩ := id hg
      obtain ⟨p1, p2, p3, p4⟩ := id hp
      by_cases hin : inG g p
      · have hok : okC g p := ⟨hg, hp, hin⟩
        rw [if_pos hok, decide_eq_true hok]
        unfold cellV
        obtain ⟨n1, n2, n3, n4⟩ := hin
        obtain ⟨a0, a1, -⟩ := lastV_spec s1 c1 n1 n3
        obtain ⟨b0, b1, -⟩ := lastV_spec s1 r1 n2 n4
        have hJ := mul_bd (a := lastV (p.y - g.ly) g.side g.rows) (b := g.cols) (A := 64) (B := 64) b0 (by omega) (by omega) c2
        refine R.calls_of_WC (fn := Try.f4) Try.func4 rfl Try.ntmps4 (Nat.le_of_ble_eq_true rfl) ?_
        (refine R.stepN ?_; (repeat' (first | (with_reducible refine And.intro ?_ ?_) | (with_reducible intro _))); all_goals refine R.Lft.mk ?_)
        refine R.WC_planO [(0, false), (1, false), (2, false), (3, false), (4, false), (6, false), (7, false), (9, false), (10, false), (11, false), (12, false), (13, false), (5, true), (8, false), (14, true), (15, false), (16, false), (17, false)] R.mixed (by decide +kernel) R.ohm ?_
        (refine R.stepN ?_; (repeat' (first | (with_reducible refine And.intro ?_ ?_) | (with_reducible intro _))); all_goals refine R.Lft.mk ?_)
        refine R.WO_call3 rfl rfl R.vv R.vv R.vv ?_
        refine (glast_any (p.y - g.ly) g.side g.rows (by omega) s1 (by omega) _).mono ?_
        rintro _ w3 ⟨rfl, hb3⟩
        have hM := R.Own.call R.ohm hb3
        refine ⟨_, rfl, hM, ?_⟩
        (refine R.stepN ?_; (repeat' (first | (with_reducible refine And.intro ?_ ?_) | (with_reducible intro _))); all_goals refine R.Lft.mk ?_)
        refine R.WO_call3 rfl rfl R.vv R.vv R.vv ?_
        refine (glast_any (p.x - g.lx) g.side g.cols (by omega) s1 (by omega) _).mono ?_
        rintro _ w4 ⟨rfl, hb4⟩
        have hM := R.Own.call R.ohm hb4
        refine ⟨_, rfl, hM, ?_⟩
        (refine R.stepN ?_; (repeat' (first | (with_reducible refine And.intro ?_ ?_) | (with_reducible intro _))); all_goals refine R.Lft.mk ?_)
        exact ⟨rfl, R.Own.below R.ohm⟩
      · rw [← no (fun h => hin h.2.2)]
        unfold inG at hin
        refine R.calls_of_WC (fn := Try.f4) Try.func4 rfl Try.ntmps4 (Nat.le_of_ble_eq_true rfl) ?_
        (refine R.stepN ?_; (repeat' (first | (with_reducible refine And.intro ?_ ?_) | (with_reducible intro _))); all_goals refine R.Lft.mk ?_; (all_goals (try (exact ⟨rfl, R.Own.below (by assumption)⟩))))
    · have i2 : R.ConB Try.prog 10 #[.agg (cPq p).toArray] Unit (fun _ _ => True) (fun _ => .bool false) := ⟨fun s w h => by
        have q := pmay_any p w
        rw [decide_eq_false hp] at q
        exact q⟩
      rw [← no (fun h => hp h.2.1)]
      refine R.calls_of_WC (fn := Try.f4) Try.func4 rfl Try.ntmps4 (Nat.le_of_ble_eq_true rfl) ?_
      (refine R.stepN ?_; (repeat' (first | (with_reducible refine And.intro ?_ ?_) | (with_reducible intro _))); all_goals refine R.Lft.mk ?_; (all_goals (try (exact ⟨rfl, R.Own.below (by assumption)⟩))))
  · have i1 : R.ConB Try.prog 9 #[.agg (cGq g).toArray] Unit (fun _ _ => True) (fun _ => .bool false) := ⟨fun s w h => by
      have q := gmay_any g w
      rw [decide_eq_false hg] at q
      exact q⟩
    rw [← no (fun h => hg h.1)]
    refine R.calls_of_WC (fn := Try.f4) Try.func4 rfl Try.ntmps4 (Nat.le_of_ble_eq_true rfl) ?_
    (refine R.stepN ?_; (repeat' (first | (with_reducible refine And.intro ?_ ?_) | (with_reducible intro _))); all_goals refine R.Lft.mk ?_; (all_goals (try (exact ⟨rfl, R.Own.below (by assumption)⟩))))
end Go.Proofs.Ytiebimdjdmogkaa
namespace Go.Proofs.Ytiebimdjdmogkaa
open Go.RowKit
open R (In64 InU64 lo64 nth)

theorem lastC_in {g : Gq} {p : Pq} {k : Nat} (h : inC g p (k : Nat)) : lastC g p (k + 1) = (k : Nat) := if_pos h
theorem lastC_out {g : Gq} {p : Pq} {k : Nat} (h : ¬ inC g p (k : Nat)) : lastC g p (k + 1) = lastC g p k := if_neg h
/-- What is known of a square's place. -/
theorem at_bd {g : Gq} (h : mayGq g) {c : Int} (h0 : 0 ≤ c) (h1 : c < g.cols * g.rows) : (0 ≤ c % g.cols ∧ c % g.cols < g.cols) ∧ (0 ≤ c / g.cols ∧ c / g.cols < g.rows) ∧ (0 ≤ c % g.cols * g.side ∧ c % g.cols * g.side ≤ 137438953472) ∧ 0 ≤ c / g.cols * g.side ∧ c / g.cols * g.side ≤ 137438953472 := by
  obtain ⟨s1, s2, c1, c2, r1, r2, _⟩ := h
  have k1 : 0 ≤ c % g.cols := Int.emod_nonneg _ (by omega)
  have k2 : c % g.cols < g.cols := Int.emod_lt_of_pos _ (by omega)
  have k3 : 0 ≤ c / g.cols := Int.ediv_nonneg (by omega) (by omega)
  have k4 : c / g.cols < g.rows := Int.ediv_lt_of_lt_mul (by omega) (by rw [Int.mul_comm]; exact h1)
  have a := mul_bd (a := c % g.cols) (b := g.side) (A := 64) (B := 2147483648) k1 (by omega) (by omega) s2
  have b := mul_bd (a := c / g.cols) (b := g.side) (A := 64) (B := 2147483648) k3 (by omega) (by omega) s2
  exact ⟨⟨k1, k2⟩, ⟨k3, k4⟩, ⟨a.1, by omega⟩, b.1, by omega⟩
set_option maxHeartbeats 2000000 in
theorem rcell_any (g : Gq) (p : Pq) (w : World) : Calls Try.prog 5 #[.agg (cGq g).toArray, .agg (cPq p).toArray] w fun e w' => e = .returned (.int .i64 (if okC g p then cellV g p else -1)) ∧ Below w.heap.size w w' := by
  have hM := R.Own.start [] w
  have no : ¬ okC g p → (fun e w' => e = Ending.returned (.int .i64 (-1)) ∧ Below w.heap.size w w') = fun e w' => e = Ending.returned (.int .i64 (if okC g p then cellV g p else -1)) ∧ Below w.heap.size w w' := fun h => by rw [if_neg h]
  by_cases hg : mayGq g
  · have i1 : R.ConB Try.prog 12 #[.agg (cGq g).toArray] Unit (fun _ _ => True) (fun _ => .bool true) := ⟨fun s w h => by
      have q := rgmay_any g w
      rw [decide_eq_true hg] at q
      exact q⟩
    by_cases hp : mayPq p
    · have i2 : R.ConB Try.prog 13 #[.agg (cPq p).toArray] Unit (fun _ _ => True) (fun _ => .bool true) := ⟨fun s w h => by
        have q := rpmay_any p w
        rw [decide_eq_true hp] at q
        exact q⟩
      have hlc := lastC_eq hg p
      rw [show (if inG g p then cellV g p else -1) = if okC g p then cellV g p else -1 by
        by_cases hin : inG g p
        · rw [if_pos hin, if_pos ⟨hg, hp, hin⟩]
        · rw [if_neg hin, if_neg fun h => hin h.2.2]] at hlc
      rw [← hlc]
      obtain ⟨m1, m2, m3, m4, m5, m6⟩ := gq_bd hg
      obtain ⟨s1, s2, c1, c2, r1, r2, l1, l2, l3, l4⟩ := id hg
      obtain ⟨p1, p2, p3, p4⟩ := id hp
      clear no hlc
      refine R.calls_of_WC (fn := Try.f5) Try.func5 rfl Try.ntmps5 (Nat.le_of_ble_eq_true rfl) ?_
      (refine R.stepN ?_; (repeat' (first | (with_reducible refine And.intro ?_ ?_) | (with_reducible intro _))); all_goals refine R.Lft.mk ?_)
      rename_i gg _ _ gp _ _ _ _ _ hM
      refine R.WC_loop (fun k : Nat => [(2, .pointer (some ⟨gg, 0, none⟩)), (3, .pointer (some ⟨gp, 0, none⟩)), (4, .int .i64 0), (5, .int .i64 (lastC g p k)), (6, .int .i64 (k : Nat))])
        (fun k w2 => ((k : Nat) : Int) ≤ g.cols * g.rows ∧ R.Own [] w w2 [.blk gp 23 (cPq p), .blk gg 26 (cGq g)]) (fun k => (g.cols * g.rows).toNat - k) ⟨0, ⟨rfl, rfl, rfl, rfl, rfl, trivial⟩, by omega, hM⟩ ?_
      clear hM
      rintro k f w2 ⟨hk, hM⟩
      by_cases hlt : ((k : Nat) : Int) < g.cols * g.rows
      · obtain ⟨⟨k1, k2⟩, ⟨k3, k4⟩, ⟨q1, q2⟩, q3, q4⟩ := at_bd hg (c := ((k : Nat) : Int)) (by omega) hlt
        (refine R.stepN ?_; (repeat' (first | (with_reducible refine And.intro ?_ ?_) | (with_reducible intro _))); all_goals refine R.Lft.mk ?_)
        all_goals first
          | exact ⟨k + 1, ⟨rfl, rfl, rfl, R.viaI rfl (by rw [lastC_in (by unfold inC; omega)]), R.viaI rfl (by omega), trivial⟩, ⟨by omega, R.ohm⟩, by omega⟩
          | exact ⟨k + 1, ⟨rfl, rfl, rfl, R.viaI rfl (by rw [lastC_out (by unfold inC; omega)]), R.viaI rfl (by omega), trivial⟩, ⟨by omega, R.ohm⟩, by omega⟩
      · have e1 : (g.cols * g.rows).toNat = k := by omega
        rw [e1]
        (refine R.stepN ?_; (repeat' (first | (with_reducible refine And.intro ?_ ?_) | (with_reducible intro _))); all_goals refine R.Lft.mk ?_)
        exact ⟨rfl, R.Own.below R.ohm⟩
    · have i2 : R.ConB Try.prog 13 #[.agg (cPq p).toArray] Unit (fun _ _ => True) (fun _ => .bool false) := ⟨fun s w h => by
        have q := rpmay_any p w
        rw [decide_eq_false hp] at q
        exact q⟩
      rw [← no (fun h => hp h.2.1)]
      refine R.calls_of_WC (fn := Try.f5) Try.func5 rfl Try.ntmps5 (Nat.le_of_ble_eq_true rfl) ?_
      (refine R.stepN ?_; (repeat' (first | (with_reducible refine And.intro ?_ ?_) | (with_reducible intro _))); all_goals refine R.Lft.mk ?_; (all_goals (try (exact ⟨rfl, R.Own.below (by assumption)⟩))))
  · have i1 : R.ConB Try.prog 12 #[.agg (cGq g).toArray] Unit (fun _ _ => True) (fun _ => .bool false) := ⟨fun s w h => by
      have q := rgmay_any g w
      rw [decide_eq_false hg] at q
      exact q⟩
    rw [← no (fun h => hg h.1)]
    refine R.calls_of_WC (fn := Try.f5) Try.func5 rfl Try.ntmps5 (Nat.le_of_ble_eq_true rfl) ?_
    (refine R.stepN ?_; (repeat' (first | (with_reducible refine And.intro ?_ ?_) | (with_reducible intro _))); all_goals refine R.Lft.mk ?_; (all_goals (try (exact ⟨rfl, R.Own.below (by assumption)⟩))))
end Go.Proofs.Ytiebimdjdmogkaa
namespace Go.Proofs.Ytiebimdjdmogkaa
open Go.RowKit
open R (In64 InU64 lo64 nth)

def dxV (g : Gq) (p : Pq) (c : Int) : Int := gapV p.x (g.lx + c % g.cols * g.side) (g.lx + c % g.cols * g.side + g.side)
def dyV (g : Gq) (p : Pq) (c : Int) : Int := gapV p.y (g.ly + c / g.cols * g.side) (g.ly + c / g.cols * g.side + g.side)
def okB (g : Gq) (c : Int) (p : Pq) : Prop := mayGq g ∧ mayPq p ∧ 0 ≤ c ∧ c < g.cols * g.rows
instance dec_okB (g : Gq) (c : Int) (p : Pq) : Decidable (okB g c p) := by unfold okB; infer_instance
def bndV (g : Gq) (c : Int) (p : Pq) : Int := if okB g c p then dxV g p c * dxV g p c + dyV g p c * dyV g p c else 0
theorem bndV_in (g : Gq) (c : Int) (p : Pq) : 0 ≤ bndV g c p ∧ bndV g c p ≤ 2305843009213693952 := by
  unfold bndV
  split
  · obtain ⟨a0, a1⟩ := gapV_le p.x (g.lx + c % g.cols * g.side) (g.lx + c % g.cols * g.side + g.side)
    obtain ⟨b0, b1⟩ := gapV_le p.y (g.ly + c / g.cols * g.side) (g.ly + c / g.cols * g.side + g.side)
    have q := mul_bd a0 a1 a0 a1
    have q2 := mul_bd b0 b1 b0 b1
    unfold dxV dyV
    omega
  · omega
set_option maxHeartbeats 4000000 in
theorem gbound_any (g : Gq) (c : Int) (p : Pq) (w : World) : Calls Try.prog 6 #[.agg (cGq g).toArray, .int .i64 c, .agg (cPq p).toArray] w fun e w' => e = .returned (.int .i64 (bndV g c p)) ∧ Below w.heap.size w w' := by
  have hM := R.Own.start [] w
  have no : ¬ okB g c p → (fun e w' => e = Ending.returned (.int .i64 0) ∧ Below w.heap.size w w') = fun e w' => e = Ending.returned (.int .i64 (bndV g c p)) ∧ Below w.heap.size w w' := fun h => by unfold bndV; rw [if_neg h]
  by_cases hg : mayGq g
  · have i1 : R.ConB Try.prog 9 #[.agg (cGq g).toArray] Unit (fun _ _ => True) (fun _ => .bool true) := ⟨fun s w h => by
      have q := gmay_any g w
      rw [decide_eq_true hg] at q
      exact q⟩
    by_cases hp : mayPq p
    · have i2 : R.ConB Try.prog 10 #[.agg (cPq p).toArray] Unit (fun _ _ => True) (fun _ => .bool true) := ⟨fun s w h => by
        have q := pmay_any p w
        rw [decide_eq_true hp] at q
        exact q⟩
      obtain ⟨m1, m2, m3, m4, m5, m6⟩ := gq_bd hg
      obtain ⟨s1, s2, c1, c2, r1, r2, l1, l2, l3, l4⟩ := id hg
      obtain ⟨p1, p2, p3, p4⟩ := id hp
      by_cases h0 : 0 ≤ c
      · by_cases h1 : c < g.cols * g.rows
        · obtain ⟨⟨k1, k2⟩, ⟨k3, k4⟩, ⟨q1, q2⟩, q3, q4⟩ := at_bd hg h0 h1
          obtain ⟨a0, a1⟩ := gapV_le p.x (g.lx + c % g.cols * g.side) (g.lx + c % g.cols * g.side + g.side)
          obtain ⟨b0, b1⟩ := gapV_le p.y (g.ly + c / g.cols * g.side) (g.ly + c / g.cols * g.side + g.side)
          obtain ⟨u0, u1⟩ := mul_bd a0 a1 a0 a1
          obtain ⟨v0, v1⟩ := mul_bd b0 b1 b0 b1
          rw [show bndV g c p = gapV p.x (g.lx + c % g.cols * g.side) (g.lx + c % g.cols * g.side + g.side) * gapV p.x (g.lx + c % g.cols * g.side) (g.lx + c % g.cols * g.side + g.side) + gapV p.y (g.ly + c / g.cols * g.side) (g.ly + c / g.cols * g.side + g.side) * gapV p.y (g.ly + c / g.cols * g.side) (g.ly + c / g.cols * g.side + g.side) from if_pos ⟨hg, hp, h0, h1⟩]
          clear no
          refine R.calls_of_WC (fn := Try.f6) Try.func6 rfl Try.ntmps6 (Nat.le_of_ble_eq_true rfl) ?_
          (refine R.stepN ?_; (repeat' (first | (with_reducible refine And.intro ?_ ?_) | (with_reducible intro _))); all_goals refine R.Lft.mk ?_)
          refine R.WC_planO [(0, false), (1, false), (2, false), (3, false), (4, false), (5, false), (6, false), (8, false), (9, false), (10, false), (11, false), (12, false), (13, false), (14, false), (7, true), (15, true), (16, false), (17, false)] R.mixed (by decide +kernel) R.ohm ?_
          (refine R.stepN ?_; (repeat' (first | (with_reducible refine And.intro ?_ ?_) | (with_reducible intro _))); all_goals refine R.Lft.mk ?_)
          refine R.WO_call3 rfl rfl R.vv R.vv R.vv ?_
          refine (ggap_any p.x (g.lx + c % g.cols * g.side) (g.lx + c % g.cols * g.side + g.side) (by omega) (by omega) (by omega) _).mono ?_
          rintro _ w3 ⟨rfl, hb3⟩
          have hM := R.Own.call R.ohm hb3
          refine ⟨_, rfl, hM, ?_⟩
          (refine R.stepN ?_; (repeat' (first | (with_reducible refine And.intro ?_ ?_) | (with_reducible intro _))); all_goals refine R.Lft.mk ?_)
          refine R.WO_call3 rfl rfl R.vv R.vv R.vv ?_
          refine (ggap_any p.y (g.ly + c / g.cols * g.side) (g.ly + c / g.cols * g.side + g.side) (by omega) (by omega) (by omega) _).mono ?_
          rintro _ w4 ⟨rfl, hb4⟩
          have hM := R.Own.call R.ohm hb4
          refine ⟨_, rfl, hM, ?_⟩
          (refine R.stepN ?_; (repeat' (first | (with_reducible refine And.intro ?_ ?_) | (with_reducible intro _))); all_goals refine R.Lft.mk ?_)
          exact ⟨rfl, R.Own.below R.ohm⟩
        · rw [← no (fun h => h1 h.2.2.2)]
          refine R.calls_of_WC (fn := Try.f6) Try.func6 rfl Try.ntmps6 (Nat.le_of_ble_eq_true rfl) ?_
          (refine R.stepN ?_; (repeat' (first | (with_reducible refine And.intro ?_ ?_) | (with_reducible intro _))); all_goals refine R.Lft.mk ?_; (all_goals (try (exact ⟨rfl, R.Own.below (by assumption)⟩))))
      · rw [← no (fun h => h0 h.2.2.1)]
        refine R.calls_of_WC (fn := Try.f6) Try.func6 rfl Try.ntmps6 (Nat.le_of_ble_eq_true rfl) ?_
        (refine R.stepN ?_; (repeat' (first | (with_reducible refine And.intro ?_ ?_) | (with_reducible intro _))); all_goals refine R.Lft.mk ?_; (all_goals (try (exact ⟨rfl, R.Own.below (by assumption)⟩))))
    · have i2 : R.ConB Try.prog 10 #[.agg (cPq p).toArray] Unit (fun _ _ => True) (fun _ => .bool false) := ⟨fun s w h => by
        have q := pmay_any p w
        rw [decide_eq_false hp] at q
        exact q⟩
      rw [← no (fun h => hp h.2.1)]
      refine R.calls_of_WC (fn := Try.f6) Try.func6 rfl Try.ntmps6 (Nat.le_of_ble_eq_true rfl) ?_
      (refine R.stepN ?_; (repeat' (first | (with_reducible refine And.intro ?_ ?_) | (with_reducible intro _))); all_goals refine R.Lft.mk ?_; (all_goals (try (exact ⟨rfl, R.Own.below (by assumption)⟩))))
  · have i1 : R.ConB Try.prog 9 #[.agg (cGq g).toArray] Unit (fun _ _ => True) (fun _ => .bool false) := ⟨fun s w h => by
      have q := gmay_any g w
      rw [decide_eq_false hg] at q
      exact q⟩
    rw [← no (fun h => hg h.1)]
    refine R.calls_of_WC (fn := Try.f6) Try.func6 rfl Try.ntmps6 (Nat.le_of_ble_eq_true rfl) ?_
    (refine R.stepN ?_; (repeat' (first | (with_reducible refine And.intro ?_ ?_) | (with_reducible intro _))); all_goals refine R.Lft.mk ?_; (all_goals (try (exact ⟨rfl, R.Own.below (by assumption)⟩))))
set_option maxHeartbeats 4000000 in
theorem rbound_any (g : Gq) (c : Int) (p : Pq) (w : World) : Calls Try.prog 7 #[.agg (cGq g).toArray, .int .i64 c, .agg (cPq p).toArray] w fun e w' => e = .returned (.int .i64 (bndV g c p)) ∧ Below w.heap.size w w' := by
  have hM := R.Own.start [] w
  have no : ¬ okB g c p → (fun e w' => e = Ending.returned (.int .i64 0) ∧ Below w.heap.size w w') = fun e w' => e = Ending.returned (.int .i64 (bndV g c p)) ∧ Below w.heap.size w w' := fun h => by unfold bndV; rw [if_neg h]
  by_cases hg : mayGq g
  · have i1 : R.ConB Try.prog 12 #[.agg (cGq g).toArray] Unit (fun _ _ => True) (fun _ => .bool true) := ⟨fun s w h => by
      have q := rgmay_any g w
      rw [decide_eq_true hg] at q
      exact q⟩
    by_cases hp : mayPq p
    · have i2 : R.ConB Try.prog 13 #[.agg (cPq p).toArray] Unit (fun _ _ => True) (fun _ => .bool true) := ⟨fun s w h => by
        have q := rpmay_any p w
        rw [decide_eq_true hp] at q
        exact q⟩
      obtain ⟨m1, m2, m3, m4, m5, m6⟩ := gq_bd hg
      obtain ⟨s1, s2, c1, c2, r1, r2, l1, l2, l3, l4⟩ := id hg
      obtain ⟨p1, p2, p3, p4⟩ := id hp
      by_cases h0 : 0 ≤ c
      · by_cases h1 : c < g.cols * g.rows
        · obtain ⟨⟨k1, k2⟩, ⟨k3, k4⟩, ⟨q1, q2⟩, q3, q4⟩ := at_bd hg h0 h1
          obtain ⟨a0, a1⟩ := gapV_le p.x (g.lx + c % g.cols * g.side) (g.lx + c % g.cols * g.side + g.side)
          obtain ⟨b0, b1⟩ := gapV_le p.y (g.ly + c / g.cols * g.side) (g.ly + c / g.cols * g.side + g.side)
          obtain ⟨u0, u1⟩ := mul_bd a0 a1 a0 a1
          obtain ⟨v0, v1⟩ := mul_bd b0 b1 b0 b1
          rw [show bndV g c p = gapV p.x (g.lx + c % g.cols * g.side) (g.lx + c % g.cols * g.side + g.side) * gapV p.x (g.lx + c % g.cols * g.side) (g.lx + c % g.cols * g.side + g.side) + gapV p.y (g.ly + c / g.cols * g.side) (g.ly + c / g.cols * g.side + g.side) * gapV p.y (g.ly + c / g.cols * g.side) (g.ly + c / g.cols * g.side + g.side) from if_pos ⟨hg, hp, h0, h1⟩]
          clear no
          refine R.calls_of_WC (fn := Try.f7) Try.func7 rfl Try.ntmps7 (Nat.le_of_ble_eq_true rfl) ?_
          (refine R.stepN ?_; (repeat' (first | (with_reducible refine And.intro ?_ ?_) | (with_reducible intro _))); all_goals refine R.Lft.mk ?_)
          refine R.WC_planO [(0, false), (1, false), (2, false), (3, false), (4, false), (5, false), (6, false), (8, false), (9, false), (10, false), (11, false), (12, false), (13, false), (14, false), (7, true), (15, true), (16, false), (17, false)] R.mixed (by decide +kernel) R.ohm ?_
          (refine R.stepN ?_; (repeat' (first | (with_reducible refine And.intro ?_ ?_) | (with_reducible intro _))); all_goals refine R.Lft.mk ?_)
          refine R.WO_call3 rfl rfl R.vv R.vv R.vv ?_
          refine (rgap_any p.x (g.lx + c % g.cols * g.side) (g.lx + c % g.cols * g.side + g.side) (by omega) (by omega) (by omega) (by omega) _).mono ?_
          rintro _ w3 ⟨rfl, hb3⟩
          have hM := R.Own.call R.ohm hb3
          refine ⟨_, rfl, hM, ?_⟩
          (refine R.stepN ?_; (repeat' (first | (with_reducible refine And.intro ?_ ?_) | (with_reducible intro _))); all_goals refine R.Lft.mk ?_)
          refine R.WO_call3 rfl rfl R.vv R.vv R.vv ?_
          refine (rgap_any p.y (g.ly + c / g.cols * g.side) (g.ly + c / g.cols * g.side + g.side) (by omega) (by omega) (by omega) (by omega) _).mono ?_
          rintro _ w4 ⟨rfl, hb4⟩
          have hM := R.Own.call R.ohm hb4
          refine ⟨_, rfl, hM, ?_⟩
          (refine R.stepN ?_; (repeat' (first | (with_reducible refine And.intro ?_ ?_) | (with_reducible intro _))); all_goals refine R.Lft.mk ?_)
          exact ⟨rfl, R.Own.below R.ohm⟩
        · rw [← no (fun h => h1 h.2.2.2)]
          refine R.calls_of_WC (fn := Try.f7) Try.func7 rfl Try.ntmps7 (Nat.le_of_ble_eq_true rfl) ?_
          (refine R.stepN ?_; (repeat' (first | (with_reducible refine And.intro ?_ ?_) | (with_reducible intro _))); all_goals refine R.Lft.mk ?_; (all_goals (try (exact ⟨rfl, R.Own.below (by assumption)⟩))))
      · rw [← no (fun h => h0 h.2.2.1)]
        refine R.calls_of_WC (fn := Try.f7) Try.func7 rfl Try.ntmps7 (Nat.le_of_ble_eq_true rfl) ?_
        (refine R.stepN ?_; (repeat' (first | (with_reducible refine And.intro ?_ ?_) | (with_reducible intro _))); all_goals refine R.Lft.mk ?_; (all_goals (try (exact ⟨rfl, R.Own.below (by assumption)⟩))))
    · have i2 : R.ConB Try.prog 13 #[.agg (cPq p).toArray] Unit (fun _ _ => True) (fun _ => .bool false) := ⟨fun s w h => by
        have q := rpmay_any p w
        rw [decide_eq_false hp] at q
        exact q⟩
      rw [← no (fun h => hp h.2.1)]
      refine R.calls_of_WC (fn := Try.f7) Try.func7 rfl Try.ntmps7 (Nat.le_of_ble_eq_true rfl) ?_
      (refine R.stepN ?_; (repeat' (first | (with_reducible refine And.intro ?_ ?_) | (with_reducible intro _))); all_goals refine R.Lft.mk ?_; (all_goals (try (exact ⟨rfl, R.Own.below (by assumption)⟩))))
  · have i1 : R.ConB Try.prog 12 #[.agg (cGq g).toArray] Unit (fun _ _ => True) (fun _ => .bool false) := ⟨fun s w h => by
      have q := rgmay_any g w
      rw [decide_eq_false hg] at q
      exact q⟩
    rw [← no (fun h => hg h.1)]
    refine R.calls_of_WC (fn := Try.f7) Try.func7 rfl Try.ntmps7 (Nat.le_of_ble_eq_true rfl) ?_
    (refine R.stepN ?_; (repeat' (first | (with_reducible refine And.intro ?_ ?_) | (with_reducible intro _))); all_goals refine R.Lft.mk ?_; (all_goals (try (exact ⟨rfl, R.Own.below (by assumption)⟩))))
end Go.Proofs.Ytiebimdjdmogkaa
namespace Go.Proofs.Ytiebimdjdmogkaa
open Go.RowKit
open R (In64 InU64 lo64 nth)

theorem row_form {w : World} {A : Option Addr} {n c sz : Nat} {e : TypeId} {cs : List Value} (h : w.ownsRow 0 e sz (.slice A n c) n cs) (hn : 0 < n) : ∃ g, A = some ⟨g, 0, none⟩ := by
  rcases h.2 with ⟨hv, h0⟩ | ⟨g, cap, cur, hv, _, h1, h2, h3, h4, h5⟩
  · omega
  · injection hv with a1 a2 a3
    exact ⟨g, a1⟩
set_option maxHeartbeats 4000000 in
theorem ofCross_any (A B : Option Addr) (c d : Nat) (w : World) (hG : GNt w (crossN A B c d)) : Calls Try.prog 16 #[.agg (cNt (crossN A B c d)).toArray, .int .i64 1] w fun e w' => ∃ gC X c', e = .returned (.tuple #[.agg #[.int .i64 0, .int .i64 0, .int .i64 4, .int .i64 1, .int .i64 1, .slice (some ⟨gC, 0, none⟩) 1 1], .int .i64 0]) ∧ R.Own [] w w' [.row X 4 c' 3 1 ((ints 4).flatMap R.cI), .row (some ⟨gC, 0, none⟩) 1 1 45 1 [.slice X 4 c']] := by
  have hM := R.Own.start [] w
  have hn := cross_netB A B c d
  have hbx := fun k hk => cross_box A B c d (k := k) hk
  have hnr := cross_near A B c d
  obtain ⟨x, hx⟩ : ∃ x, crossN A B c d = x := ⟨_, rfl⟩
  have hxe : x.e.n = 4 := by rw [← hx]; rfl
  rw [hx] at hn hbx hnr hG ⊢
  have hL := hG.lasts
  have iN : R.ConB Try.prog 21 #[.agg (cNt x).toArray] Unit (fun _ w => GNt w x) (fun _ => .bool true) := ⟨fun _ w h => by
    have q := gnearN_any x w h
    rw [hnr] at q
    exact q⟩
  have iB : ∀ k : Nat, R.ConB Try.prog 22 #[.agg (cNt x).toArray, .int .i64 (k : Nat)] Unit (fun _ w => GNt w x ∧ k < 4) (fun _ => .agg (cBq (boxK k)).toArray) := fun k => ⟨fun _ w h => by
    have q := gbox_any x k w h.1 hn (by omega)
    rw [hbx k h.2] at q
    exact q⟩
  have iB0 := iB 0
  clear hx
  refine R.calls_of_WC (fn := Try.f16) Try.func16 rfl Try.ntmps16 (Nat.le_of_ble_eq_true rfl) ?_
  (refine R.stepN ?_; (repeat' (first | (with_reducible refine And.intro ?_ ?_) | (with_reducible intro _))); all_goals refine R.Lft.mk ?_)
  rename_i gn _ _ gr _ _ _ _ _ _ ga _ _ _ hM
  refine R.WC_loop (fun k : Nat => [(1, .int .i64 1), (2, .pointer (some ⟨gn, 0, none⟩)), (4, .pointer (some ⟨gr, 0, none⟩)), (5, .int .i64 0), (6, .pointer (some ⟨ga, 0, none⟩)), (31, .int .i64 (x.e.n : Nat)), (32, .int .i64 (k : Nat))])
    (fun k w2 => k ≤ 4 ∧ R.Own [] w w2 [.blk ga 50 (cBq (boxK (k - 1))), .blk gr 26 [.int .i64 0, .int .i64 0, .int .i64 0, .int .i64 0, .int .i64 0, .slice none 0 0], .blk gn 43 (cNt x)]) (fun k => 4 - k)
    ⟨0, ⟨rfl, rfl, rfl, rfl, rfl, rfl, rfl, trivial⟩, Nat.zero_le _, hM⟩ ?_
  clear hM
  rintro k f w2 ⟨hk, hM⟩
  by_cases hlt : k < 4
  · have iBk := iB k
    (refine R.stepN ?_; (repeat' (first | (with_reducible refine And.intro ?_ ?_) | (with_reducible intro _))); all_goals refine R.Lft.mk ?_)
    rename_i gb _ _ _ hM
    refine R.WC_planX [(0, false), (1, false), (2, false), (3, false), (5, false), (6, false), (7, false), (8, false), (4, true), (9, true), (10, false), (11, true)] R.mixed (by decide +kernel) R.ohm ?_
    (refine R.stepN ?_; (repeat' (first | (with_reducible refine And.intro ?_ ?_) | (with_reducible intro _))); all_goals refine R.Lft.mk ?_)
    refine R.WO_call2 rfl rfl R.vv R.vv ?_
    refine (gleast_any (boxK (k - 1)).a (boxK k).a _).mono ?_
    rintro _ w4 ⟨rfl, hb4⟩
    have hM := R.Own.call R.ohm hb4
    rw [show leastQ (boxK (k - 1)).a (boxK k).a = (boxK k).a from rfl]
    refine ⟨_, rfl, hM, ?_⟩
    (refine R.stepN ?_; (repeat' (first | (with_reducible refine And.intro ?_ ?_) | (with_reducible intro _))); all_goals refine R.Lft.mk ?_)
    refine R.WO_call2 rfl rfl R.vv R.vv ?_
    refine (gmost_any (boxK (k - 1)).b (boxK k).b _).mono ?_
    rintro _ w4 ⟨rfl, hb4⟩
    have hM := R.Own.call R.ohm hb4
    rw [show mostQ (boxK (k - 1)).b (boxK k).b = (boxK k).b by
      unfold mostQ boxK
      simp only [Pq.mk.injEq]
      omega]
    refine ⟨_, rfl, hM, ?_⟩
    (refine R.stepN ?_; (repeat' (first | (with_reducible refine And.intro ?_ ?_) | (with_reducible intro _))); all_goals refine R.Lft.mk ?_)
    rename_i hM
    exact ⟨k + 1, ⟨rfl, rfl, rfl, rfl, rfl, rfl, R.viaI rfl (by omega), trivial⟩, ⟨by omega, R.dr (.blk gb _ _) hM⟩, by omega⟩
  · obtain rfl : k = 4 := by omega
    have f1 : (boxK (4 - 1)).a.x = 0 := rfl
    have f2 : (boxK (4 - 1)).a.y = 0 := rfl
    have f3 : (boxK (4 - 1)).b.x = 4 := rfl
    have f4 : (boxK (4 - 1)).b.y = 0 := rfl
    (refine R.stepN ?_; (repeat' (first | (with_reducible refine And.intro ?_ ?_) | (with_reducible intro _))); all_goals refine R.Lft.mk ?_)
    refine R.WC_planO [(0, false), (1, false), (2, false), (3, false), (4, false), (5, false), (6, false), (7, false), (9, false), (10, false), (11, false), (12, false), (13, false), (14, false), (15, false), (16, false), (8, true), (17, true), (18, false), (19, false)] R.mixed (by decide +kernel) R.ohm ?_
    (refine R.stepN ?_; (repeat' (first | (with_reducible refine And.intro ?_ ?_) | (with_reducible intro _))); all_goals refine R.Lft.mk ?_)
    rename_i hM
    have em : max (sideV ((boxK (4 - 1)).b.x - (boxK (4 - 1)).a.x) 1) (sideV ((boxK (4 - 1)).b.y - (boxK (4 - 1)).a.y) 1) = 4 := by
      rw [f1, f2, f3, f4]
      decide
    refine R.WC_cut2 (ι := Nat × Option Addr) (fun i => [(2, .pointer (some ⟨gn, 0, none⟩)), (4, .pointer (some ⟨gr, 0, none⟩)), (5, .int .i64 0), (10, .pointer (some ⟨i.1, 0, none⟩))])
      (fun i w2 => R.Own [] w w2 [.row i.2 1 1 45 1 [.slice none 0 0], .blk i.1 26 [.int .i64 0, .int .i64 0, .int .i64 4, .int .i64 1, .int .i64 1, .slice i.2 1 1], .blk gr 26 [.int .i64 0, .int .i64 0, .int .i64 0, .int .i64 0, .int .i64 0, .slice none 0 0], .blk gn 43 (cNt x)]) ?h1 ?h2
    case h1 =>
      refine R.WC_planF (.q 0 (.q 1 (.q 2 (.q 3 (.q 4 (.q 5 (.q 6 (.q 7 (.f 8 10 (.q 9 (.e 10 (.e 11 .nil))) (.e 8 (.q 9 (.e 11 .nil)))))))))))) R.mixed (by decide +kernel) R.ohm ?_
      (refine R.stepU ?_; (repeat' (first | (with_reducible refine And.intro ?_ ?_) | (with_reducible intro _))); all_goals refine R.Lft.mk ?_)
      all_goals refine R.WO_makeO (T := R.Sl Int) (enc := R.cSl) (z0 := default) rfl (by rfl) rfl rfl (by omega) (by omega) (by omega) R.ohm (fun A w4 hM => ?_)
      · (refine R.stepU ?_; (repeat' (first | (with_reducible refine And.intro ?_ ?_) | (with_reducible intro _))); all_goals refine R.Lft.mk ?_)
        rename_i hM
        rw [em] at hM
        exact ⟨rfl, (_, A), ⟨rfl, rfl, rfl, rfl, trivial⟩, R.dr (.blk ga _ _) (R.Own.swap hM)⟩
      · (refine R.stepU ?_; (repeat' (first | (with_reducible refine And.intro ?_ ?_) | (with_reducible intro _))); all_goals refine R.Lft.mk ?_)
        rename_i hM
        rw [em] at hM
        exact ⟨rfl, (_, A), ⟨rfl, rfl, rfl, rfl, trivial⟩, R.dr (.blk ga _ _) hM⟩
    case h2 =>
      clear hM
      rintro ⟨gg, A1⟩ f w2 hM
      dsimp only at hM ⊢
      obtain ⟨gC, rfl⟩ := row_form (R.Own.ok hM _ (.head _)) (by omega)
      have hM := R.Own.nil hM 3 1
      (refine R.stepN ?_; (repeat' (first | (with_reducible refine And.intro ?_ ?_) | (with_reducible intro _))); all_goals refine R.Lft.mk ?_)
      refine R.WC_loop (fun i : Nat × Option Addr × Nat => [(2, .pointer (some ⟨gn, 0, none⟩)), (4, .pointer (some ⟨gr, 0, none⟩)), (5, .int .i64 0), (10, .pointer (some ⟨gg, 0, none⟩)), (81, .int .i64 (x.e.n : Nat)), (82, .int .i64 (i.1 : Nat))])
        (fun i w2 => i.1 ≤ 4 ∧ R.Own [] w w2 (layR gg gC i.1 i.2.1 i.2.2 ++ [.blk gr 26 [.int .i64 0, .int .i64 0, .int .i64 0, .int .i64 0, .int .i64 0, .slice none 0 0], .blk gn 43 (cNt x)])) (fun i => 4 - i.1)
        ⟨(0, none, 0), ⟨rfl, rfl, rfl, rfl, rfl, rfl, trivial⟩, Nat.zero_le _, hM⟩ ?_
      clear hM
      rintro ⟨k, X, c1⟩ f w3 ⟨hk, hM⟩
      dsimp only at hk hM ⊢
      by_cases hlt : k < 4
      · have iBk := iB k
        have hM := hM.perm List.perm_append_comm
        (refine R.stepN ?_; (repeat' (first | (with_reducible refine And.intro ?_ ?_) | (with_reducible intro _))); all_goals refine R.Lft.mk ?_)
        rename_i hP
        refine R.WO_call3 rfl rfl R.vv R.vv R.vv ?_
        refine (lay_x gg gC k X c1 hlt _ (R.Own.has hP)).mono ?_
        rintro _ w8 ⟨rfl, X2, c2, hO⟩
        have hM := R.Own.callF hP hO
        clear hP hO
        refine ⟨_, rfl, ?_⟩
        (refine R.stepN ?_; (repeat' (first | (with_reducible refine And.intro ?_ ?_) | (with_reducible intro _))); all_goals refine R.Lft.mk ?_)
        exact ⟨(k + 1, X2, c2), ⟨rfl, rfl, rfl, rfl, rfl, R.viaI rfl (by dsimp only; omega), trivial⟩, ⟨by dsimp only; omega, (R.ohm : R.Own [] w _ _).perm List.perm_append_comm⟩, by dsimp only; omega⟩
      · obtain rfl : k = 4 := by omega
        unfold layR at hM
        dsimp only [List.append, List.cons_append, List.nil_append] at hM
        (refine R.stepN ?_; (repeat' (first | (with_reducible refine And.intro ?_ ?_) | (with_reducible intro _))); all_goals refine R.Lft.mk ?_)
        exact ⟨gC, X, c1, rfl, R.Own.sub R.ohm (List.Sublist.cons_cons _ (List.Sublist.cons_cons _ (List.nil_sublist _)))⟩
instance con_gcell (g : Gq) (p : Pq) : R.ConB Try.prog 4 #[.agg (cGq g).toArray, .agg (cPq p).toArray] Unit (fun _ _ => True) (fun _ => .tuple #[.int .i64 (if okC g p then cellV g p else 0), .bool (decide (okC g p))]) := ⟨fun _ w _ => gcell_any g p w⟩
instance con_gbound (g : Gq) (c : Int) (p : Pq) : R.ConB Try.prog 6 #[.agg (cGq g).toArray, .int .i64 c, .agg (cPq p).toArray] Unit (fun _ _ => True) (fun _ => .int .i64 (bndV g c p)) := ⟨fun _ w _ => gbound_any g c p w⟩
theorem x_may (gC : Nat) (L : List (R.Sl Int)) : mayGq ⟨0, 0, 4, 1, 1, ⟨some ⟨gC, 0, none⟩, 1, 1, L⟩⟩ := by unfold mayGq; dsimp only; omega
theorem x_cell (gC : Nat) (L : List (R.Sl Int)) : okC ⟨0, 0, 4, 1, 1, ⟨some ⟨gC, 0, none⟩, 1, 1, L⟩⟩ ⟨2, 0⟩ ∧ cellV ⟨0, 0, 4, 1, 1, ⟨some ⟨gC, 0, none⟩, 1, 1, L⟩⟩ ⟨2, 0⟩ = 0 := by
  refine ⟨⟨x_may gC L, by unfold mayPq; dsimp only; omega, by unfold inG; dsimp only; omega⟩, ?_⟩
  unfold cellV
  dsimp only
  decide
theorem x_bound (gC : Nat) (L : List (R.Sl Int)) : bndV ⟨0, 0, 4, 1, 1, ⟨some ⟨gC, 0, none⟩, 1, 1, L⟩⟩ 0 ⟨2, -3⟩ = 9 := by
  unfold bndV
  rw [if_pos ⟨x_may gC L, by unfold mayPq; dsimp only; omega, by omega, by dsimp only; omega⟩]
  unfold dxV dyV
  dsimp only
  decide
set_option maxHeartbeats 4000000 in
theorem awake31_any (w : World) : Calls Try.prog 8 #[] w fun e w' => e = .returned (.bool true) ∧ Below w.heap.size w w' := by
  have hM := R.Own.start [] w
  refine R.calls_of_WC (fn := Try.f8) Try.func8 rfl Try.ntmps8 (Nat.le_of_ble_eq_true rfl) ?_
  (refine R.stepN ?_; (repeat' (first | (with_reducible refine And.intro ?_ ?_) | (with_reducible intro _))); all_goals refine R.Lft.mk ?_)
  refine R.WO_call0 rfl rfl  ?_
  refine (cross_any _).mono ?_
  rintro _ w2 ⟨A, B, c, d, rfl, hO⟩
  have hG := cross_G A B c d hO (.head _) (.tail _ (.head _))
  have hM := hM.call (R.Own.below hO)
  refine ⟨_, rfl, ?_⟩
  (refine R.stepN ?_; (repeat' (first | (with_reducible refine And.intro ?_ ?_) | (with_reducible intro _))); all_goals refine R.Lft.mk ?_)
  refine R.WO_call2 rfl rfl R.vv R.vv ?_
  refine (ofCross_any A B c d _ hG).mono ?_
  rintro _ w3 ⟨gC, X, c', rfl, hO2⟩
  have hM : R.Own [] w w3 [.row X 4 c' 3 1 ((ints 4).flatMap R.cI), .row (some ⟨gC, 0, none⟩) 1 1 45 1 (([⟨X, 4, c', ints 4⟩] : List (R.Sl Int)).flatMap R.cSl)] := R.Own.callF' (lc := []) hM hO2
  have hq := x_cell gC []
  have iC : R.ConB Try.prog 4 #[.agg #[.int .i64 0, .int .i64 0, .int .i64 4, .int .i64 1, .int .i64 1, .slice (some ⟨gC, 0, none⟩) 1 1], .agg #[.int .i64 2, .int .i64 0]] Unit (fun _ _ => True) (fun _ => .tuple #[.int .i64 0, .bool true]) := ⟨fun s w h => by
    have q := gcell_any ⟨0, 0, 4, 1, 1, ⟨some ⟨gC, 0, none⟩, 1, 1, []⟩⟩ ⟨2, 0⟩ w
    rw [if_pos hq.1, decide_eq_true hq.1, hq.2] at q
    exact q⟩
  have iD : R.ConB Try.prog 6 #[.agg #[.int .i64 0, .int .i64 0, .int .i64 4, .int .i64 1, .int .i64 1, .slice (some ⟨gC, 0, none⟩) 1 1], .int .i64 0, .agg #[.int .i64 2, .int .i64 (-3)]] Unit (fun _ _ => True) (fun _ => .int .i64 9) := ⟨fun s w h => by
    have q := gbound_any ⟨0, 0, 4, 1, 1, ⟨some ⟨gC, 0, none⟩, 1, 1, []⟩⟩ 0 ⟨2, -3⟩ w
    rw [x_bound] at q
    exact q⟩
  refine ⟨_, rfl, ?_⟩
  (refine R.stepN ?_; (repeat' (first | (with_reducible refine And.intro ?_ ?_) | (with_reducible intro _))); all_goals refine R.Lft.mk ?_)
  exact ⟨rfl, R.Own.below R.ohm⟩
end Go.Proofs.Ytiebimdjdmogkaa
namespace Go.Proofs.Ytiebimdjdmogkaa
open Go.ChangeShapes Go.WideShapes Go.ChangeAt Go.RowKit
open R (In64 InU64 lo64 nth)

def GPq (_ : World) (_ : Pq) : Prop := True
def GGq (_ : World) (_ : Gq) : Prop := True
instance opn_Pq : R.Opn Try.prog 23 Pq cPq GPq := R.opn_struct2 (o0 := 0) (t0 := 3) (n0 := 1) (o1 := 1) (t1 := 3) (n1 := 1) (by kernel_rfl) (by kernel_rfl) rfl rfl (by kernel_rfl) Pq.mk (fun _ _ => rfl) (fun _ _ _ _ _ => trivial)
instance opn_Iss : R.Opn Try.prog 24 (R.Sl (R.Sl Int)) R.cSl (R.GSl R.cSl 1 (R.GSl R.cI 1 GI)) := R.opn_slice (e := 45) (by kernel_rfl) (by kernel_rfl)
instance opn_Gq : R.Opn Try.prog 26 Gq cGq GGq := R.opn_struct5 (o0 := 0) (t0 := 23) (n0 := 2) (o1 := 2) (t1 := 3) (n1 := 1) (o2 := 3) (t2 := 3) (n2 := 1) (o3 := 4) (t3 := 3) (n3 := 1) (o4 := 5) (t4 := 24) (n4 := 1) (by kernel_rfl) (by kernel_rfl) (by kernel_rfl) (by kernel_rfl) (by kernel_rfl) rfl rfl rfl rfl rfl (by kernel_rfl) (fun (l : Pq) s c r cl => ⟨l.x, l.y, s, c, r, cl⟩) (fun _ _ _ _ _ => rfl) (fun _ _ _ _ _ _ _ _ _ _ _ => trivial)
theorem cellV_nn {g : Gq} {p : Pq} (h : okC g p) : 0 ≤ cellV g p := by
  obtain ⟨⟨s1, s2, c1, c2, r1, r2, l1, l2, l3, l4⟩, _, ⟨n1, n2, n3, n4⟩⟩ := h
  obtain ⟨a0, a1, -⟩ := lastV_spec s1 c1 n1 n3
  obtain ⟨b0, b1, -⟩ := lastV_spec s1 r1 n2 n4
  have := Int.mul_nonneg (a := lastV (p.y - g.ly) g.side g.rows) (b := g.cols) b0 (by omega)
  unfold cellV
  omega
instance con_awake31 : R.ConB Try.prog 8 #[] Unit (fun _ _ => True) (fun _ => .bool true) := ⟨fun _ w _ => awake31_any w⟩
instance con_rbound (g : Gq) (c : Int) (p : Pq) : R.ConB Try.prog 7 #[.agg (cGq g).toArray, .int .i64 c, .agg (cPq p).toArray] Unit (fun _ _ => True) (fun _ => .int .i64 (bndV g c p)) := ⟨fun _ w _ => rbound_any g c p w⟩
set_option maxHeartbeats 4000000 in
theorem gridCells_any (g : Gq) (c : Int) (p : Pq) (w : World) : Calls Try.prog 3 #[.agg (cGq g).toArray, .int .i64 c, .agg (cPq p).toArray] w fun e w' => e = .returned (.bool true) ∧ Below w.heap.size w w' := by
  have hM := R.Own.start [] w
  by_cases h : okC g p
  · have i1 : R.ConB Try.prog 4 #[.agg (cGq g).toArray, .agg (cPq p).toArray] Unit (fun _ _ => True) (fun _ => .tuple #[.int .i64 (cellV g p), .bool true]) := ⟨fun s w _ => by
      have q := gcell_any g p w
      rw [if_pos h, decide_eq_true h] at q
      exact q⟩
    have i2 : R.ConB Try.prog 5 #[.agg (cGq g).toArray, .agg (cPq p).toArray] Unit (fun _ _ => True) (fun _ => .int .i64 (cellV g p)) := ⟨fun s w _ => by
      have q := rcell_any g p w
      rw [if_pos h] at q
      exact q⟩
    have hn := cellV_nn h
    refine R.calls_of_WC (fn := Try.f3) Try.func3 rfl Try.ntmps3 (Nat.le_of_ble_eq_true rfl) ?_
    (refine R.stepN ?_; (repeat' (first | (with_reducible refine And.intro ?_ ?_) | (with_reducible intro _))); all_goals refine R.Lft.mk ?_)
    · rename_i hh
      rw [decide_eq_true hn] at hh
      cases hh
    · refine R.WC_planO [(0, false), (1, false), (2, false), (4, false), (5, false), (6, false), (3, true), (7, true), (8, false), (9, false), (10, true), (11, false), (12, false)] R.mixed (by decide +kernel) R.ohm ?_
      (refine R.stepN ?_; (repeat' (first | (with_reducible refine And.intro ?_ ?_) | (with_reducible intro _))); all_goals refine R.Lft.mk ?_)
      · exact ⟨rfl, R.Own.below R.ohm⟩
      · exact absurd rfl (by assumption)
  · have i1 : R.ConB Try.prog 4 #[.agg (cGq g).toArray, .agg (cPq p).toArray] Unit (fun _ _ => True) (fun _ => .tuple #[.int .i64 (0), .bool false]) := ⟨fun s w _ => by
      have q := gcell_any g p w
      rw [if_neg h, decide_eq_false h] at q
      exact q⟩
    have i2 : R.ConB Try.prog 5 #[.agg (cGq g).toArray, .agg (cPq p).toArray] Unit (fun _ _ => True) (fun _ => .int .i64 (-1)) := ⟨fun s w _ => by
      have q := rcell_any g p w
      rw [if_neg h] at q
      exact q⟩
    refine R.calls_of_WC (fn := Try.f3) Try.func3 rfl Try.ntmps3 (Nat.le_of_ble_eq_true rfl) ?_
    (refine R.stepN ?_; (repeat' (first | (with_reducible refine And.intro ?_ ?_) | (with_reducible intro _))); all_goals refine R.Lft.mk ?_)
    refine R.WC_planO [(0, false), (1, false), (2, false), (4, false), (5, false), (6, false), (3, true), (7, true), (8, false), (9, false), (10, true), (11, false), (12, false)] R.mixed (by decide +kernel) R.ohm ?_
    (refine R.stepN ?_; (repeat' (first | (with_reducible refine And.intro ?_ ?_) | (with_reducible intro _))); all_goals refine R.Lft.mk ?_)
    · exact ⟨rfl, R.Own.below R.ohm⟩
    · exact absurd rfl (by assumption)
set_option maxRecDepth 100000 in
theorem walk_GridCells {H : Type} {enc : TypeId × Value → H} (W : World) (base : Nat) (args : Array Value) (ds : List (DataW H)) (ps : List MemPlace) (hA : DataW.TrodAll enc Try.prog W 0 (fun _ => true) true [26, 3, 23] args.toList ds ps)
    (hval : ∀ (j : Nat) t v, #[26, 3, 23][j]? = some t → args[j]? = some v → Value.okWide Try.prog W .any base t v) :
    Calls Try.prog 3 args W fun e W' => e = .returned (.bool true) ∧ Below W.heap.size W W' := by
  obtain ⟨v0, v1, v2, d0, d1, d2, p0, p1, p2, rfl, rfl, rfl, h0, h1, h2⟩ := trodAll_three hA
  obtain ⟨z0, q0, g0, a0, b0⟩ := R.open_arg (hval 0 26 v0 rfl rfl) h0
  obtain ⟨z1, rfl, rfl, rfl, wb1⟩ := open_int (k := .i64) (by kernel_rfl) (hval 1 3 v1 rfl rfl) h1
  obtain ⟨z2, q2, g2, a2, b2⟩ := R.open_arg (hval 2 23 v2 rfl rfl) h2
  obtain rfl := a0 (by kernel_rfl)
  obtain rfl := a2 (by kernel_rfl)
  exact gridCells_any z0 z1 z2 W
end Go.Proofs.Ytiebimdjdmogkaa
