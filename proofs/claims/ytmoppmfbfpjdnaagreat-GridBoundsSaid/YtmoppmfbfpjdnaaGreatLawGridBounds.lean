/- Of a near net: each edge is in squares of which one is not farther from any point than the edge is. Plain. In which square a point lies, and how far it is from a square: the walks. The document's answer for the square of a point; how far a point is from a square: the walks. How far a point is from a square: the walks. The grid of the cross: its walk; awake31. The law GridCells: its walk. The least bound of the squares that hold an edge. Plain. The law GridBounds: its walk. The law GridBounds: its loops. The law GridBounds, out of its walk: for every input it returns true, and each argument reads behind the call as it read before. No condition. -/
import Derived.Test.YtmoppmfbfpjdnaaGreatGbl
import Derived.Test.YtmoppmfbfpjdnaaGreatFg
import Derived.Test.YtmoppmfbfpjdnaaGreatGrd
import Derived.Test.YtmoppmfbfpjdnaaGreatFrame
namespace Go.Proofs.YtmoppmfbfpjdnaaGreat
open Go.RowKit
open R (In64 InU64 lo64 nth)

namespace Ln
variable (l : Ln) (ha : 0 < l.aw) (hb : 0 < l.bw) (hD : 0 < l.D)
include ha hb hD
/-- The nearest point of a line: a point of it, between its ends. -/
theorem near_pt : ∃ W Qx Qy n d : Int, 0 < W ∧ 0 < d ∧ l.squareQ.1 * d = n * l.squareQ.2 ∧ ((l.px * W - Qx) * (l.px * W - Qx) + (l.py * W - Qy) * (l.py * W - Qy)) * d = n * (W * W) ∧
    (∀ L, L * l.aw ≤ l.ax → L * l.bw ≤ l.bx → L * W ≤ Qx) ∧ (∀ H, l.ax ≤ H * l.aw → l.bx ≤ H * l.bw → Qx ≤ H * W) ∧ (∀ L, L * l.aw ≤ l.ay → L * l.bw ≤ l.b_y → L * W ≤ Qy) ∧ (∀ H, l.ay ≤ H * l.aw → l.b_y ≤ H * l.bw → Qy ≤ H * W) := by
  have hq := Int.mul_pos ha ha
  rcases Int.lt_or_le 0 l.N with h0 | h0
  · rcases Int.lt_or_le l.N l.D with h | h
    · have hW : 0 < l.aw * l.bw * l.D := Int.mul_pos (Int.mul_pos ha hb) hD
      have hF := l.F_t 1
      have key : ∀ (A B V L : Int), V = B * l.aw - A * l.bw → L * l.aw ≤ A → L * l.bw ≤ B → L * (l.aw * l.bw * l.D) ≤ A * l.bw * l.D + l.N * V := fun A B V L hV h1 h2 => by
        have a1 := Int.mul_le_mul_of_nonneg_right h1 (Int.le_of_lt (Int.mul_pos hb (show 0 < l.D - l.N by omega)))
        have a2 := Int.mul_le_mul_of_nonneg_right h2 (Int.le_of_lt (Int.mul_pos ha h0))
        have e1 : L * (l.aw * l.bw * l.D) = L * l.aw * (l.bw * (l.D - l.N)) + L * l.bw * (l.aw * l.N) := by grind
        have e2 : A * l.bw * l.D + l.N * V = A * (l.bw * (l.D - l.N)) + B * (l.aw * l.N) := by rw [hV]; grind
        rw [e1, e2]
        omega
      have keyu : ∀ (A B V H : Int), V = B * l.aw - A * l.bw → A ≤ H * l.aw → B ≤ H * l.bw → A * l.bw * l.D + l.N * V ≤ H * (l.aw * l.bw * l.D) := fun A B V H hV h1 h2 => by
        have a1 := Int.mul_le_mul_of_nonneg_right h1 (Int.le_of_lt (Int.mul_pos hb (show 0 < l.D - l.N by omega)))
        have a2 := Int.mul_le_mul_of_nonneg_right h2 (Int.le_of_lt (Int.mul_pos ha h0))
        have e1 : H * (l.aw * l.bw * l.D) = H * l.aw * (l.bw * (l.D - l.N)) + H * l.bw * (l.aw * l.N) := by grind
        have e2 : A * l.bw * l.D + l.N * V = A * (l.bw * (l.D - l.N)) + B * (l.aw * l.N) := by rw [hV]; grind
        rw [e1, e2]
        omega
      refine ⟨l.aw * l.bw * l.D, l.ax * l.bw * l.D + l.N * l.Vx, l.ay * l.bw * l.D + l.N * l.Vy, _, _, hW, Int.mul_pos hq hD, l.sq_in ha hb hD h0 h, ?_, fun L => key _ _ _ L rfl, fun H => keyu _ _ _ H rfl, fun L => key _ _ _ L rfl, fun H => keyu _ _ _ H rfl⟩
      rw [Int.one_mul, Int.one_mul] at hF
      have e : (l.px * (l.aw * l.bw * l.D) - (l.ax * l.bw * l.D + l.N * l.Vx)) * (l.px * (l.aw * l.bw * l.D) - (l.ax * l.bw * l.D + l.N * l.Vx)) + (l.py * (l.aw * l.bw * l.D) - (l.ay * l.bw * l.D + l.N * l.Vy)) * (l.py * (l.aw * l.bw * l.D) - (l.ay * l.bw * l.D + l.N * l.Vy)) = l.F l.N l.D := by
        unfold F Ux Uy
        grind
      rw [e, hF]
      grind
    · refine ⟨l.bw, l.bx, l.b_y, _, _, hb, Int.mul_pos hb hb, l.sq_hi ha hb hD h, ?_, fun L _ h => h, fun H _ h => h, fun L _ h => h, fun H _ h => h⟩
      rfl
  · refine ⟨l.aw, l.ax, l.ay, _, _, ha, hq, l.sq_lo ha hb hD h0, ?_, fun L h _ => h, fun H h _ => h, fun L h _ => h, fun H h _ => h⟩
    rfl
end Ln
/-- Some square that holds an edge holds the nearest point: it is not farther. -/
theorem near_cell (l : Ln) (ha : 0 < l.aw) (hb : 0 < l.bw) (hD : 0 < l.D) {lx ly S m k L1 H1 L2 H2 : Int} (hS : 1 ≤ S) (hm : 1 ≤ m) (hk : 1 ≤ k)
    (hx0 : lx ≤ L1) (hx1 : L1 ≤ H1) (hx2 : H1 ≤ lx + S * m) (hy0 : ly ≤ L2) (hy1 : L2 ≤ H2) (hy2 : H2 ≤ ly + S * k)
    (a1 : L1 * l.aw ≤ l.ax) (a2 : L1 * l.bw ≤ l.bx) (a3 : l.ax ≤ H1 * l.aw) (a4 : l.bx ≤ H1 * l.bw)
    (b1 : L2 * l.aw ≤ l.ay) (b2 : L2 * l.bw ≤ l.b_y) (b3 : l.ay ≤ H2 * l.aw) (b4 : l.b_y ≤ H2 * l.bw) :
    ∃ c r, (firstV (L1 - lx) S ≤ c ∧ c ≤ lastV (H1 - lx) S m) ∧ (firstV (L2 - ly) S ≤ r ∧ r ≤ lastV (H2 - ly) S k) ∧
      ∀ n d, 0 < d → l.squareQ.1 * d = n * l.squareQ.2 → (gapV l.px (lx + c * S) (lx + c * S + S) * gapV l.px (lx + c * S) (lx + c * S + S) + gapV l.py (ly + r * S) (ly + r * S + S) * gapV l.py (ly + r * S) (ly + r * S + S)) * d ≤ n := by
  obtain ⟨W, Qx, Qy, n0, d0, hW, hd0, e0, es, k1, k2, k3, k4⟩ := l.near_pt ha hb hD
  have hq2 := l.sq_den ha hb hD
  obtain ⟨c, c1, c2, c3, c4⟩ := cell_at hS hW hm hx0 hx1 hx2 (k1 L1 a1 a2) (k2 H1 a3 a4)
  obtain ⟨r, r1, r2, r3, r4⟩ := cell_at hS hW hk hy0 hy1 hy2 (k3 L2 b1 b2) (k4 H2 b3 b4)
  refine ⟨c, r, ⟨c1, c2⟩, ⟨r1, r2⟩, fun n d hd e => ?_⟩
  have gx := gap_sq (p := l.px) hW c3 c4
  have gy := gap_sq (p := l.py) hW r3 r4
  generalize gapV l.px (lx + c * S) (lx + c * S + S) = u at *
  generalize gapV l.py (ly + r * S) (ly + r * S + S) = v at *
  have hsum : (u * u + v * v) * (W * W) ≤ (l.px * W - Qx) * (l.px * W - Qx) + (l.py * W - Qy) * (l.py * W - Qy) := by
    have : (u * u + v * v) * (W * W) = u * W * (u * W) + v * W * (v * W) := by grind
    omega
  have h1 := Int.mul_le_mul_of_nonneg_right hsum (Int.le_of_lt hd0)
  rw [es] at h1
  have hWW : 0 < W * W := Int.mul_pos hW hW
  have h2 : (u * u + v * v) * d0 ≤ n0 := by
    refine cancel_le hWW ?_
    have : (u * u + v * v) * d0 * (W * W) = (u * u + v * v) * (W * W) * d0 := by grind
    omega
  -- n0 / d0 is n / d
  have h3 : n0 * d = n * d0 := by
    refine Int.eq_of_mul_eq_mul_right (a := l.squareQ.2) (by omega) ?_
    have x1 : n0 * d * l.squareQ.2 = n0 * l.squareQ.2 * d := by grind
    have x2 : n * d0 * l.squareQ.2 = n * l.squareQ.2 * d0 := by grind
    rw [x1, x2, ← e0, ← e]
    grind
  refine cancel_le hd0 ?_
  have h4 := Int.mul_le_mul_of_nonneg_right h2 (Int.le_of_lt hd)
  have : (u * u + v * v) * d * d0 = (u * u + v * v) * d0 * d := by grind
  omega
end Go.Proofs.YtmoppmfbfpjdnaaGreat
namespace Go.Proofs.YtmoppmfbfpjdnaaGreat
open Go.RowKit
open R (In64 InU64 lo64 nth)
attribute [-instance] con_glast con_gfirst con_gside

def okC (g : Gq) (p : Pq) : Prop := mayGq g ∧ mayPq p ∧ inG g p
instance dec_okC (g : Gq) (p : Pq) : Decidable (okC g p) := by unfold okC; infer_instance
/-- What may is known of a grid's squares. -/
theorem gq_bd {g : Gq} (h : mayGq g) : 0 ≤ g.side * g.cols ∧ g.side * g.cols ≤ 137438953472 ∧ 0 ≤ g.side * g.rows ∧ g.side * g.rows ≤ 137438953472 ∧ 0 ≤ g.cols * g.rows ∧ g.cols * g.rows ≤ 4096 := by
  obtain ⟨s1, s2, c1, c2, r1, r2, _⟩ := h
  have a := mul_bd (a := g.side) (b := g.cols) (A := 2147483648) (B := 64) (by omega) s2 (by omega) c2
  have b := mul_bd (a := g.side) (b := g.rows) (A := 2147483648) (B := 64) (by omega) s2 (by omega) r2
  have c := mul_bd (a := g.cols) (b := g.rows) (A := 64) (B := 64) (by omega) c2 (by omega) r2
  omega
set_option maxHeartbeats 1000000 in
theorem gcell_any (g : Gq) (p : Pq) (w : World) : Calls Tryz.prog 15 #[.agg (cGq g).toArray, .agg (cPq p).toArray] w fun e w' => e = .returned (.tuple #[.int .i64 (if okC g p then cellV g p else 0), .bool (decide (okC g p))]) ∧ Below w.heap.size w w' := by
  have hM := R.Own.start [] w
  have no : ¬ okC g p → (fun e w' => e = Ending.returned (.tuple #[.int .i64 0, .bool false]) ∧ Below w.heap.size w w') = fun e w' => e = Ending.returned (.tuple #[.int .i64 (if okC g p then cellV g p else 0), .bool (decide (okC g p))]) ∧ Below w.heap.size w w' := fun h => by rw [if_neg h, decide_eq_false h]
  by_cases hg : mayGq g
  · have i1 : R.ConB Tryz.prog 22 #[.agg (cGq g).toArray] Unit (fun _ _ => True) (fun _ => .bool true) := ⟨fun s w h => by
      have q := gmay_any g w
      rw [decide_eq_true hg] at q
      exact q⟩
    by_cases hp : mayPq p
    · have i2 : R.ConB Tryz.prog 23 #[.agg (cPq p).toArray] Unit (fun _ _ => True) (fun _ => .bool true) := ⟨fun s w h => by
        have q := pmay_any p w
        rw [decide_eq_true hp] at q
        exact q⟩
      obtain ⟨m1, m2, m3, m4, m5, m6⟩ := gq_bd hg
      obtain ⟨s1, s2, c1, c2, r1, r2, l1, l2, l3, l4⟩ := id hg
      obtain ⟨p1, p2, p3, p4⟩ := id hp
      by_cases hin : inG g p
      · have hok : okC g p := ⟨hg, hp, hin⟩
        rw [if_pos hok, decide_eq_true hok]
        unfold cellV
        obtain ⟨n1, n2, n3, n4⟩ := hin
        obtain ⟨a0, a1, -⟩ := lastV_spec s1 c1 n1 n3
        obtain ⟨b0, b1, -⟩ := lastV_spec s1 r1 n2 n4
        have hJ := mul_bd (a := lastV (p.y - g.ly) g.side g.rows) (b := g.cols) (A := 64) (B := 64) b0 (by omega) (by omega) c2
        refine R.calls_of_WC (fn := Tryz.f15) Tryz.func15 rfl Tryz.ntmps15 (Nat.le_of_ble_eq_true rfl) ?_
        (refine R.stepN ?_; (repeat' (first | (with_reducible refine And.intro ?_ ?_) | (with_reducible intro _))); all_goals refine R.Lft.mk ?_)
        refine R.WC_planO [(0, false), (1, false), (2, false), (3, false), (4, false), (6, false), (7, false), (9, false), (10, false), (11, false), (12, false), (13, false), (5, true), (8, false), (14, true), (15, false), (16, false), (17, false)] R.mixed (by decide +kernel) R.ohm ?_
        (refine R.stepN ?_; (repeat' (first | (with_reducible refine And.intro ?_ ?_) | (with_reducible intro _))); all_goals refine R.Lft.mk ?_)
        refine R.WO_call3 rfl rfl R.vv R.vv R.vv ?_
        refine (glast_any (p.y - g.ly) g.side g.rows (by omega) s1 (by omega) _).mono ?_
        rintro _ w3 ⟨rfl, hb3⟩
        have hM := R.Own.call R.ohm hb3
        refine ⟨_, rfl, hM, ?_⟩
        (refine R.stepN ?_; (repeat' (first | (with_reducible refine And.intro ?_ ?_) | (with_reducible intro _))); all_goals refine R.Lft.mk ?_)
        refine R.WO_call3 rfl rfl R.vv R.vv R.vv ?_
        refine (glast_any (p.x - g.lx) g.side g.cols (by omega) s1 (by omega) _).mono ?_
        rintro _ w4 ⟨rfl, hb4⟩
        have hM := R.Own.call R.ohm hb4
        refine ⟨_, rfl, hM, ?_⟩
        (refine R.stepN ?_; (repeat' (first | (with_reducible refine And.intro ?_ ?_) | (with_reducible intro _))); all_goals refine R.Lft.mk ?_)
        exact ⟨rfl, R.Own.below R.ohm⟩
      · rw [← no (fun h => hin h.2.2)]
        unfold inG at hin
        refine R.calls_of_WC (fn := Tryz.f15) Tryz.func15 rfl Tryz.ntmps15 (Nat.le_of_ble_eq_true rfl) ?_
        (refine R.stepN ?_; (repeat' (first | (with_reducible refine And.intro ?_ ?_) | (with_reducible intro _))); all_goals refine R.Lft.mk ?_; (all_goals (try (exact ⟨rfl, R.Own.below (by assumption)⟩))))
    · have i2 : R.ConB Tryz.prog 23 #[.agg (cPq p).toArray] Unit (fun _ _ => True) (fun _ => .bool false) := ⟨fun s w h => by
        have q := pmay_any p w
        rw [decide_eq_false hp] at q
        exact q⟩
      rw [← no (fun h => hp h.2.1)]
      refine R.calls_of_WC (fn := Tryz.f15) Tryz.func15 rfl Tryz.ntmps15 (Nat.le_of_ble_eq_true rfl) ?_
      (refine R.stepN ?_; (repeat' (first | (with_reducible refine And.intro ?_ ?_) | (with_reducible intro _))); all_goals refine R.Lft.mk ?_; (all_goals (try (exact ⟨rfl, R.Own.below (by assumption)⟩))))
  · have i1 : R.ConB Tryz.prog 22 #[.agg (cGq g).toArray] Unit (fun _ _ => True) (fun _ => .bool false) := ⟨fun s w h => by
      have q := gmay_any g w
      rw [decide_eq_false hg] at q
      exact q⟩
    rw [← no (fun h => hg h.1)]
    refine R.calls_of_WC (fn := Tryz.f15) Tryz.func15 rfl Tryz.ntmps15 (Nat.le_of_ble_eq_true rfl) ?_
    (refine R.stepN ?_; (repeat' (first | (with_reducible refine And.intro ?_ ?_) | (with_reducible intro _))); all_goals refine R.Lft.mk ?_; (all_goals (try (exact ⟨rfl, R.Own.below (by assumption)⟩))))
end Go.Proofs.YtmoppmfbfpjdnaaGreat
namespace Go.Proofs.YtmoppmfbfpjdnaaGreat
open Go.RowKit
open R (In64 InU64 lo64 nth)

theorem lastC_in {g : Gq} {p : Pq} {k : Nat} (h : inC g p (k : Nat)) : lastC g p (k + 1) = (k : Nat) := if_pos h
theorem lastC_out {g : Gq} {p : Pq} {k : Nat} (h : ¬ inC g p (k : Nat)) : lastC g p (k + 1) = lastC g p k := if_neg h
/-- What is known of a square's place. -/
theorem at_bd {g : Gq} (h : mayGq g) {c : Int} (h0 : 0 ≤ c) (h1 : c < g.cols * g.rows) : (0 ≤ c % g.cols ∧ c % g.cols < g.cols) ∧ (0 ≤ c / g.cols ∧ c / g.cols < g.rows) ∧ (0 ≤ c % g.cols * g.side ∧ c % g.cols * g.side ≤ 137438953472) ∧ 0 ≤ c / g.cols * g.side ∧ c / g.cols * g.side ≤ 137438953472 := by
  obtain ⟨s1, s2, c1, c2, r1, r2, _⟩ := h
  have k1 : 0 ≤ c % g.cols := Int.emod_nonneg _ (by omega)
  have k2 : c % g.cols < g.cols := Int.emod_lt_of_pos _ (by omega)
  have k3 : 0 ≤ c / g.cols := Int.ediv_nonneg (by omega) (by omega)
  have k4 : c / g.cols < g.rows := Int.ediv_lt_of_lt_mul (by omega) (by rw [Int.mul_comm]; exact h1)
  have a := mul_bd (a := c % g.cols) (b := g.side) (A := 64) (B := 2147483648) k1 (by omega) (by omega) s2
  have b := mul_bd (a := c / g.cols) (b := g.side) (A := 64) (B := 2147483648) k3 (by omega) (by omega) s2
  exact ⟨⟨k1, k2⟩, ⟨k3, k4⟩, ⟨a.1, by omega⟩, b.1, by omega⟩
end Go.Proofs.YtmoppmfbfpjdnaaGreat
namespace Go.Proofs.YtmoppmfbfpjdnaaGreat
open Go.RowKit
open R (In64 InU64 lo64 nth)

def dxV (g : Gq) (p : Pq) (c : Int) : Int := gapV p.x (g.lx + c % g.cols * g.side) (g.lx + c % g.cols * g.side + g.side)
def dyV (g : Gq) (p : Pq) (c : Int) : Int := gapV p.y (g.ly + c / g.cols * g.side) (g.ly + c / g.cols * g.side + g.side)
def okB (g : Gq) (c : Int) (p : Pq) : Prop := mayGq g ∧ mayPq p ∧ 0 ≤ c ∧ c < g.cols * g.rows
instance dec_okB (g : Gq) (c : Int) (p : Pq) : Decidable (okB g c p) := by unfold okB; infer_instance
def bndV (g : Gq) (c : Int) (p : Pq) : Int := if okB g c p then dxV g p c * dxV g p c + dyV g p c * dyV g p c else 0
theorem bndV_in (g : Gq) (c : Int) (p : Pq) : 0 ≤ bndV g c p ∧ bndV g c p ≤ 2305843009213693952 := by
  unfold bndV
  split
  · obtain ⟨a0, a1⟩ := gapV_le p.x (g.lx + c % g.cols * g.side) (g.lx + c % g.cols * g.side + g.side)
    obtain ⟨b0, b1⟩ := gapV_le p.y (g.ly + c / g.cols * g.side) (g.ly + c / g.cols * g.side + g.side)
    have q := mul_bd a0 a1 a0 a1
    have q2 := mul_bd b0 b1 b0 b1
    unfold dxV dyV
    omega
  · omega
set_option maxHeartbeats 4000000 in
theorem gbound_any (g : Gq) (c : Int) (p : Pq) (w : World) : Calls Tryz.prog 7 #[.agg (cGq g).toArray, .int .i64 c, .agg (cPq p).toArray] w fun e w' => e = .returned (.int .i64 (bndV g c p)) ∧ Below w.heap.size w w' := by
  have hM := R.Own.start [] w
  have no : ¬ okB g c p → (fun e w' => e = Ending.returned (.int .i64 0) ∧ Below w.heap.size w w') = fun e w' => e = Ending.returned (.int .i64 (bndV g c p)) ∧ Below w.heap.size w w' := fun h => by unfold bndV; rw [if_neg h]
  by_cases hg : mayGq g
  · have i1 : R.ConB Tryz.prog 22 #[.agg (cGq g).toArray] Unit (fun _ _ => True) (fun _ => .bool true) := ⟨fun s w h => by
      have q := gmay_any g w
      rw [decide_eq_true hg] at q
      exact q⟩
    by_cases hp : mayPq p
    · have i2 : R.ConB Tryz.prog 23 #[.agg (cPq p).toArray] Unit (fun _ _ => True) (fun _ => .bool true) := ⟨fun s w h => by
        have q := pmay_any p w
        rw [decide_eq_true hp] at q
        exact q⟩
      obtain ⟨m1, m2, m3, m4, m5, m6⟩ := gq_bd hg
      obtain ⟨s1, s2, c1, c2, r1, r2, l1, l2, l3, l4⟩ := id hg
      obtain ⟨p1, p2, p3, p4⟩ := id hp
      by_cases h0 : 0 ≤ c
      · by_cases h1 : c < g.cols * g.rows
        · obtain ⟨⟨k1, k2⟩, ⟨k3, k4⟩, ⟨q1, q2⟩, q3, q4⟩ := at_bd hg h0 h1
          obtain ⟨a0, a1⟩ := gapV_le p.x (g.lx + c % g.cols * g.side) (g.lx + c % g.cols * g.side + g.side)
          obtain ⟨b0, b1⟩ := gapV_le p.y (g.ly + c / g.cols * g.side) (g.ly + c / g.cols * g.side + g.side)
          obtain ⟨u0, u1⟩ := mul_bd a0 a1 a0 a1
          obtain ⟨v0, v1⟩ := mul_bd b0 b1 b0 b1
          rw [show bndV g c p = gapV p.x (g.lx + c % g.cols * g.side) (g.lx + c % g.cols * g.side + g.side) * gapV p.x (g.lx + c % g.cols * g.side) (g.lx + c % g.cols * g.side + g.side) + gapV p.y (g.ly + c / g.cols * g.side) (g.ly + c / g.cols * g.side + g.side) * gapV p.y (g.ly + c / g.cols * g.side) (g.ly + c / g.cols * g.side + g.side) from if_pos ⟨hg, hp, h0, h1⟩]
          clear no
          refine R.calls_of_WC (fn := Tryz.f7) Tryz.func7 rfl Tryz.ntmps7 (Nat.le_of_ble_eq_true rfl) ?_
          (refine R.stepN ?_; (repeat' (first | (with_reducible refine And.intro ?_ ?_) | (with_reducible intro _))); all_goals refine R.Lft.mk ?_)
          refine R.WC_planO [(0, false), (1, false), (2, false), (3, false), (4, false), (5, false), (6, false), (8, false), (9, false), (10, false), (11, false), (12, false), (13, false), (14, false), (7, true), (15, true), (16, false), (17, false)] R.mixed (by decide +kernel) R.ohm ?_
          (refine R.stepN ?_; (repeat' (first | (with_reducible refine And.intro ?_ ?_) | (with_reducible intro _))); all_goals refine R.Lft.mk ?_)
          refine R.WO_call3 rfl rfl R.vv R.vv R.vv ?_
          refine (ggap_any p.x (g.lx + c % g.cols * g.side) (g.lx + c % g.cols * g.side + g.side) (by omega) (by omega) (by omega) _).mono ?_
          rintro _ w3 ⟨rfl, hb3⟩
          have hM := R.Own.call R.ohm hb3
          refine ⟨_, rfl, hM, ?_⟩
          (refine R.stepN ?_; (repeat' (first | (with_reducible refine And.intro ?_ ?_) | (with_reducible intro _))); all_goals refine R.Lft.mk ?_)
          refine R.WO_call3 rfl rfl R.vv R.vv R.vv ?_
          refine (ggap_any p.y (g.ly + c / g.cols * g.side) (g.ly + c / g.cols * g.side + g.side) (by omega) (by omega) (by omega) _).mono ?_
          rintro _ w4 ⟨rfl, hb4⟩
          have hM := R.Own.call R.ohm hb4
          refine ⟨_, rfl, hM, ?_⟩
          (refine R.stepN ?_; (repeat' (first | (with_reducible refine And.intro ?_ ?_) | (with_reducible intro _))); all_goals refine R.Lft.mk ?_)
          exact ⟨rfl, R.Own.below R.ohm⟩
        · rw [← no (fun h => h1 h.2.2.2)]
          refine R.calls_of_WC (fn := Tryz.f7) Tryz.func7 rfl Tryz.ntmps7 (Nat.le_of_ble_eq_true rfl) ?_
          (refine R.stepN ?_; (repeat' (first | (with_reducible refine And.intro ?_ ?_) | (with_reducible intro _))); all_goals refine R.Lft.mk ?_; (all_goals (try (exact ⟨rfl, R.Own.below (by assumption)⟩))))
      · rw [← no (fun h => h0 h.2.2.1)]
        refine R.calls_of_WC (fn := Tryz.f7) Tryz.func7 rfl Tryz.ntmps7 (Nat.le_of_ble_eq_true rfl) ?_
        (refine R.stepN ?_; (repeat' (first | (with_reducible refine And.intro ?_ ?_) | (with_reducible intro _))); all_goals refine R.Lft.mk ?_; (all_goals (try (exact ⟨rfl, R.Own.below (by assumption)⟩))))
    · have i2 : R.ConB Tryz.prog 23 #[.agg (cPq p).toArray] Unit (fun _ _ => True) (fun _ => .bool false) := ⟨fun s w h => by
        have q := pmay_any p w
        rw [decide_eq_false hp] at q
        exact q⟩
      rw [← no (fun h => hp h.2.1)]
      refine R.calls_of_WC (fn := Tryz.f7) Tryz.func7 rfl Tryz.ntmps7 (Nat.le_of_ble_eq_true rfl) ?_
      (refine R.stepN ?_; (repeat' (first | (with_reducible refine And.intro ?_ ?_) | (with_reducible intro _))); all_goals refine R.Lft.mk ?_; (all_goals (try (exact ⟨rfl, R.Own.below (by assumption)⟩))))
  · have i1 : R.ConB Tryz.prog 22 #[.agg (cGq g).toArray] Unit (fun _ _ => True) (fun _ => .bool false) := ⟨fun s w h => by
      have q := gmay_any g w
      rw [decide_eq_false hg] at q
      exact q⟩
    rw [← no (fun h => hg h.1)]
    refine R.calls_of_WC (fn := Tryz.f7) Tryz.func7 rfl Tryz.ntmps7 (Nat.le_of_ble_eq_true rfl) ?_
    (refine R.stepN ?_; (repeat' (first | (with_reducible refine And.intro ?_ ?_) | (with_reducible intro _))); all_goals refine R.Lft.mk ?_; (all_goals (try (exact ⟨rfl, R.Own.below (by assumption)⟩))))
end Go.Proofs.YtmoppmfbfpjdnaaGreat
namespace Go.Proofs.YtmoppmfbfpjdnaaGreat
open Go.RowKit
open R (In64 InU64 lo64 nth)

theorem row_form {w : World} {A : Option Addr} {n c sz : Nat} {e : TypeId} {cs : List Value} (h : w.ownsRow 0 e sz (.slice A n c) n cs) (hn : 0 < n) : ∃ g, A = some ⟨g, 0, none⟩ := by
  rcases h.2 with ⟨hv, h0⟩ | ⟨g, cap, cur, hv, _, h1, h2, h3, h4, h5⟩
  · omega
  · injection hv with a1 a2 a3
    exact ⟨g, a1⟩
set_option maxHeartbeats 4000000 in
theorem ofCross_any (A B : Option Addr) (c d : Nat) (w : World) (hG : GNt w (crossN A B c d)) : Calls Tryz.prog 6 #[.agg (cNt (crossN A B c d)).toArray, .int .i64 1] w fun e w' => ∃ gC X c', e = .returned (.tuple #[.agg #[.int .i64 0, .int .i64 0, .int .i64 4, .int .i64 1, .int .i64 1, .slice (some ⟨gC, 0, none⟩) 1 1], .int .i64 0]) ∧ R.Own [] w w' [.row X 4 c' 3 1 ((ints 4).flatMap R.cI), .row (some ⟨gC, 0, none⟩) 1 1 40 1 [.slice X 4 c']] := by
  have hM := R.Own.start [] w
  have hn := cross_netB A B c d
  have hbx := fun k hk => cross_box A B c d (k := k) hk
  have hnr := cross_near A B c d
  obtain ⟨x, hx⟩ : ∃ x, crossN A B c d = x := ⟨_, rfl⟩
  have hxe : x.e.n = 4 := by rw [← hx]; rfl
  rw [hx] at hn hbx hnr hG ⊢
  have hL := hG.lasts
  have iN : R.ConB Tryz.prog 16 #[.agg (cNt x).toArray] Unit (fun _ w => GNt w x) (fun _ => .bool true) := ⟨fun _ w h => by
    have q := gnearN_any x w h
    rw [hnr] at q
    exact q⟩
  have iB : ∀ k : Nat, R.ConB Tryz.prog 17 #[.agg (cNt x).toArray, .int .i64 (k : Nat)] Unit (fun _ w => GNt w x ∧ k < 4) (fun _ => .agg (cBq (boxK k)).toArray) := fun k => ⟨fun _ w h => by
    have q := gbox_any x k w h.1 hn (by omega)
    rw [hbx k h.2] at q
    exact q⟩
  have iB0 := iB 0
  clear hx
  refine R.calls_of_WC (fn := Tryz.f6) Tryz.func6 rfl Tryz.ntmps6 (Nat.le_of_ble_eq_true rfl) ?_
  (refine R.stepN ?_; (repeat' (first | (with_reducible refine And.intro ?_ ?_) | (with_reducible intro _))); all_goals refine R.Lft.mk ?_)
  rename_i gn _ _ gr _ _ _ _ _ _ ga _ _ _ hM
  refine R.WC_loop (fun k : Nat => [(1, .int .i64 1), (2, .pointer (some ⟨gn, 0, none⟩)), (4, .pointer (some ⟨gr, 0, none⟩)), (5, .int .i64 0), (6, .pointer (some ⟨ga, 0, none⟩)), (31, .int .i64 (x.e.n : Nat)), (32, .int .i64 (k : Nat))])
    (fun k w2 => k ≤ 4 ∧ R.Own [] w w2 [.blk ga 71 (cBq (boxK (k - 1))), .blk gr 36 [.int .i64 0, .int .i64 0, .int .i64 0, .int .i64 0, .int .i64 0, .slice none 0 0], .blk gn 26 (cNt x)]) (fun k => 4 - k)
    ⟨0, ⟨rfl, rfl, rfl, rfl, rfl, rfl, rfl, trivial⟩, Nat.zero_le _, hM⟩ ?_
  clear hM
  rintro k f w2 ⟨hk, hM⟩
  by_cases hlt : k < 4
  · have iBk := iB k
    (refine R.stepN ?_; (repeat' (first | (with_reducible refine And.intro ?_ ?_) | (with_reducible intro _))); all_goals refine R.Lft.mk ?_)
    rename_i gb _ _ _ hM
    refine R.WC_planX [(0, false), (1, false), (2, false), (3, false), (5, false), (6, false), (7, false), (8, false), (4, true), (9, true), (10, false), (11, true)] R.mixed (by decide +kernel) R.ohm ?_
    (refine R.stepN ?_; (repeat' (first | (with_reducible refine And.intro ?_ ?_) | (with_reducible intro _))); all_goals refine R.Lft.mk ?_)
    refine R.WO_call2 rfl rfl R.vv R.vv ?_
    refine (gleast_any (boxK (k - 1)).a (boxK k).a _).mono ?_
    rintro _ w4 ⟨rfl, hb4⟩
    have hM := R.Own.call R.ohm hb4
    rw [show leastQ (boxK (k - 1)).a (boxK k).a = (boxK k).a from rfl]
    refine ⟨_, rfl, hM, ?_⟩
    (refine R.stepN ?_; (repeat' (first | (with_reducible refine And.intro ?_ ?_) | (with_reducible intro _))); all_goals refine R.Lft.mk ?_)
    refine R.WO_call2 rfl rfl R.vv R.vv ?_
    refine (gmost_any (boxK (k - 1)).b (boxK k).b _).mono ?_
    rintro _ w4 ⟨rfl, hb4⟩
    have hM := R.Own.call R.ohm hb4
    rw [show mostQ (boxK (k - 1)).b (boxK k).b = (boxK k).b by
      unfold mostQ boxK
      simp only [Pt.mk.injEq]
      omega]
    refine ⟨_, rfl, hM, ?_⟩
    (refine R.stepN ?_; (repeat' (first | (with_reducible refine And.intro ?_ ?_) | (with_reducible intro _))); all_goals refine R.Lft.mk ?_)
    rename_i hM
    exact ⟨k + 1, ⟨rfl, rfl, rfl, rfl, rfl, rfl, R.viaI rfl (by omega), trivial⟩, ⟨by omega, R.dr (.blk gb _ _) hM⟩, by omega⟩
  · obtain rfl : k = 4 := by omega
    have f1 : (boxK (4 - 1)).a.x = 0 := rfl
    have f2 : (boxK (4 - 1)).a.y = 0 := rfl
    have f3 : (boxK (4 - 1)).b.x = 4 := rfl
    have f4 : (boxK (4 - 1)).b.y = 0 := rfl
    (refine R.stepN ?_; (repeat' (first | (with_reducible refine And.intro ?_ ?_) | (with_reducible intro _))); all_goals refine R.Lft.mk ?_)
    refine R.WC_planO [(0, false), (1, false), (2, false), (3, false), (4, false), (5, false), (6, false), (7, false), (9, false), (10, false), (11, false), (12, false), (13, false), (14, false), (15, false), (16, false), (8, true), (17, true), (18, false), (19, false)] R.mixed (by decide +kernel) R.ohm ?_
    (refine R.stepN ?_; (repeat' (first | (with_reducible refine And.intro ?_ ?_) | (with_reducible intro _))); all_goals refine R.Lft.mk ?_)
    rename_i hM
    have em : max (sideV ((boxK (4 - 1)).b.x - (boxK (4 - 1)).a.x) 1) (sideV ((boxK (4 - 1)).b.y - (boxK (4 - 1)).a.y) 1) = 4 := by
      rw [f1, f2, f3, f4]
      decide
    refine R.WC_cut2 (ι := Nat × Option Addr) (fun i => [(2, .pointer (some ⟨gn, 0, none⟩)), (4, .pointer (some ⟨gr, 0, none⟩)), (5, .int .i64 0), (10, .pointer (some ⟨i.1, 0, none⟩))])
      (fun i w2 => R.Own [] w w2 [.row i.2 1 1 40 1 [.slice none 0 0], .blk i.1 36 [.int .i64 0, .int .i64 0, .int .i64 4, .int .i64 1, .int .i64 1, .slice i.2 1 1], .blk gr 36 [.int .i64 0, .int .i64 0, .int .i64 0, .int .i64 0, .int .i64 0, .slice none 0 0], .blk gn 26 (cNt x)]) ?h1 ?h2
    case h1 =>
      refine R.WC_planF (.q 0 (.q 1 (.q 2 (.q 3 (.q 4 (.q 5 (.q 6 (.q 7 (.f 8 10 (.q 9 (.e 10 (.e 11 .nil))) (.e 8 (.q 9 (.e 11 .nil)))))))))))) R.mixed (by decide +kernel) R.ohm ?_
      (refine R.stepU ?_; (repeat' (first | (with_reducible refine And.intro ?_ ?_) | (with_reducible intro _))); all_goals refine R.Lft.mk ?_)
      all_goals refine R.WO_makeO (T := R.Sl Int) (enc := R.cSl) (z0 := default) rfl (by rfl) rfl rfl (by omega) (by omega) (by omega) R.ohm (fun A w4 hM => ?_)
      · (refine R.stepU ?_; (repeat' (first | (with_reducible refine And.intro ?_ ?_) | (with_reducible intro _))); all_goals refine R.Lft.mk ?_)
        rename_i hM
        rw [em] at hM
        exact ⟨rfl, (_, A), ⟨rfl, rfl, rfl, rfl, trivial⟩, R.dr (.blk ga _ _) (R.Own.swap hM)⟩
      · (refine R.stepU ?_; (repeat' (first | (with_reducible refine And.intro ?_ ?_) | (with_reducible intro _))); all_goals refine R.Lft.mk ?_)
        rename_i hM
        rw [em] at hM
        exact ⟨rfl, (_, A), ⟨rfl, rfl, rfl, rfl, trivial⟩, R.dr (.blk ga _ _) hM⟩
    case h2 =>
      clear hM
      rintro ⟨gg, A1⟩ f w2 hM
      dsimp only at hM ⊢
      obtain ⟨gC, rfl⟩ := row_form (R.Own.ok hM _ (.head _)) (by omega)
      have hM := R.Own.nil hM 3 1
      (refine R.stepN ?_; (repeat' (first | (with_reducible refine And.intro ?_ ?_) | (with_reducible intro _))); all_goals refine R.Lft.mk ?_)
      refine R.WC_loop (fun i : Nat × Option Addr × Nat => [(2, .pointer (some ⟨gn, 0, none⟩)), (4, .pointer (some ⟨gr, 0, none⟩)), (5, .int .i64 0), (10, .pointer (some ⟨gg, 0, none⟩)), (81, .int .i64 (x.e.n : Nat)), (82, .int .i64 (i.1 : Nat))])
        (fun i w2 => i.1 ≤ 4 ∧ R.Own [] w w2 (layR gg gC i.1 i.2.1 i.2.2 ++ [.blk gr 36 [.int .i64 0, .int .i64 0, .int .i64 0, .int .i64 0, .int .i64 0, .slice none 0 0], .blk gn 26 (cNt x)])) (fun i => 4 - i.1)
        ⟨(0, none, 0), ⟨rfl, rfl, rfl, rfl, rfl, rfl, trivial⟩, Nat.zero_le _, hM⟩ ?_
      clear hM
      rintro ⟨k, X, c1⟩ f w3 ⟨hk, hM⟩
      dsimp only at hk hM ⊢
      by_cases hlt : k < 4
      · have iBk := iB k
        have hM := hM.perm List.perm_append_comm
        (refine R.stepN ?_; (repeat' (first | (with_reducible refine And.intro ?_ ?_) | (with_reducible intro _))); all_goals refine R.Lft.mk ?_)
        rename_i hP
        refine R.WO_call3 rfl rfl R.vv R.vv R.vv ?_
        refine (lay_x gg gC k X c1 hlt _ (R.Own.has hP)).mono ?_
        rintro _ w8 ⟨rfl, X2, c2, hO⟩
        have hM := R.Own.callF hP hO
        clear hP hO
        refine ⟨_, rfl, ?_⟩
        (refine R.stepN ?_; (repeat' (first | (with_reducible refine And.intro ?_ ?_) | (with_reducible intro _))); all_goals refine R.Lft.mk ?_)
        exact ⟨(k + 1, X2, c2), ⟨rfl, rfl, rfl, rfl, rfl, R.viaI rfl (by dsimp only; omega), trivial⟩, ⟨by dsimp only; omega, (R.ohm : R.Own [] w _ _).perm List.perm_append_comm⟩, by dsimp only; omega⟩
      · obtain rfl : k = 4 := by omega
        unfold layR at hM
        dsimp only [List.append, List.cons_append, List.nil_append] at hM
        (refine R.stepN ?_; (repeat' (first | (with_reducible refine And.intro ?_ ?_) | (with_reducible intro _))); all_goals refine R.Lft.mk ?_)
        exact ⟨gC, X, c1, rfl, R.Own.sub R.ohm (List.Sublist.cons_cons _ (List.Sublist.cons_cons _ (List.nil_sublist _)))⟩
instance con_gcell (g : Gq) (p : Pq) : R.ConB Tryz.prog 15 #[.agg (cGq g).toArray, .agg (cPq p).toArray] Unit (fun _ _ => True) (fun _ => .tuple #[.int .i64 (if okC g p then cellV g p else 0), .bool (decide (okC g p))]) := ⟨fun _ w _ => gcell_any g p w⟩
instance con_gbound (g : Gq) (c : Int) (p : Pq) : R.ConB Tryz.prog 7 #[.agg (cGq g).toArray, .int .i64 c, .agg (cPq p).toArray] Unit (fun _ _ => True) (fun _ => .int .i64 (bndV g c p)) := ⟨fun _ w _ => gbound_any g c p w⟩
theorem x_may (gC : Nat) (L : List (R.Sl Int)) : mayGq ⟨0, 0, 4, 1, 1, ⟨some ⟨gC, 0, none⟩, 1, 1, L⟩⟩ := by unfold mayGq; dsimp only; omega
theorem x_cell (gC : Nat) (L : List (R.Sl Int)) : okC ⟨0, 0, 4, 1, 1, ⟨some ⟨gC, 0, none⟩, 1, 1, L⟩⟩ ⟨2, 0⟩ ∧ cellV ⟨0, 0, 4, 1, 1, ⟨some ⟨gC, 0, none⟩, 1, 1, L⟩⟩ ⟨2, 0⟩ = 0 := by
  refine ⟨⟨x_may gC L, by unfold mayPq; dsimp only; omega, by unfold inG; dsimp only; omega⟩, ?_⟩
  unfold cellV
  dsimp only
  decide
theorem x_bound (gC : Nat) (L : List (R.Sl Int)) : bndV ⟨0, 0, 4, 1, 1, ⟨some ⟨gC, 0, none⟩, 1, 1, L⟩⟩ 0 ⟨2, -3⟩ = 9 := by
  unfold bndV
  rw [if_pos ⟨x_may gC L, by unfold mayPq; dsimp only; omega, by omega, by dsimp only; omega⟩]
  unfold dxV dyV
  dsimp only
  decide
set_option maxHeartbeats 4000000 in
theorem awake31_any (w : World) : Calls Tryz.prog 5 #[] w fun e w' => e = .returned (.bool true) ∧ Below w.heap.size w w' := by
  have hM := R.Own.start [] w
  refine R.calls_of_WC (fn := Tryz.f5) Tryz.func5 rfl Tryz.ntmps5 (Nat.le_of_ble_eq_true rfl) ?_
  (refine R.stepN ?_; (repeat' (first | (with_reducible refine And.intro ?_ ?_) | (with_reducible intro _))); all_goals refine R.Lft.mk ?_)
  refine R.WO_call0 rfl rfl  ?_
  refine (cross_any _).mono ?_
  rintro _ w2 ⟨A, B, c, d, rfl, hO⟩
  have hG := cross_G A B c d hO (.head _) (.tail _ (.head _))
  have hM := hM.call (R.Own.below hO)
  refine ⟨_, rfl, ?_⟩
  (refine R.stepN ?_; (repeat' (first | (with_reducible refine And.intro ?_ ?_) | (with_reducible intro _))); all_goals refine R.Lft.mk ?_)
  refine R.WO_call2 rfl rfl R.vv R.vv ?_
  refine (ofCross_any A B c d _ hG).mono ?_
  rintro _ w3 ⟨gC, X, c', rfl, hO2⟩
  have hM : R.Own [] w w3 [.row X 4 c' 3 1 ((ints 4).flatMap R.cI), .row (some ⟨gC, 0, none⟩) 1 1 40 1 (([⟨X, 4, c', ints 4⟩] : List (R.Sl Int)).flatMap R.cSl)] := R.Own.callF' (lc := []) hM hO2
  have hq := x_cell gC []
  have iC : R.ConB Tryz.prog 15 #[.agg #[.int .i64 0, .int .i64 0, .int .i64 4, .int .i64 1, .int .i64 1, .slice (some ⟨gC, 0, none⟩) 1 1], .agg #[.int .i64 2, .int .i64 0]] Unit (fun _ _ => True) (fun _ => .tuple #[.int .i64 0, .bool true]) := ⟨fun s w h => by
    have q := gcell_any ⟨0, 0, 4, 1, 1, ⟨some ⟨gC, 0, none⟩, 1, 1, []⟩⟩ ⟨2, 0⟩ w
    rw [if_pos hq.1, decide_eq_true hq.1, hq.2] at q
    exact q⟩
  have iD : R.ConB Tryz.prog 7 #[.agg #[.int .i64 0, .int .i64 0, .int .i64 4, .int .i64 1, .int .i64 1, .slice (some ⟨gC, 0, none⟩) 1 1], .int .i64 0, .agg #[.int .i64 2, .int .i64 (-3)]] Unit (fun _ _ => True) (fun _ => .int .i64 9) := ⟨fun s w h => by
    have q := gbound_any ⟨0, 0, 4, 1, 1, ⟨some ⟨gC, 0, none⟩, 1, 1, []⟩⟩ 0 ⟨2, -3⟩ w
    rw [x_bound] at q
    exact q⟩
  refine ⟨_, rfl, ?_⟩
  (refine R.stepN ?_; (repeat' (first | (with_reducible refine And.intro ?_ ?_) | (with_reducible intro _))); all_goals refine R.Lft.mk ?_)
  exact ⟨rfl, R.Own.below R.ohm⟩
end Go.Proofs.YtmoppmfbfpjdnaaGreat
namespace Go.Proofs.YtmoppmfbfpjdnaaGreat
open Go.ChangeShapes Go.WideShapes Go.ChangeAt Go.RowKit
open R (In64 InU64 lo64 nth)

def GPq (_ : World) (_ : Pq) : Prop := True
def GGq (_ : World) (_ : Gq) : Prop := True
instance opn_Pq : R.Opn Tryz.prog 28 Pq cPq GPq := R.opn_struct2 (o0 := 0) (t0 := 3) (n0 := 1) (o1 := 1) (t1 := 3) (n1 := 1) (by kernel_rfl) (by kernel_rfl) rfl rfl (by kernel_rfl) Pt.mk (fun _ _ => rfl) (fun _ _ _ _ _ => trivial)
instance opn_Iss : R.Opn Tryz.prog 34 (R.Sl (R.Sl Int)) R.cSl (R.GSl R.cSl 1 (R.GSl R.cI 1 GI)) := R.opn_slice (e := 40) (by kernel_rfl) (by kernel_rfl)
instance opn_Gq : R.Opn Tryz.prog 36 Gq cGq GGq := R.opn_struct5 (o0 := 0) (t0 := 28) (n0 := 2) (o1 := 2) (t1 := 3) (n1 := 1) (o2 := 3) (t2 := 3) (n2 := 1) (o3 := 4) (t3 := 3) (n3 := 1) (o4 := 5) (t4 := 34) (n4 := 1) (by kernel_rfl) (by kernel_rfl) (by kernel_rfl) (by kernel_rfl) (by kernel_rfl) rfl rfl rfl rfl rfl (by kernel_rfl) (fun (l : Pq) s c r cl => ⟨l.x, l.y, s, c, r, cl⟩) (fun _ _ _ _ _ => rfl) (fun _ _ _ _ _ _ _ _ _ _ _ => trivial)
theorem cellV_nn {g : Gq} {p : Pq} (h : okC g p) : 0 ≤ cellV g p := by
  obtain ⟨⟨s1, s2, c1, c2, r1, r2, l1, l2, l3, l4⟩, _, ⟨n1, n2, n3, n4⟩⟩ := h
  obtain ⟨a0, a1, -⟩ := lastV_spec s1 c1 n1 n3
  obtain ⟨b0, b1, -⟩ := lastV_spec s1 r1 n2 n4
  have := Int.mul_nonneg (a := lastV (p.y - g.ly) g.side g.rows) (b := g.cols) b0 (by omega)
  unfold cellV
  omega
instance con_awake31 : R.ConB Tryz.prog 5 #[] Unit (fun _ _ => True) (fun _ => .bool true) := ⟨fun _ w _ => awake31_any w⟩
end Go.Proofs.YtmoppmfbfpjdnaaGreat
namespace Go.Proofs.YtmoppmfbfpjdnaaGreat
open Go.RowKit
open R (In64 InU64 lo64 nth)

section
variable {x : Nt} {m lx ly S : Int} {N : Nat} {Ms : List (R.Sl Int)}
theorem inR_lt {e : Nat} {r c : Int} (hm : 1 ≤ m ∧ m ≤ 64) (hN : ((N : Nat) : Int) = m * m) (h : InR x lx ly S m e r c) : 0 ≤ r ∧ 0 ≤ c ∧ c < m ∧ (r * m + c).toNat < N ∧ (((r * m + c).toNat : Nat) : Int) = r * m + c := by
  obtain ⟨⟨h1, h2⟩, h3, h4⟩ := h
  unfold firstV at h1 h3
  unfold lastV at h2 h4
  have hr : 0 ≤ r ∧ r ≤ m - 1 := by omega
  have hc : 0 ≤ c ∧ c ≤ m - 1 := by omega
  have a := Int.mul_nonneg (a := r) (b := m) hr.1 (by omega)
  have b := Int.mul_le_mul_of_nonneg_right (a := r + 1) (b := m) (c := m) (by omega) (by omega)
  rw [Int.add_mul, Int.one_mul] at b
  omega
theorem grid_some (hm : 1 ≤ m ∧ m ≤ 64) (hP : GridP x m lx ly S N Ms) {e : Nat} (he : e < x.e.n) : ∃ i : Nat, i < N ∧ ((e : Nat) : Int) ∈ (nth Ms i).L := by
  obtain ⟨⟨x0, x1, x2⟩, y0, y1, y2⟩ := hP.boxes e he
  obtain ⟨r, u1, u2, _⟩ := cell_at (W := 1) (Q := (boxQ x e).a.y) hP.side.1 (by decide) hm.1 y0 y1 y2 (by omega) (by omega)
  obtain ⟨c, v1, v2, _⟩ := cell_at (W := 1) (Q := (boxQ x e).a.x) hP.side.1 (by decide) hm.1 x0 x1 x2 (by omega) (by omega)
  have hR : InR x lx ly S m e r c := ⟨⟨u1, u2⟩, v1, v2⟩
  exact ⟨_, (inR_lt hm hP.num hR).2.2.2.1, hP.has e he r c hR⟩
theorem grid_least (hm : 1 ≤ m ∧ m ≤ 64) (hP : GridP x m lx ly S N Ms) {e : Nat} (he : e < x.e.n) {p : Pt} (hA : nearP (nodeA x e)) (hB : nearP (nodeB x e)) (hl : NearL (nodeA x e) (nodeB x e) p) (cl : R.Sl (R.Sl Int)) :
    ∃ i : Nat, i < N ∧ ((e : Nat) : Int) ∈ (nth Ms i).L ∧ ∀ n d, 0 < d → (lineL (nodeA x e) (nodeB x e) p).squareQ.1 * d = n * (lineL (nodeA x e) (nodeB x e) p).squareQ.2 → bndV ⟨lx, ly, S, m, m, cl⟩ (i : Nat) p * d ≤ n := by
  obtain ⟨⟨x0, x1, x2⟩, y0, y1, y2⟩ := hP.boxes e he
  obtain ⟨_, _, _, hbx⟩ := box_spec hA hB
  obtain ⟨⟨a1, a2⟩, a3, a4⟩ := hbx _ (.inl rfl)
  obtain ⟨⟨b1, b2⟩, b3, b4⟩ := hbx _ (.inr rfl)
  obtain ⟨c, r, hc, hr, hle⟩ := near_cell (lineL (nodeA x e) (nodeB x e) p) hl.aw hl.bw hl.Dpos hP.side.1 hm.1 hm.1 x0 x1 x2 y0 y1 y2 a1 b1 a2 b2 a3 b3 a4 b4
  have hR : InR x lx ly S m e r c := ⟨hr, hc⟩
  obtain ⟨r0, c0, cm, hN, hi⟩ := inR_lt hm hP.num hR
  refine ⟨_, hN, hP.has e he r c hR, fun n d hd h => ?_⟩
  have hp := hl.pt
  unfold ptB at hp
  simp only [Bool.and_eq_true, decide_eq_true_eq] at hp
  have hok : okB ⟨lx, ly, S, m, m, cl⟩ (((r * m + c).toNat : Nat) : Int) p := by
    refine ⟨⟨hP.side.1, hP.side.2, hm.1, hm.2, hm.1, hm.2, hP.low.1.1, hP.low.1.2, hP.low.2.1, hP.low.2.2⟩, ⟨hp.1, hp.2.1, hp.2.2.1, hp.2.2.2⟩, by omega, ?_⟩
    have := hP.num
    dsimp only
    omega
  unfold bndV
  rw [if_pos hok]
  unfold dxV dyV
  dsimp only
  rw [hi]
  have e1 : (r * m + c) % m = c := by
    rw [Int.add_comm, Int.add_mul_emod_self_right]
    exact Int.emod_eq_of_lt c0 cm
  have e2 : (r * m + c) / m = r := by
    rw [Int.add_comm, Int.add_mul_ediv_right _ _ (by omega), Int.ediv_eq_zero_of_lt c0 cm, Int.zero_add]
  rw [e1, e2]
  exact hle n d hd h
end
end Go.Proofs.YtmoppmfbfpjdnaaGreat
namespace Go.Proofs.YtmoppmfbfpjdnaaGreat
open Go.ChangeShapes Go.WideShapes Go.ChangeAt Go.RowKit
open R (In64 InU64 lo64 nth)

theorem of_no (x : Nt) (m : Int) (w : World) (hG : GNt w x) (_hm : In64 m) (h : m < 1 ∨ 64 < m ∨ nearN x = false ∨ x.e.n = 0) : Calls Tryz.prog 6 #[.agg (cNt x).toArray, .int .i64 m] w fun e w' => ∃ f : Int, e = .returned (.tuple #[.agg #[.int .i64 0, .int .i64 0, .int .i64 0, .int .i64 0, .int .i64 0, .slice none 0 0], .int .i64 f]) ∧ f ≠ 0 ∧ Below w.heap.size w w' := by
  have hM := R.Own.start [] w
  have hL := hG.lasts
  by_cases h1 : m < 1
  · refine R.calls_of_WC (fn := Tryz.f6) Tryz.func6 rfl Tryz.ntmps6 (Nat.le_of_ble_eq_true rfl) ?_
    (refine R.stepN ?_; (repeat' (first | (with_reducible refine And.intro ?_ ?_) | (with_reducible intro _))); all_goals refine R.Lft.mk ?_)
    exact ⟨1, rfl, by decide, R.Own.below R.ohm⟩
  by_cases h2 : 64 < m
  · refine R.calls_of_WC (fn := Tryz.f6) Tryz.func6 rfl Tryz.ntmps6 (Nat.le_of_ble_eq_true rfl) ?_
    (refine R.stepN ?_; (repeat' (first | (with_reducible refine And.intro ?_ ?_) | (with_reducible intro _))); all_goals refine R.Lft.mk ?_)
    exact ⟨1, rfl, by decide, R.Own.below R.ohm⟩
  cases hnr : nearN x with
  | false =>
    have iN : R.ConB Tryz.prog 16 #[.agg (cNt x).toArray] Unit (fun _ w => GNt w x) (fun _ => .bool false) := ⟨fun _ w h => by
      have q := gnearN_any x w h
      rw [hnr] at q
      exact q⟩
    refine R.calls_of_WC (fn := Tryz.f6) Tryz.func6 rfl Tryz.ntmps6 (Nat.le_of_ble_eq_true rfl) ?_
    (refine R.stepN ?_; (repeat' (first | (with_reducible refine And.intro ?_ ?_) | (with_reducible intro _))); all_goals refine R.Lft.mk ?_)
    exact ⟨1, rfl, by decide, R.Own.below R.ohm⟩
  | true =>
    have iN : R.ConB Tryz.prog 16 #[.agg (cNt x).toArray] Unit (fun _ w => GNt w x) (fun _ => .bool true) := ⟨fun _ w h => by
      have q := gnearN_any x w h
      rw [hnr] at q
      exact q⟩
    have h3 : x.e.n = 0 := by
      rcases h with q | q | q | q
      · omega
      · omega
      · rw [hnr] at q; cases q
      · exact q
    refine R.calls_of_WC (fn := Tryz.f6) Tryz.func6 rfl Tryz.ntmps6 (Nat.le_of_ble_eq_true rfl) ?_
    (refine R.stepN ?_; (repeat' (first | (with_reducible refine And.intro ?_ ?_) | (with_reducible intro _))); all_goals refine R.Lft.mk ?_)
    exact ⟨11, rfl, by decide, R.Own.below R.ohm⟩
theorem cmpZ_three (x y : Int) : cmpZ x y = -1 ∨ cmpZ x y = 0 ∨ cmpZ x y = 1 := by
  unfold cmpZ
  split
  · exact .inl rfl
  · split
    · exact .inr (.inl rfl)
    · exact .inr (.inr rfl)
section
variable {x : Nt} {Ms : List (R.Sl Int)} {e : Int} {B : Nat → Int}
/-- What is known of the least bound, when the squares before i are gone through. -/
def LeastI (Ms : List (R.Sl Int)) (e : Int) (B : Nat → Int) (i : Nat) (v : Int) : Prop := (-1 ≤ v ∧ v ≤ 2305843009213693952) ∧ ∀ j, j < i → e ∈ (nth Ms j).L → 0 ≤ v ∧ v ≤ B j
/-- .. and the first k things of square i too. -/
def LeastK (Ms : List (R.Sl Int)) (e : Int) (B : Nat → Int) (i k : Nat) (v : Int) : Prop := LeastI Ms e B i v ∧ ∀ j, j < k → nth (nth Ms i).L j = e → 0 ≤ v ∧ v ≤ B i
theorem LeastK.skip {i k : Nat} {v : Int} (h : LeastK Ms e B i k v) (hk : nth (nth Ms i).L k ≠ e) : LeastK Ms e B i (k + 1) v :=
  ⟨h.1, fun j hj he => by
    by_cases c : j = k
    · subst c; exact absurd he hk
    · exact h.2 j (by omega) he⟩
theorem LeastK.keep {i k : Nat} {v : Int} (h : LeastK Ms e B i k v) (h0 : 0 ≤ v) (hv : v ≤ B i) : LeastK Ms e B i (k + 1) v :=
  ⟨h.1, fun j hj he => by
    by_cases c : j = k
    · exact ⟨h0, hv⟩
    · exact h.2 j (by omega) he⟩
theorem LeastK.set {i k : Nat} {v : Int} (h : LeastK Ms e B i k v) (hB : 0 ≤ B i ∧ B i ≤ 2305843009213693952) (hv : v < 0 ∨ B i < v) : LeastK Ms e B i (k + 1) (B i) := by
  refine ⟨⟨⟨by omega, hB.2⟩, fun j hj he => ?_⟩, fun j hj he => ⟨hB.1, Int.le_refl _⟩⟩
  obtain ⟨q1, q2⟩ := h.1.2 j hj he
  exact ⟨hB.1, by omega⟩
theorem LeastK.done {i : Nat} {v : Int} (h : LeastK Ms e B i (nth Ms i).L.length v) : LeastI Ms e B (i + 1) v :=
  ⟨h.1.1, fun j hj he => by
    by_cases c : j = i
    · subst c
      obtain ⟨k, hk, hke⟩ := List.getElem_of_mem he
      exact h.2 k hk (by rw [R.nth_eq hk]; exact hke)
    · exact h.1.2 j (by omega) he⟩
end
theorem nst_unfocus {T : Type} [Inhabited T] {e : TypeId} {sz : Nat} {enc : T → List Value} {F : List Nat} {W0 w : World} {M : List (R.Sl T)} {j : Nat} {pre : List R.Res} (hM : R.Own F W0 w (nst1 e sz enc (nth M j) :: (pre ++ (nst e sz enc (M.take j) ++ nst e sz enc (M.drop (j + 1)))))) (hj : j < M.length) : R.Own F W0 w (pre ++ nst e sz enc M) :=
  hM.perm ((List.Perm.append_left pre (nst_pick hj)).trans List.perm_middle)
end Go.Proofs.YtmoppmfbfpjdnaaGreat
namespace Go.Proofs.YtmoppmfbfpjdnaaGreat
open Go.ChangeShapes Go.WideShapes Go.ChangeAt Go.RowKit
open R (In64 InU64 lo64 nth)

set_option maxHeartbeats 16000000 in
theorem gridBounds_yes (x : Nt) (m : Int) (p : Pt) (w : World) (hG : GNt w x) (hp : In64 p.x ∧ In64 p.y) (hm : 1 ≤ m ∧ m ≤ 10) (hnr : nearN x = true) (he0 : 0 < x.e.n) (he1 : x.e.n ≤ 16)
    (hl : decide (x.s.n ≤ 30 ∧ x.e.n ≤ 40 ∧ x.p.n ≤ 20 ∧ (0 : Nat) ≤ 60) = true) : Calls Tryz.prog 3 #[.agg (cNt x).toArray, .int .i64 m, .agg (cPt p).toArray] w fun e w' => e = .returned (.bool true) ∧ Below w.heap.size w w' := by
  have hM := R.Own.start [] w
  have hL := hG.lasts
  have hsl : x.s.n = x.s.L.length := hG.1.2.1
  have iL : R.ConB Tryz.prog 4 #[.agg (cNt x).toArray, .agg #[.slice none 0 0, .int .i64 0]] Unit (fun _ _ => True) (fun _ => .bool true) := ⟨fun s w h => by
    have q := (con_light17 x ⟨⟨none, 0, 0, []⟩, 0⟩).h () w trivial
    rw [show decide _ = true from hl] at q
    exact q⟩
  refine R.calls_of_WC (fn := Tryz.f3) Tryz.func3 rfl Tryz.ntmps3 (Nat.le_of_ble_eq_true rfl) ?_
  (refine R.stepN ?_; (repeat' (first | (with_reducible refine And.intro ?_ ?_) | (with_reducible intro _))); all_goals refine R.Lft.mk ?_)
  rename_i gx _ _ gp _ _ _ hM
  refine R.WO_call2 rfl rfl R.vv R.vv ?_
  refine (of_yes x m _ (GNt.now R.ohm hG) hnr (by omega) he0 (by omega)).mono ?_
  rintro _ w2 ⟨gC, N, lx, ly, S, Ms, rfl, hP, hO⟩
  have hM := R.Own.giveN R.ohm hO
  clear hO
  have hM : R.Own [] w w2 (.blk gp 28 (cPt p) :: .blk gx 26 (cNt x) :: .row (some ⟨gC, 0, none⟩) N N 40 1 (Ms.flatMap R.cSl) :: nst 3 1 R.cI Ms) := hM
  have hms := hP.lens.len
  have hNb : N ≤ 100 := by
    have q1 := hP.num
    have q2 := (mul_bd (a := m) (b := m) (A := 10) (B := 10) (by omega) hm.2 (by omega) hm.2).2
    omega
  refine ⟨_, rfl, ?_⟩
  obtain ⟨G, hG0⟩ : ∃ G : Gq, G = ⟨lx, ly, S, m, m, ⟨some ⟨gC, 0, none⟩, N, N, []⟩⟩ := ⟨_, rfl⟩
  have iBd : ∀ i : Nat, R.ConB Tryz.prog 7 #[.agg #[.int .i64 lx, .int .i64 ly, .int .i64 S, .int .i64 m, .int .i64 m, .slice (some ⟨gC, 0, none⟩) N N], .int .i64 (i : Nat), .agg (cPt p).toArray] Unit (fun _ _ => True) (fun _ => .int .i64 (bndV G (i : Nat) p)) := fun i => ⟨fun _ w _ => by
    rw [hG0]
    exact gbound_any ⟨lx, ly, S, m, m, ⟨some ⟨gC, 0, none⟩, N, N, []⟩⟩ (i : Nat) p w⟩
  (refine R.stepN ?_; (repeat' (first | (with_reducible refine And.intro ?_ ?_) | (with_reducible intro _))); all_goals refine R.Lft.mk ?_)
  rename_i gg _ _ _ hM
  refine R.WC_loop (fun e : Nat => [(3, .pointer (some ⟨gx, 0, none⟩)), (5, .pointer (some ⟨gp, 0, none⟩)), (6, .bool false), (7, .pointer (some ⟨gg, 0, none⟩)), (9, .int .i64 (e : Nat))])
    (fun e w2 => e ≤ x.e.n ∧ R.Own [] w w2 (.blk gg 36 [.int .i64 lx, .int .i64 ly, .int .i64 S, .int .i64 m, .int .i64 m, .slice (some ⟨gC, 0, none⟩) N N] :: .blk gp 28 (cPt p) :: .blk gx 26 (cNt x) :: .row (some ⟨gC, 0, none⟩) N N 40 1 (Ms.flatMap R.cSl) :: nst 3 1 R.cI Ms)) (fun e => x.e.n - e) ⟨0, ⟨rfl, rfl, rfl, rfl, rfl, trivial⟩, Nat.zero_le _, hM⟩ ?_
  clear hM
  rintro e f w3 ⟨hee, hM⟩
  by_cases hlt : e < x.e.n
  · (refine R.stepN ?_; (repeat' (first | (with_reducible refine And.intro ?_ ?_) | (with_reducible intro _))); all_goals refine R.Lft.mk ?_)
    rename_i hM
    refine R.WC_loop (fun i : Nat × Int => [(3, .pointer (some ⟨gx, 0, none⟩)), (5, .pointer (some ⟨gp, 0, none⟩)), (6, .bool false), (7, .pointer (some ⟨gg, 0, none⟩)), (9, .int .i64 (e : Nat)), (10, .int .i64 i.2), (11, .int .i64 (i.1 : Nat))])
      (fun i w2 => i.1 ≤ N ∧ LeastI Ms (e : Nat) (fun j => bndV G (j : Nat) p) i.1 i.2 ∧ R.Own [] w w2 (.blk gg 36 [.int .i64 lx, .int .i64 ly, .int .i64 S, .int .i64 m, .int .i64 m, .slice (some ⟨gC, 0, none⟩) N N] :: .blk gp 28 (cPt p) :: .blk gx 26 (cNt x) :: .row (some ⟨gC, 0, none⟩) N N 40 1 (Ms.flatMap R.cSl) :: nst 3 1 R.cI Ms)) (fun i => N - i.1)
      ⟨(0, -1), ⟨rfl, rfl, rfl, rfl, rfl, rfl, rfl, trivial⟩, Nat.zero_le _, ⟨⟨by decide, by decide⟩, fun j hj => absurd hj (Nat.not_lt_zero _)⟩, hM⟩ ?_
    clear hM
    rintro ⟨i, v⟩ f w4 ⟨hi, hLe, hM⟩
    dsimp only at hi hLe hM ⊢
    by_cases hlt2 : i < N
    · have hiM : i < Ms.length := by omega
      obtain ⟨hxn, hxl⟩ := hP.lens.bnd _ (R.nth_mem hiM)
      have iBi := iBd i
      have hBi := bndV_in G (i : Nat) p
      have hM := nst_focus (pre := [_, _, _, _]) hM hiM
      have hM : R.Own [] w w4 (.row (nth Ms i).A (nth Ms i).n (nth Ms i).c 3 1 ((nth Ms i).L.flatMap R.cI) :: .blk gg 36 [.int .i64 lx, .int .i64 ly, .int .i64 S, .int .i64 m, .int .i64 m, .slice (some ⟨gC, 0, none⟩) N N] :: .blk gp 28 (cPt p) :: .blk gx 26 (cNt x) :: .row (some ⟨gC, 0, none⟩) N N 40 1 (Ms.flatMap R.cSl) :: (nst 3 1 R.cI (Ms.take i) ++ nst 3 1 R.cI (Ms.drop (i + 1)))) := hM
      (refine R.stepN ?_; (repeat' (first | (with_reducible refine And.intro ?_ ?_) | (with_reducible intro _))); all_goals refine R.Lft.mk ?_)
      rename_i hM
      refine R.WC_loop (fun k : Nat × Int => [(3, .pointer (some ⟨gx, 0, none⟩)), (5, .pointer (some ⟨gp, 0, none⟩)), (6, .bool false), (7, .pointer (some ⟨gg, 0, none⟩)), (9, .int .i64 (e : Nat)), (10, .int .i64 k.2), (11, .int .i64 (i : Nat)), (12, .int .i64 (k.1 : Nat))])
        (fun k w2 => k.1 ≤ (nth Ms i).n ∧ LeastK Ms (e : Nat) (fun j => bndV G (j : Nat) p) i k.1 k.2 ∧ R.Own [] w w2 (.row (nth Ms i).A (nth Ms i).n (nth Ms i).c 3 1 ((nth Ms i).L.flatMap R.cI) :: .blk gg 36 [.int .i64 lx, .int .i64 ly, .int .i64 S, .int .i64 m, .int .i64 m, .slice (some ⟨gC, 0, none⟩) N N] :: .blk gp 28 (cPt p) :: .blk gx 26 (cNt x) :: .row (some ⟨gC, 0, none⟩) N N 40 1 (Ms.flatMap R.cSl) :: (nst 3 1 R.cI (Ms.take i) ++ nst 3 1 R.cI (Ms.drop (i + 1))))) (fun k => (nth Ms i).n - k.1)
        ⟨(0, v), ⟨rfl, rfl, rfl, rfl, rfl, rfl, rfl, rfl, trivial⟩, Nat.zero_le _, ⟨hLe, fun j hj => absurd hj (Nat.not_lt_zero _)⟩, hM⟩ ?_
      clear hM hLe
      rintro ⟨k, v⟩ f w5 ⟨hk, hLk, hM⟩
      dsimp only at hk hLk hM ⊢
      have hv := hLk.1.1
      by_cases hlt3 : k < (nth Ms i).n
      · (refine R.stepN ?_; (repeat' (first | (with_reducible refine And.intro ?_ ?_) | (with_reducible intro _))); all_goals refine R.Lft.mk ?_)
        all_goals first
          | exact ⟨(k + 1, bndV G (i : Nat) p), ⟨rfl, rfl, rfl, rfl, rfl, rfl, rfl, R.viaI rfl (by dsimp only; omega), trivial⟩, ⟨by dsimp only; omega, hLk.set hBi (by show v < 0 ∨ bndV G (i : Nat) p < v; omega), R.ohm⟩, by dsimp only; omega⟩
          | exact ⟨(k + 1, v), ⟨rfl, rfl, rfl, rfl, rfl, rfl, rfl, R.viaI rfl (by dsimp only; omega), trivial⟩, ⟨by dsimp only; omega, hLk.keep (by omega) (by show v ≤ bndV G (i : Nat) p; omega), R.ohm⟩, by dsimp only; omega⟩
          | exact ⟨(k + 1, v), ⟨rfl, rfl, rfl, rfl, rfl, rfl, rfl, R.viaI rfl (by dsimp only; omega), trivial⟩, ⟨by dsimp only; omega, hLk.skip (by assumption), R.ohm⟩, by dsimp only; omega⟩
      · obtain rfl : k = (nth Ms i).n := by omega
        (refine R.stepN ?_; (repeat' (first | (with_reducible refine And.intro ?_ ?_) | (with_reducible intro _))); all_goals refine R.Lft.mk ?_)
        exact ⟨(i + 1, v), ⟨rfl, rfl, rfl, rfl, rfl, rfl, R.viaI rfl (by dsimp only; omega), trivial⟩, ⟨by dsimp only; omega, LeastK.done (by rw [← hxn]; exact hLk), nst_unfocus (pre := [_, _, _, _]) R.ohm hiM⟩, by dsimp only; omega⟩
    · have hiN : N = i := by omega
      subst hiN
      have hv0 : 0 ≤ v := by
        obtain ⟨j, hj, hm2⟩ := grid_some (by omega) hP hlt
        exact (hLe.2 j hj hm2).1
      have hv1 := hLe.1.2
      obtain ⟨a0, a1, a2⟩ := gedge (near_all hnr).2.1 hlt
      have hsn : x.s.n ≤ 200000 := (netB_iff.1 (near_all hnr).2.1).1
      obtain ⟨⟨s1, s2, s3, -⟩, ⟨t1, t2, t3, -⟩, -⟩ := id hG
      have hAs : ∃ a, x.s.A = some a := (R.Own.rdIn hM s1).some_ (by omega) (by decide)
      have hAe : ∃ a, x.e.A = some a := (R.Own.rdIn hM t1).some_ (by omega) (by decide)
      have iSq : R.ConB Tryz.prog 8 #[.agg (cSp (nth x.s.L (nth x.e.L e).a.toNat)).toArray, .agg (cSp (nth x.s.L (nth x.e.L e).b.toNat)).toArray, .agg (cPt p).toArray] Unit (fun _ _ => True) (fun _ => .tuple #[.agg (cR (if squareE (nth x.s.L (nth x.e.L e).a.toNat) (nth x.s.L (nth x.e.L e).b.toNat) p = 0 then squareR (nth x.s.L (nth x.e.L e).a.toNat) (nth x.s.L (nth x.e.L e).b.toNat) p else nulR)).toArray, .int .i64 (squareE (nth x.s.L (nth x.e.L e).a.toNat) (nth x.s.L (nth x.e.L e).b.toNat) p)]) := ⟨fun s w _ => (con_fSquare (nth x.s.L (nth x.e.L e).a.toNat) (nth x.s.L (nth x.e.L e).b.toNat) p).h s w hp⟩
      obtain ⟨hnA, hnB⟩ := near_nodes hsl hnr hlt
      have hGl := grid_least (p := p) (by omega) hP hlt hnA hnB
      unfold nodeA at hGl hnA
      unfold nodeB at hGl hnB
      clear hv0
      have hv0 : 0 ≤ v ∧ v ≤ 2305843009213693952 := by
        obtain ⟨j, hj, hm2⟩ := grid_some (by omega) hP hlt
        exact ⟨(hLe.2 j hj hm2).1, hv1⟩
      obtain ⟨sa, hsa⟩ : ∃ sa, (nth x.s.L (nth x.e.L e).a.toNat) = sa := ⟨_, rfl⟩
      obtain ⟨sb, hsb⟩ : ∃ sb, (nth x.s.L (nth x.e.L e).b.toNat) = sb := ⟨_, rfl⟩
      rw [hsa, hsb] at hGl
      (refine R.stepN ?_; (repeat' (first | (with_reducible refine And.intro ?_ ?_) | (with_reducible intro _))); all_goals refine R.Lft.mk ?_)
      refine R.WC_cut2 (ι := Nat) (fun g => [(3, .pointer (some ⟨gx, 0, none⟩)), (5, .pointer (some ⟨gp, 0, none⟩)), (6, .bool false), (7, .pointer (some ⟨gg, 0, none⟩)), (9, .int .i64 (e : Nat)), (10, .int .i64 v), (14, .pointer (some ⟨g, 0, none⟩)), (15, .int .i64 (squareE (nth x.s.L (nth x.e.L e).a.toNat) (nth x.s.L (nth x.e.L e).b.toNat) p))])
        (fun g w2 => R.Own [] w w2 (.blk g 48 (cR (if squareE (nth x.s.L (nth x.e.L e).a.toNat) (nth x.s.L (nth x.e.L e).b.toNat) p = 0 then squareR (nth x.s.L (nth x.e.L e).a.toNat) (nth x.s.L (nth x.e.L e).b.toNat) p else nulR)) :: .blk gg 36 [.int .i64 lx, .int .i64 ly, .int .i64 S, .int .i64 m, .int .i64 m, .slice (some ⟨gC, 0, none⟩) N N] :: .blk gp 28 (cPt p) :: .blk gx 26 (cNt x) :: .row (some ⟨gC, 0, none⟩) N N 40 1 (Ms.flatMap R.cSl) :: nst 3 1 R.cI Ms)) ?h1 ?h2
      case h1 =>
        refine R.WC_planF (.q 0 (.q 1 (.q 2 (.q 3 (.q 4 (.q 5 (.q 6 (.q 7 (.q 8 (.q 9 (.q 10 (.q 11 (.q 12 (.q 13 (.q 14 (.q 15 (.q 16 (.q 17 (.q 18 (.q 19 (.q 20 (.f 21 25 (.q 22 (.q 23 (.q 24 (.e 25 (.e 26 (.q 27 .nil)))))) (.e 21 (.q 22 (.q 23 (.q 24 (.e 26 (.q 27 .nil)))))))))))))))))))))))))))) R.mixed (by decide +kernel) R.ohm ?_
        (refine R.stepU ?_; (repeat' (first | (with_reducible refine And.intro ?_ ?_) | (with_reducible intro _))); all_goals refine R.Lft.mk ?_)
        all_goals
          rename_i hM
          exact ⟨rfl, _, ⟨rfl, rfl, rfl, rfl, rfl, rfl, rfl, rfl, trivial⟩, hM⟩
      case h2 =>
        clear hM
        rintro gs f w6 hM
        try dsimp only at hM ⊢
        rw [hsa, hsb] at hM ⊢
        by_cases hE : squareE sa sb p = 0
        · rw [if_pos hE] at hM
          rw [hE]
          have hlB : lineB sa sb p = true := by
            cases hq : lineB sa sb p with
            | true => rfl
            | false => unfold squareE at hE; rw [hq] at hE; cases hE
          have hN2 := NearL.of hlB
          obtain ⟨n1, d1, hd1, hI1, hq1⟩ := hN2.square
          obtain ⟨j, hj, hmem, hle⟩ := hGl hN2 ⟨some ⟨gC, 0, none⟩, N, N, []⟩
          have hvj := (hLe.2 j hj hmem).2
          have hle := hle n1 d1 hd1 hq1
          rw [← hG0] at hle
          obtain ⟨r, hr⟩ : ∃ r, squareR sa sb p = r := ⟨_, rfl⟩
          rw [hr] at hI1 hM
          have hn1 : 0 ≤ n1 := by
            have := Int.mul_nonneg (bndV_in G (j : Nat) p).1 (Int.le_of_lt hd1)
            omega
          have hfin : v * (r.den.n : Int) ≤ r.num.z := by
            refine cancel_le hd1 ?_
            have h5 : v * d1 ≤ n1 := Int.le_trans (Int.mul_le_mul_of_nonneg_right hvj (Int.le_of_lt hd1)) hle
            have h6 := Int.mul_le_mul_of_nonneg_right h5 (show (0 : Int) ≤ (r.den.n : Int) by omega)
            rw [hI1.1]
            have h7 : v * (r.den.n : Int) * d1 = v * d1 * (r.den.n : Int) := by grind
            omega
          have hnn : 0 ≤ r.num.z := Int.le_trans (Int.mul_nonneg hv0.1 (by omega)) hfin
          clear hI1 hle hmem hq1 hGl
          (refine R.stepU ?_; (repeat' (first | (with_reducible refine And.intro ?_ ?_) | (with_reducible intro _))); all_goals refine R.Lft.mk ?_)
          refine R.WC_cut2 (ι := Nat × Fr) (fun i => [(3, .pointer (some ⟨gx, 0, none⟩)), (5, .pointer (some ⟨gp, 0, none⟩)), (6, .bool false), (7, .pointer (some ⟨gg, 0, none⟩)), (9, .int .i64 (e : Nat)), (10, .int .i64 v), (14, .pointer (some ⟨gs, 0, none⟩)), (16, .pointer (some ⟨i.1, 0, none⟩))])
            (fun i w2 => (RawF 32 i.2 ∧ i.2.q = (r.num.z, (r.den.n : Int))) ∧ R.Own [] w w2 (.blk i.1 60 (cFr i.2.t) :: rowN i.2.n :: rowN i.2.d :: .blk gs 48 (cR r) :: .blk gg 36 [.int .i64 lx, .int .i64 ly, .int .i64 S, .int .i64 m, .int .i64 m, .slice (some ⟨gC, 0, none⟩) N N] :: .blk gp 28 (cPt p) :: .blk gx 26 (cNt x) :: .row (some ⟨gC, 0, none⟩) N N 40 1 (Ms.flatMap R.cSl) :: nst 3 1 R.cI Ms)) ?h1 ?h2
          case h1 =>
            refine R.WC_planF (.q 0 (.q 1 (.q 3 (.q 4 (.q 5 (.f 2 8 (.f 6 8 (.q 7 (.e 8 (.e 9 .nil))) (.e 6 (.q 7 (.e 9 .nil)))) (.e 2 (.e 6 (.q 7 (.e 9 .nil)))))))))) R.mixed (by decide +kernel) R.ohm ?_
            (refine R.stepU ?_; (repeat' (first | (with_reducible refine And.intro ?_ ?_) | (with_reducible intro _))); all_goals refine R.Lft.mk ?_)
            all_goals
              refine R.WO_call1 rfl rfl R.vv ?_
              refine (m_of r.num _).mono ?_
              rintro _ wa ⟨z1, rfl, hO1, r1, e1⟩
              have hM := R.Own.give1 R.ohm hO1
              refine ⟨_, rfl, ?_⟩
              (refine R.stepU ?_; (repeat' (first | (with_reducible refine And.intro ?_ ?_) | (with_reducible intro _))); all_goals refine R.Lft.mk ?_)
              all_goals
                refine R.WO_call1 rfl rfl R.vv ?_
                refine (m_of ⟨false, r.den⟩ _).mono ?_
                rintro _ wb ⟨z2, rfl, hO2, r2, e2⟩
                have hM := R.Own.give1 R.ohm hO2
                refine ⟨_, rfl, ?_⟩
                (refine R.stepU ?_; (repeat' (first | (with_reducible refine And.intro ?_ ?_) | (with_reducible intro _))); all_goals refine R.Lft.mk ?_)
                all_goals
                  rename_i hM
                  exact ⟨rfl, (_, ⟨z1, z2⟩), ⟨rfl, rfl, rfl, rfl, rfl, rfl, rfl, rfl, trivial⟩, ⟨⟨r1, r2⟩, by unfold Fr.q; dsimp only; rw [e1, e2]; rfl⟩, R.Own.sub (R.pk (r := .blk _ _ (cFr (Fr.t ⟨z1, z2⟩))) (R.pk (r := rowN z1) (R.pk (r := rowN z2) hM))) R.subl⟩
          case h2 =>
            clear hM
            rintro ⟨g16, z⟩ f w7 ⟨⟨hz, hzq⟩, hM⟩
            dsimp only at hz hzq hM ⊢
            (refine R.stepU ?_; (repeat' (first | (with_reducible refine And.intro ?_ ?_) | (with_reducible intro _))); all_goals refine R.Lft.mk ?_)
            refine R.WC_planX [(0, false), (1, false), (4, false), (2, true), (3, true), (5, true), (6, false), (7, false), (8, false), (9, false), (10, false), (11, true), (12, false), (13, false)] R.mixed (by decide +kernel) R.ohm ?_
            (refine R.stepU ?_; (repeat' (first | (with_reducible refine And.intro ?_ ?_) | (with_reducible intro _))); all_goals refine R.Lft.mk ?_)
            refine R.WO_call1 rfl rfl R.vv ?_
            refine (f_first (atS v 0) _).mono ?_
            rintro _ wc ⟨zf, rfl, hO, rf, ef⟩
            have hM := R.Own.give2 R.ohm hO
            refine ⟨_, rfl, ?_⟩
            (refine R.stepU ?_; (repeat' (first | (with_reducible refine And.intro ?_ ?_) | (with_reducible intro _))); all_goals refine R.Lft.mk ?_)
            refine R.WO_call2 rfl rfl R.vv R.vv ?_
            refine (f_cmp zf.t z.t 32 32 _ (GFr.of R.ohm R.memb R.memb rf) (GFr.of R.ohm R.memb R.memb hz) (by decide)).mono ?_
            rintro _ wd ⟨he, hb⟩
            have x1 : (atS v 0).x.z = v := lz_ (by omega)
            have x2 : (((atS v 0).w.n : Nat) : Int) = 1 := by
              have : (atS v 0).w.n = 1 := wlx (by decide)
              omega
            rw [Fr.t_q, Fr.t_q, ef, hzq, x1, x2] at he
            dsimp only at he
            obtain ⟨s2, hs2⟩ : ∃ s2, cmpZ (v * (r.den.n : Int)) (r.num.z * 1) = s2 := ⟨_, rfl⟩
            have hle2 : s2 ≤ 0 := by rw [← hs2]; exact cmpZ_le0.2 (by omega)
            have h3 := cmpZ_three (v * (r.den.n : Int)) (r.num.z * 1)
            rw [hs2] at he h3
            subst he
            clear hs2
            have hM := R.Own.call R.ohm hb
            have hc5 : ¬ cmpZ r.num.z (⟨false, W 0⟩ : Sg).z < 0 := by
              have := (@cmpZ_ge0 r.num.z (⟨false, W 0⟩ : Sg).z).2 (by rw [nul_z]; exact hnn)
              omega
            rcases (show s2 = -1 ∨ s2 = 0 by omega) with rfl | rfl
            · refine ⟨_, rfl, ?_⟩
              (refine R.stepU ?_; (repeat' (first | (with_reducible refine And.intro ?_ ?_) | (with_reducible intro _))); all_goals refine R.Lft.mk ?_)
              exact ⟨e + 1, ⟨rfl, rfl, rfl, rfl, R.viaI rfl (by omega), trivial⟩, ⟨by omega, R.Own.sub R.ohm R.subl⟩, by omega⟩
            · refine ⟨_, rfl, ?_⟩
              (refine R.stepU ?_; (repeat' (first | (with_reducible refine And.intro ?_ ?_) | (with_reducible intro _))); all_goals refine R.Lft.mk ?_)
              exact ⟨e + 1, ⟨rfl, rfl, rfl, rfl, R.viaI rfl (by omega), trivial⟩, ⟨by omega, R.Own.sub R.ohm R.subl⟩, by omega⟩
        · (refine R.stepU ?_; (repeat' (first | (with_reducible refine And.intro ?_ ?_) | (with_reducible intro _))); all_goals refine R.Lft.mk ?_)
          exact ⟨e + 1, ⟨rfl, rfl, rfl, rfl, R.viaI rfl (by omega), trivial⟩, ⟨by omega, R.Own.tl hM⟩, by omega⟩
  · obtain rfl : e = x.e.n := by omega
    (refine R.stepN ?_; (repeat' (first | (with_reducible refine And.intro ?_ ?_) | (with_reducible intro _))); all_goals refine R.Lft.mk ?_)
    exact ⟨rfl, R.Own.below R.ohm⟩
theorem gridBounds_any (x : Nt) (m : Int) (p : Pt) (w : World) (hG : GNt w x) (hm : In64 m) (hp : In64 p.x ∧ In64 p.y) : Calls Tryz.prog 3 #[.agg (cNt x).toArray, .int .i64 m, .agg (cPt p).toArray] w fun e w' => e = .returned (.bool true) ∧ Below w.heap.size w w' := by
  have hM := R.Own.start [] w
  have hL := hG.lasts
  have hen : x.e.n ≤ 9223372036854775807 := by obtain ⟨_, ⟨_, _, _, _⟩, _⟩ := id hG; omega
  cases hl : decide (x.s.n ≤ 30 ∧ x.e.n ≤ 40 ∧ x.p.n ≤ 20 ∧ (0 : Nat) ≤ 60) with
  | false =>
    have iL : R.ConB Tryz.prog 4 #[.agg (cNt x).toArray, .agg #[.slice none 0 0, .int .i64 0]] Unit (fun _ _ => True) (fun _ => .bool false) := ⟨fun s w h => by
      have q := (con_light17 x ⟨⟨none, 0, 0, []⟩, 0⟩).h () w trivial
      rw [show decide _ = false from hl] at q
      exact q⟩
    refine R.calls_of_WC (fn := Tryz.f3) Tryz.func3 rfl Tryz.ntmps3 (Nat.le_of_ble_eq_true rfl) ?_
    (refine R.stepN ?_; (repeat' (first | (with_reducible refine And.intro ?_ ?_) | (with_reducible intro _))); all_goals refine R.Lft.mk ?_)
    exact ⟨rfl, R.Own.below R.ohm⟩
  | true =>
    have iL : R.ConB Tryz.prog 4 #[.agg (cNt x).toArray, .agg #[.slice none 0 0, .int .i64 0]] Unit (fun _ _ => True) (fun _ => .bool true) := ⟨fun s w h => by
      have q := (con_light17 x ⟨⟨none, 0, 0, []⟩, 0⟩).h () w trivial
      rw [show decide _ = true from hl] at q
      exact q⟩
    by_cases h1 : 10 < m
    · refine R.calls_of_WC (fn := Tryz.f3) Tryz.func3 rfl Tryz.ntmps3 (Nat.le_of_ble_eq_true rfl) ?_
      (refine R.stepN ?_; (repeat' (first | (with_reducible refine And.intro ?_ ?_) | (with_reducible intro _))); all_goals refine R.Lft.mk ?_)
      exact ⟨rfl, R.Own.below R.ohm⟩
    by_cases h2 : 16 < x.e.n
    · refine R.calls_of_WC (fn := Tryz.f3) Tryz.func3 rfl Tryz.ntmps3 (Nat.le_of_ble_eq_true rfl) ?_
      (refine R.stepN ?_; (repeat' (first | (with_reducible refine And.intro ?_ ?_) | (with_reducible intro _))); all_goals refine R.Lft.mk ?_)
      exact ⟨rfl, R.Own.below R.ohm⟩
    by_cases h3 : m < 1 ∨ 64 < m ∨ nearN x = false ∨ x.e.n = 0
    · refine R.calls_of_WC (fn := Tryz.f3) Tryz.func3 rfl Tryz.ntmps3 (Nat.le_of_ble_eq_true rfl) ?_
      (refine R.stepN ?_; (repeat' (first | (with_reducible refine And.intro ?_ ?_) | (with_reducible intro _))); all_goals refine R.Lft.mk ?_)
      refine R.WO_call2 rfl rfl R.vv R.vv ?_
      refine (of_no x m _ (GNt.now R.ohm hG) hm h3).mono ?_
      rintro _ w2 ⟨ff, rfl, hf, hb⟩
      have hM := R.Own.call R.ohm hb
      refine ⟨_, rfl, ?_⟩
      (refine R.stepN ?_; (repeat' (first | (with_reducible refine And.intro ?_ ?_) | (with_reducible intro _))); all_goals refine R.Lft.mk ?_)
      exact ⟨rfl, R.Own.below R.ohm⟩
    · have hnr : nearN x = true := by
        cases hq : nearN x with
        | true => rfl
        | false => exact absurd (.inr (.inr (.inl hq))) h3
      have h4 : ¬ m < 1 := fun c => h3 (.inl c)
      have h5 : ¬ x.e.n = 0 := fun c => h3 (.inr (.inr (.inr c)))
      exact gridBounds_yes x m p w hG hp (by omega) hnr (by omega) (by omega) hl
def GPb (_ : World) (z : Pt) : Prop := (Lit.int .i64 z.x).wf = true ∧ (Lit.int .i64 z.y).wf = true
attribute [-instance] opn_Pq in
instance opn_Pb : R.Opn Tryz.prog 28 Pt cPt GPb := R.opn_struct2 (o0 := 0) (t0 := 3) (n0 := 1) (o1 := 1) (t1 := 3) (n1 := 1) (by kernel_rfl) (by kernel_rfl) rfl rfl (by kernel_rfl) Pt.mk (fun _ _ => rfl) (fun _ _ _ h1 h2 => ⟨h1, h2⟩)
theorem ptb64 {p : Pt} {w : World} (h : GPb w p) : In64 p.x ∧ In64 p.y := by
  have h1 := bounds_i64 h.1
  have h2 := bounds_i64 h.2
  unfold In64
  omega
set_option maxRecDepth 100000 in
theorem walk_GridBounds {H : Type} {enc : TypeId × Value → H} (W : World) (base : Nat) (args : Array Value) (ds : List (DataW H)) (ps : List MemPlace) (hA : DataW.TrodAll enc Tryz.prog W 0 (fun _ => true) true [26, 3, 28] args.toList ds ps)
    (hval : ∀ (j : Nat) t v, #[26, 3, 28][j]? = some t → args[j]? = some v → Value.okWide Tryz.prog W .any base t v) :
    Calls Tryz.prog 3 args W fun e W' => e = .returned (.bool true) ∧ Below W.heap.size W W' := by
  obtain ⟨v0, v1, v2, d0, d1, d2, p0, p1, p2, rfl, rfl, rfl, h0, h1, h2⟩ := trodAll_three hA
  obtain ⟨z0, q0, g0, a0, b0⟩ := R.open_arg (hval 0 26 v0 rfl rfl) h0
  obtain ⟨z1, rfl, rfl, rfl, wb1⟩ := open_int (k := .i64) (by kernel_rfl) (hval 1 3 v1 rfl rfl) h1
  obtain ⟨z2, q2, g2, a2, b2⟩ := R.open_arg (O := opn_Pb) (hval 2 28 v2 rfl rfl) h2
  obtain rfl := a0 (by kernel_rfl)
  obtain rfl := a2 (by kernel_rfl)
  exact gridBounds_any z0 z1 z2 W g0 (by have := bounds_i64 wb1; unfold In64; omega) (ptb64 g2)
end Go.Proofs.YtmoppmfbfpjdnaaGreat
namespace Go.Proofs.YtmoppmfbfpjdnaaGreat
open Go.ChangeShapes Go.WideShapes Go.ChangeAt Go.RowKit
set_option maxRecDepth 100000 in
theorem gridBounds_lifted (os : Os) (started : os.Started) (H : Type) (enc : TypeId × Value → H) :
    ReturnsInHanded {} Tryz.checked os 3 .any (Rows.gridBoundsSpec.pre6 enc Tryz.prog Tryz.f3 Rows.gridBoundsRow.domain false) (Rows.gridBoundsSpec.post enc Tryz.prog Tryz.f3 false true false false) := by
  refine returnsInHanded_of_change (C := Tryz.checked) ownKnob_none started (by kernel_rfl) Tryz.func3
    (ChangeSpec.witness6 (enc := enc) (C := Tryz.checked) false ⟨#[], #[.agg #[.slice none 0 0, .slice none 0 0, .slice none 0 0], .int .i64 0, .agg #[.int .i64 0, .int .i64 0]], []⟩ 8 (by kernel_rfl) (by kernel_rfl) (by kernel_rfl) (by kernel_rfl)) ?_
  intro W base args ds gs before hval0 hW _ _
  have hval : ∀ (j : Nat) t v, Tryz.f3.params[j]? = some t → args[j]? = some v → Value.okWide Tryz.prog W .any base t v := hval0
  have hW' := hW
  obtain ⟨p, q, hA0, hV, rfl, hfz, hnd⟩ := hW
  have hA : DataW.TrodAll enc Tryz.prog W 0 (fun _ => true) true Tryz.f3.params.toList args.toList ds p := hA0
  obtain ⟨rfl, rfl⟩ := trodVars_none hV
  have hA1 := hA
  rw [Tryz.params3] at hA1 hval
  simp only [List.append_nil] at hW'
  refine (walk_GridBounds W base args ds p hA1 hval).mono fun e W' ⟨he, hb⟩ => ?_
  subst he
  refine ⟨_, rfl, law_post rfl laidOut hW' hA (by kernel_rfl) rfl (by kernel_rfl) ?_ hb⟩
  clear hb hW' hA hfz hnd hV hval hval0 hA0
  obtain ⟨v0, vs0, d0, ds0, p0, q0, e0, rfl, g0, h0, r0⟩ := trodAll_cons hA1
  obtain ⟨v1, vs1, d1, ds1, p1, q1, e1, rfl, g1, h1, r1⟩ := trodAll_cons r0
  obtain ⟨v2, vs2, d2, ds2, p2, q2, e2, rfl, g2, h2, r2⟩ := trodAll_cons r1
  obtain ⟨_, rfl, _⟩ := trodAll_nil r2
  rfl

theorem gridBounds_holds : Rows.GridBoundsSaid :=
  OpenClaim.holds_of_wide 3 Tryz.f3 rfl rfl rfl rfl rfl rfl rfl ⟨rfl, rfl, rfl, rfl, rfl⟩ rfl rfl rfl rfl rfl (by kernel_rfl) Tryz.func3 (by kernel_rfl)
    (of_decide_eq_true (by kernel_rfl)) (by unfold Func.isWrapper; first | (rw [if_pos (by decide +kernel)]; kernel_rfl) | (rw [if_neg (by decide +kernel)]; exact ⟨rfl, rfl⟩))
    (fun os started H enc _ => gridBounds_lifted os started H enc)
#print axioms gridBounds_holds
end Go.Proofs.YtmoppmfbfpjdnaaGreat
