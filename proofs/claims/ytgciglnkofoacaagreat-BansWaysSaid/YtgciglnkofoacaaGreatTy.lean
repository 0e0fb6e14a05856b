/- The law BansWays: its walk. -/
import Derived.Test.YtgciglnkofoacaaGreatTe
namespace Go.Proofs.YtgciglnkofoacaaGreat
open Go.ChangeShapes Go.WideShapes Go.ChangeAt Go.RowKit
open R (In64 InU64 lo64 nth)
instance con_light0 (x : Nt) : R.ConB Tryz.prog 8 #[.agg (cNt x).toArray, .agg #[.slice none 0 0, .int .i64 0]] Unit (fun _ _ => True) (fun _ => .bool (decide (x.s.n ≤ 30 ∧ x.e.n ≤ 40 ∧ x.p.n ≤ 20 ∧ (0 : Nat) ≤ 60))) := ⟨fun _ w _ => (con_light17 x ⟨⟨none, 0, 0, []⟩, 0⟩).h () w trivial⟩
theorem ne_same {b c : Bool} {p : Prop} (e : b = c) (h : (!(b == c)) = true) : p := by subst e; cases b <;> cases h
set_option maxHeartbeats 4000000 in
attribute [local irreducible] cS cR cSp cW folB ordB ltB wayB headV tailV aboutV endsN wayN folN in
theorem bansWays_0 (x : Nt) (v u : Int) (w : World) (hG : GNt w x) (hv : In64 v) (hu : In64 u) (hl : x.s.n ≤ 30 ∧ x.e.n ≤ 40 ∧ x.p.n ≤ 20 ∧ (0 : Nat) ≤ 60) (hn : netB x = false) : Calls Tryz.prog 6 #[.agg (cNt x).toArray, .int .i64 v, .int .i64 u] w fun e w' => e = .returned (.bool true) ∧ Below w.heap.size w w' := by
  have hM := R.Own.start [] w
  have hL := hG.lasts
  have hlt := decide_eq_true hl
  have hu2 := hu
  unfold In64 at hu2
  have a1 : 0 ≤ u → u % 2 = 0 → aboutV u = u + 1 := fun h g => by unfold aboutV; rw [if_neg (by omega), if_pos g]
  have a2 : 0 ≤ u → ¬ u % 2 = 0 → aboutV u = u - 1 := fun h g => by unfold aboutV; rw [if_neg (by omega), if_neg g]
  have a3 : ¬ 0 ≤ u → aboutV u = u := fun h => by unfold aboutV; rw [if_pos (by omega)]
  have iL : R.ConB Tryz.prog 8 #[.agg (cNt x).toArray, .agg #[.slice none 0 0, .int .i64 0]] Unit (fun _ _ => True) (fun _ => .bool true) := ⟨fun s w h => by
    have q := (con_light0 x).h s w h
    rw [hlt] at q
    exact q⟩
  have q1 : wayN x u = false := wayN_f hn
  have q2 : folN x v u = false := folN_f hn
  have q3 : endsN x u = (0, 0) := by unfold endsN; rw [q1]; rfl
  have iM : R.ConB Tryz.prog 11 #[.agg (cNt x).toArray] Unit (fun _ w => GNt w x) (fun _ => .bool false) := ⟨fun s w h => by
    have q := (con_may15 x).h s w h
    rw [hn] at q
    exact q⟩
  have iB : R.ConB Tryz.prog 23 #[.agg (cNt x).toArray, .int .i64 u] Unit (fun _ w => GNt w x ∧ In64 u) (fun _ => .bool false) := ⟨fun s w h => by
    have q := (con_bWay x u).h s w h
    rw [q1] at q
    exact q⟩
  have iE : R.ConB Tryz.prog 22 #[.agg (cNt x).toArray, .int .i64 u] Unit (fun _ w => GNt w x ∧ In64 u) (fun _ => .tuple #[.int .i64 0, .int .i64 0, .bool false]) := ⟨fun s w h => by
    have q := (con_bEnds x u).h s w h
    rw [q3, q1] at q
    exact q⟩
  have iF : R.ConB Tryz.prog 24 #[.agg (cNt x).toArray, .int .i64 v, .int .i64 u] Unit (fun _ w => GNt w x ∧ In64 v ∧ In64 u) (fun _ => .bool false) := ⟨fun s w h => by
    have q := (con_bFol x v u).h s w h
    rw [q2] at q
    exact q⟩
  refine R.calls_of_WC (fn := Tryz.f6) Tryz.func6 rfl Tryz.ntmps6 (Nat.le_of_ble_eq_true rfl) ?_
  (refine R.stepV ?_; (repeat' (first | (with_reducible refine And.intro ?_ ?_) | (with_reducible intro _))); all_goals refine R.Lft.mk ?_)
  all_goals first
    | exact ⟨rfl, R.Own.below (by assumption)⟩
    | exact ne_same rfl (by assumption)
    | exact absurd (a1 (by assumption) (by assumption)) (by assumption)
    | exact absurd (a2 (by assumption) (by assumption)) (by assumption)
    | exact absurd (a3 (by assumption)) (by assumption)
    | exact absurd rfl (by assumption)
    | (exfalso; omega)
set_option maxHeartbeats 4000000 in
attribute [local irreducible] cS cR cSp cW folB ordB ltB wayB headV tailV aboutV endsN wayN folN in
theorem bansWays_1 (x : Nt) (v u : Int) (w : World) (hG : GNt w x) (hv : In64 v) (hu : In64 u) (hl : x.s.n ≤ 30 ∧ x.e.n ≤ 40 ∧ x.p.n ≤ 20 ∧ (0 : Nat) ≤ 60) (hn : netB x = true) (hw : wayB x u = false) : Calls Tryz.prog 6 #[.agg (cNt x).toArray, .int .i64 v, .int .i64 u] w fun e w' => e = .returned (.bool true) ∧ Below w.heap.size w w' := by
  have hM := R.Own.start [] w
  have hL := hG.lasts
  have hlt := decide_eq_true hl
  have hu2 := hu
  unfold In64 at hu2
  have a1 : 0 ≤ u → u % 2 = 0 → aboutV u = u + 1 := fun h g => by unfold aboutV; rw [if_neg (by omega), if_pos g]
  have a2 : 0 ≤ u → ¬ u % 2 = 0 → aboutV u = u - 1 := fun h g => by unfold aboutV; rw [if_neg (by omega), if_neg g]
  have a3 : ¬ 0 ≤ u → aboutV u = u := fun h => by unfold aboutV; rw [if_pos (by omega)]
  have iL : R.ConB Tryz.prog 8 #[.agg (cNt x).toArray, .agg #[.slice none 0 0, .int .i64 0]] Unit (fun _ _ => True) (fun _ => .bool true) := ⟨fun s w h => by
    have q := (con_light0 x).h s w h
    rw [hlt] at q
    exact q⟩
  have hne := netB_e hn
  have q1 : wayN x u = false := by rw [wayN_t hn]; exact hw
  have q2 : folN x v u = folB x v u := folN_t hn
  have q3 : endsN x u = (0, 0) := by unfold endsN; rw [q1]; rfl
  have iM : R.ConB Tryz.prog 11 #[.agg (cNt x).toArray] Unit (fun _ w => GNt w x) (fun _ => .bool true) := ⟨fun s w h => by
    have q := (con_may15 x).h s w h
    rw [hn] at q
    exact q⟩
  have iB : R.ConB Tryz.prog 23 #[.agg (cNt x).toArray, .int .i64 u] Unit (fun _ w => GNt w x ∧ In64 u) (fun _ => .bool false) := ⟨fun s w h => by
    have q := (con_bWay x u).h s w h
    rw [q1] at q
    exact q⟩
  have iE : R.ConB Tryz.prog 22 #[.agg (cNt x).toArray, .int .i64 u] Unit (fun _ w => GNt w x ∧ In64 u) (fun _ => .tuple #[.int .i64 0, .int .i64 0, .bool false]) := ⟨fun s w h => by
    have q := (con_bEnds x u).h s w h
    rw [q3, q1] at q
    exact q⟩
  have iR : R.ConB Tryz.prog 17 #[.agg (cNt x).toArray, .int .i64 u] Unit (fun _ w => GNt w x ∧ In64 u ∧ x.e.n ≤ 200000) (fun _ => .bool false) := ⟨fun s w h => by
    have q := (con_rway x u).h s w h
    rw [hw] at q
    exact q⟩
  have iF : R.ConB Tryz.prog 24 #[.agg (cNt x).toArray, .int .i64 v, .int .i64 u] Unit (fun _ w => GNt w x ∧ In64 v ∧ In64 u) (fun _ => .bool (folB x v u)) := ⟨fun s w h => by
    have q := (con_bFol x v u).h s w h
    rw [q2] at q
    exact q⟩
  refine R.calls_of_WC (fn := Tryz.f6) Tryz.func6 rfl Tryz.ntmps6 (Nat.le_of_ble_eq_true rfl) ?_
  (refine R.stepV ?_; (repeat' (first | (with_reducible refine And.intro ?_ ?_) | (with_reducible intro _))); all_goals refine R.Lft.mk ?_)
  all_goals first
    | exact ⟨rfl, R.Own.below (by assumption)⟩
    | exact ne_same rfl (by assumption)
    | exact absurd (a1 (by assumption) (by assumption)) (by assumption)
    | exact absurd (a2 (by assumption) (by assumption)) (by assumption)
    | exact absurd (a3 (by assumption)) (by assumption)
    | exact absurd rfl (by assumption)
    | (exfalso; omega)
set_option maxHeartbeats 4000000 in
attribute [local irreducible] cS cR cSp cW folB ordB ltB wayB headV tailV aboutV endsN wayN folN in
theorem bansWays_2 (x : Nt) (v u : Int) (w : World) (hG : GNt w x) (hv : In64 v) (hu : In64 u) (hl : x.s.n ≤ 30 ∧ x.e.n ≤ 40 ∧ x.p.n ≤ 20 ∧ (0 : Nat) ≤ 60) (hn : netB x = true) (hw : wayB x u = true) : Calls Tryz.prog 6 #[.agg (cNt x).toArray, .int .i64 v, .int .i64 u] w fun e w' => e = .returned (.bool true) ∧ Below w.heap.size w w' := by
  have hM := R.Own.start [] w
  have hL := hG.lasts
  have hlt := decide_eq_true hl
  have hu2 := hu
  unfold In64 at hu2
  have a1 : 0 ≤ u → u % 2 = 0 → aboutV u = u + 1 := fun h g => by unfold aboutV; rw [if_neg (by omega), if_pos g]
  have a2 : 0 ≤ u → ¬ u % 2 = 0 → aboutV u = u - 1 := fun h g => by unfold aboutV; rw [if_neg (by omega), if_neg g]
  have a3 : ¬ 0 ≤ u → aboutV u = u := fun h => by unfold aboutV; rw [if_pos (by omega)]
  have iL : R.ConB Tryz.prog 8 #[.agg (cNt x).toArray, .agg #[.slice none 0 0, .int .i64 0]] Unit (fun _ _ => True) (fun _ => .bool true) := ⟨fun s w h => by
    have q := (con_light0 x).h s w h
    rw [hlt] at q
    exact q⟩
  have hne := netB_e hn
  have q1 : wayN x u = true := by rw [wayN_t hn]; exact hw
  have q2 : folN x v u = folB x v u := folN_t hn
  have q3 : endsN x u = (tailV x u, headV x u) := by unfold endsN; rw [q1]; rfl
  have iM : R.ConB Tryz.prog 11 #[.agg (cNt x).toArray] Unit (fun _ w => GNt w x) (fun _ => .bool true) := ⟨fun s w h => by
    have q := (con_may15 x).h s w h
    rw [hn] at q
    exact q⟩
  have iB : R.ConB Tryz.prog 23 #[.agg (cNt x).toArray, .int .i64 u] Unit (fun _ w => GNt w x ∧ In64 u) (fun _ => .bool true) := ⟨fun s w h => by
    have q := (con_bWay x u).h s w h
    rw [q1] at q
    exact q⟩
  have iE : R.ConB Tryz.prog 22 #[.agg (cNt x).toArray, .int .i64 u] Unit (fun _ w => GNt w x ∧ In64 u) (fun _ => .tuple #[.int .i64 (tailV x u), .int .i64 (headV x u), .bool true]) := ⟨fun s w h => by
    have q := (con_bEnds x u).h s w h
    rw [q3, q1] at q
    exact q⟩
  have iR : R.ConB Tryz.prog 17 #[.agg (cNt x).toArray, .int .i64 u] Unit (fun _ w => GNt w x ∧ In64 u ∧ x.e.n ≤ 200000) (fun _ => .bool true) := ⟨fun s w h => by
    have q := (con_rway x u).h s w h
    rw [hw] at q
    exact q⟩
  have iF : R.ConB Tryz.prog 24 #[.agg (cNt x).toArray, .int .i64 v, .int .i64 u] Unit (fun _ w => GNt w x ∧ In64 v ∧ In64 u) (fun _ => .bool (folB x v u)) := ⟨fun s w h => by
    have q := (con_bFol x v u).h s w h
    rw [q2] at q
    exact q⟩
  refine R.calls_of_WC (fn := Tryz.f6) Tryz.func6 rfl Tryz.ntmps6 (Nat.le_of_ble_eq_true rfl) ?_
  (refine R.stepV ?_; (repeat' (first | (with_reducible refine And.intro ?_ ?_) | (with_reducible intro _))); all_goals refine R.Lft.mk ?_)
  all_goals first
    | exact ⟨rfl, R.Own.below (by assumption)⟩
    | exact ne_same rfl (by assumption)
    | exact absurd (a1 (by assumption) (by assumption)) (by assumption)
    | exact absurd (a2 (by assumption) (by assumption)) (by assumption)
    | exact absurd (a3 (by assumption)) (by assumption)
    | exact absurd rfl (by assumption)
    | (exfalso; omega)
set_option maxHeartbeats 4000000 in
attribute [local irreducible] cS cR cSp cW folB ordB ltB wayB headV tailV aboutV endsN wayN folN in
theorem bansWays_any (x : Nt) (v u : Int) (w : World) (hG : GNt w x) (hv : In64 v) (hu : In64 u) : Calls Tryz.prog 6 #[.agg (cNt x).toArray, .int .i64 v, .int .i64 u] w fun e w' => e = .returned (.bool true) ∧ Below w.heap.size w w' := by
  by_cases hl : x.s.n ≤ 30 ∧ x.e.n ≤ 40 ∧ x.p.n ≤ 20 ∧ (0 : Nat) ≤ 60
  · cases hn : netB x with
    | false => exact bansWays_0 x v u w hG hv hu hl hn
    | true =>
      cases hw : wayB x u with
      | false => exact bansWays_1 x v u w hG hv hu hl hn hw
      | true => exact bansWays_2 x v u w hG hv hu hl hn hw
  · have hM := R.Own.start [] w
    have hlt := decide_eq_false hl
    have iL : R.ConB Tryz.prog 8 #[.agg (cNt x).toArray, .agg #[.slice none 0 0, .int .i64 0]] Unit (fun _ _ => True) (fun _ => .bool false) := ⟨fun s w h => by
      have q := (con_light0 x).h s w h
      rw [hlt] at q
      exact q⟩
    refine R.calls_of_WC (fn := Tryz.f6) Tryz.func6 rfl Tryz.ntmps6 (Nat.le_of_ble_eq_true rfl) ?_
    (refine R.stepV ?_; (repeat' (first | (with_reducible refine And.intro ?_ ?_) | (with_reducible intro _))); all_goals refine R.Lft.mk ?_)
    all_goals exact ⟨rfl, R.Own.below (by assumption)⟩
set_option maxRecDepth 100000 in
theorem walk_BansWays {H : Type} {enc : TypeId × Value → H} (W : World) (base : Nat) (args : Array Value) (ds : List (DataW H)) (ps : List MemPlace) (hA : DataW.TrodAll enc Tryz.prog W 0 (fun _ => true) true [26, 3, 3] args.toList ds ps)
    (hval : ∀ (j : Nat) t v, #[26, 3, 3][j]? = some t → args[j]? = some v → Value.okWide Tryz.prog W .any base t v) :
    Calls Tryz.prog 6 args W fun e W' => e = .returned (.bool true) ∧ Below W.heap.size W W' := by
  obtain ⟨v0, v1, v2, d0, d1, d2, p0, p1, p2, rfl, rfl, rfl, h0, h1, h2⟩ := trodAll_three hA
  obtain ⟨z0, q0, g0, a0, b0⟩ := R.open_arg (hval 0 26 v0 rfl rfl) h0
  obtain ⟨z1, rfl, rfl, rfl, wb1⟩ := open_int (k := .i64) (by kernel_rfl) (hval 1 3 v1 rfl rfl) h1
  obtain ⟨z2, rfl, rfl, rfl, wb2⟩ := open_int (k := .i64) (by kernel_rfl) (hval 2 3 v2 rfl rfl) h2
  obtain rfl := a0 (by kernel_rfl)
  exact bansWays_any z0 z1 z2 W g0 (by have := bounds_i64 wb1; unfold In64; omega) (by have := bounds_i64 wb2; unfold In64; omega)
end Go.Proofs.YtgciglnkofoacaaGreat
