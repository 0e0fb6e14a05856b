/- The law TurnsMay: its walk. -/
import Derived.Test.YtgciglnkofoacaaGreatTuw
import Derived.Test.YtgciglnkofoacaaGreatTv
namespace Go.Proofs.YtgciglnkofoacaaGreat
open Go.ChangeShapes Go.WideShapes Go.ChangeAt Go.RowKit
open R (In64 InU64 lo64 nth)
structure P3 where
  a : Int
  b : Int
  c : Int
  deriving DecidableEq, Inhabited
def cP3 (x : P3) : List Value := [.int .i64 x.a, .int .i64 x.b, .int .i64 x.c]
instance encc_P3 : R.EncC cP3 3 := ⟨fun _ => rfl, by simp [cP3, Value.oneCell'], by decide⟩
instance enct_P3 : R.EncT Tryz.prog 30 P3 cP3 3 := {}
instance iss_P3 (a b c : Int) : R.Iss cP3 [.int .i64 a, .int .i64 b, .int .i64 c] [⟨a, b, c⟩] := ⟨rfl⟩
def GP3 (_ : World) (x : P3) : Prop := In64 x.a ∧ In64 x.b ∧ In64 x.c
instance opn_P3 : R.Opn Tryz.prog 30 P3 cP3 GP3 := ⟨fun {H eh W base sp held fuel cs x} hx => by
  have hu : Tryz.prog.underlying 30 = some (.array 3 3) := by kernel_rfl
  have hi : Tryz.prog.underlying 3 = some (.int .i64) := by kernel_rfl
  have hc : Tryz.prog.cellsOf 3 = 1 := by kernel_rfl
  obtain ⟨m, hl, h⟩ := trod_arr hu hx
  rw [show Tryz.prog.cellsOf 30 = 3 by kernel_rfl] at hl
  rw [hc] at h
  obtain ⟨v0, v1, v2, rfl⟩ : ∃ v0 v1 v2, cs = [v0, v1, v2] := by
    match cs, hl with
    | [v0, v1, v2], _ => exact ⟨v0, v1, v2, rfl⟩
  obtain ⟨y0, k0⟩ := h 0 (by decide)
  obtain ⟨y1, k1⟩ := h 1 (by decide)
  obtain ⟨y2, k2⟩ := h 2 (by decide)
  obtain ⟨n0, e0, _, g0⟩ := DataW.trod_int hi k0
  obtain ⟨n1, e1, _, g1⟩ := DataW.trod_int hi k1
  obtain ⟨n2, e2, _, g2⟩ := DataW.trod_int hi k2
  have b0 := bounds_i64 g0
  have b1 := bounds_i64 g1
  have b2 := bounds_i64 g2
  simp at e0 e1 e2
  exact ⟨⟨n0, n1, n2⟩, by rw [e0, e1, e2]; rfl, by unfold GP3; dsimp only; unfold In64; omega⟩⟩
theorem light_t {x : Nt} {r : Rl} {p : Prop} (hd : ¬ (x.s.n ≤ 30 ∧ x.e.n ≤ 40 ∧ x.p.n ≤ 20 ∧ r.b.n ≤ 60)) (h : (!decide (x.s.n ≤ 30 ∧ x.e.n ≤ 40 ∧ x.p.n ≤ 20 ∧ r.b.n ≤ 60)) = false) : p := nbw_f (decide_eq_false hd) h
set_option maxHeartbeats 4000000 in
attribute [local irreducible] cS cR cSp cW folB wayB rulesB takeB turnB deadB mayT in
theorem turnsMay_any (x : Nt) (r : Rl) (v : P3) (w : World) (hG : GNt w x) (hR : GRl w r) (hv : GP3 w v) : Calls Tryz.prog 3 #[.agg (cNt x).toArray, .agg (cRl r).toArray, .agg (cP3 v).toArray] w fun e w' => e = .returned (.bool true) ∧ Below w.heap.size w w' := by
  have hM := R.Own.start [] w
  have hL := hG.lasts
  have hLR := hR.lasts
  obtain ⟨v1, v2, v3⟩ := hv
  by_cases hl : x.s.n ≤ 30 ∧ x.e.n ≤ 40 ∧ x.p.n ≤ 20 ∧ r.b.n ≤ 60
  · have hlt := decide_eq_true hl
    have hdt : netB x = true → 0 ≤ v.c → v.c < x.s.n → deadB x v.c = decide (((cntI x.e.L v.c x.e.n : Nat) : Int) = 1) := fun h1 h2 h3 => by
      unfold deadB
      rw [h1, decide_eq_true h2, decide_eq_true h3, Bool.true_and, Bool.true_and, Bool.true_and]
      exact decide_eq_decide.2 (by omega)
    have hd0 : ¬ 0 ≤ v.c → deadB x v.c = false := fun h => by unfold deadB; rw [decide_eq_false h]; simp
    have hd1 : ¬ v.c < x.s.n → deadB x v.c = false := fun h => by unfold deadB; rw [decide_eq_false h]; simp
    have hd2 : netB x = false → deadB x v.c = false := fun h => by unfold deadB; rw [h]; rfl
    cases hr : rulesB x r with
    | true =>
      have hn := (rulesB_of hr).1
      have q1 := mayT_t hr v.a v.b
      refine R.calls_of_WC (fn := Tryz.f3) Tryz.func3 rfl Tryz.ntmps3 (Nat.le_of_ble_eq_true rfl) ?_
      (refine R.stepV ?_; (repeat' (first | (with_reducible refine And.intro ?_ ?_) | (with_reducible intro _))); all_goals refine R.Lft.mk ?_)
      all_goals first
        | exact ⟨rfl, R.Own.below (by assumption)⟩
        | exact nbw_t hlt (by assumption)
        | exact bbw_t hr (by assumption)
        | exact bbw_t hn (by assumption)
        | exact absurd (hdt (by assumption) (by assumption) (by assumption)) (by assumption)
        | exact absurd (hd0 (by assumption)) (by assumption)
        | exact absurd (hd1 (by assumption)) (by assumption)
        | exact absurd (hd2 (by assumption)) (by assumption)
        | exact absurd q1 (by assumption)
    | false =>
      have q1 := mayT_f hr v.a v.b
      refine R.calls_of_WC (fn := Tryz.f3) Tryz.func3 rfl Tryz.ntmps3 (Nat.le_of_ble_eq_true rfl) ?_
      (refine R.stepV ?_; (repeat' (first | (with_reducible refine And.intro ?_ ?_) | (with_reducible intro _))); all_goals refine R.Lft.mk ?_)
      all_goals first
        | exact ⟨rfl, R.Own.below (by assumption)⟩
        | exact nbw_t hlt (by assumption)
        | exact bbw_t (by assumption) hr
        | exact absurd (hdt (by assumption) (by assumption) (by assumption)) (by assumption)
        | exact absurd (hd0 (by assumption)) (by assumption)
        | exact absurd (hd1 (by assumption)) (by assumption)
        | exact absurd (hd2 (by assumption)) (by assumption)
        | exact absurd q1 (by assumption)
  · have hlt := decide_eq_false hl
    refine R.calls_of_WC (fn := Tryz.f3) Tryz.func3 rfl Tryz.ntmps3 (Nat.le_of_ble_eq_true rfl) ?_
    (refine R.stepV ?_; (repeat' (first | (with_reducible refine And.intro ?_ ?_) | (with_reducible intro _))); all_goals refine R.Lft.mk ?_)
    all_goals first
      | exact ⟨rfl, R.Own.below (by assumption)⟩
      | exact nbw_f hlt (by assumption)
set_option maxRecDepth 100000 in
theorem walk_TurnsMay {H : Type} {enc : TypeId × Value → H} (W : World) (base : Nat) (args : Array Value) (ds : List (DataW H)) (ps : List MemPlace) (hA : DataW.TrodAll enc Tryz.prog W 0 (fun _ => true) true [26, 29, 30] args.toList ds ps)
    (hval : ∀ (j : Nat) t v, #[26, 29, 30][j]? = some t → args[j]? = some v → Value.okWide Tryz.prog W .any base t v) :
    Calls Tryz.prog 3 args W fun e W' => e = .returned (.bool true) ∧ Below W.heap.size W W' := by
  obtain ⟨v0, v1, v2, d0, d1, d2, p0, p1, p2, rfl, rfl, rfl, h0, h1, h2⟩ := trodAll_three hA
  obtain ⟨z0, q0, g0, a0, b0⟩ := R.open_arg (hval 0 26 v0 rfl rfl) h0
  obtain ⟨z1, q1, g1, a1, b1⟩ := R.open_arg (hval 1 29 v1 rfl rfl) h1
  obtain ⟨z2, q2, g2, a2, b2⟩ := R.open_arg (hval 2 30 v2 rfl rfl) h2
  obtain rfl := a0 (by kernel_rfl)
  obtain rfl := a1 (by kernel_rfl)
  obtain rfl := a2 (by kernel_rfl)
  exact turnsMay_any z0 z1 z2 W g0 g1 g2
end Go.Proofs.YtgciglnkofoacaaGreat
