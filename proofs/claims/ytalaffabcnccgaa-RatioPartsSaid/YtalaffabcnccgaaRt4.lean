/- The law RatioParts. -/
import Derived.Test.YtalaffabcnccgaaRd
import Derived.Test.YtalaffabcnccgaaRw
import Derived.Test.YtalaffabcnccgaaSa
namespace Go.Proofs.Ytalaffabcnccgaa
open Go.ChangeShapes Go.WideShapes Go.ChangeAt Go.RowKit
open R (In64 InU64 lo64 nth)

structure I4 where
  a : Int
  b : Int
  c : Int
  d : Int
instance : Inhabited I4 := ⟨⟨0, 0, 0, 0⟩⟩
def cI4 (x : I4) : List Value := [.int .i64 x.a, .int .i64 x.b, .int .i64 x.c, .int .i64 x.d]
instance encc_I4 : R.EncC cI4 4 := ⟨fun _ => rfl, by simp [cI4, Value.oneCell'], by decide⟩
theorem one_cell {x : List Value} {y : Value} (h : x = [y]) : x.length = 1 := by rw [h]; rfl
instance opn_I4 : R.Opn Try.prog 77 I4 cI4 (fun _ x => In64 x.a ∧ In64 x.b ∧ In64 x.c ∧ In64 x.d) := ⟨fun {H eh W base sp held fuel cs x} hx => by
  have hu : Try.prog.underlying 77 = some (.array 4 3) := by kernel_rfl
  have hi : Try.prog.underlying 3 = some (.int .i64) := by kernel_rfl
  have hc : Try.prog.cellsOf 3 = 1 := by kernel_rfl
  obtain ⟨m, hl, h⟩ := trod_arr hu hx
  rw [show Try.prog.cellsOf 77 = 4 by kernel_rfl] at hl
  rw [hc] at h
  obtain ⟨v0, v1, v2, v3, rfl⟩ : ∃ v0 v1 v2 v3, cs = [v0, v1, v2, v3] := by
    match cs, hl with
    | [v0, v1, v2, v3], _ => exact ⟨v0, v1, v2, v3, rfl⟩
  obtain ⟨y0, k0⟩ := h 0 (by decide)
  obtain ⟨y1, k1⟩ := h 1 (by decide)
  obtain ⟨y2, k2⟩ := h 2 (by decide)
  obtain ⟨y3, k3⟩ := h 3 (by decide)
  obtain ⟨n0, e0, _, g0⟩ := DataW.trod_int hi k0
  obtain ⟨n1, e1, _, g1⟩ := DataW.trod_int hi k1
  obtain ⟨n2, e2, _, g2⟩ := DataW.trod_int hi k2
  obtain ⟨n3, e3, _, g3⟩ := DataW.trod_int hi k3
  have b0 := bounds_i64 g0
  have b1 := bounds_i64 g1
  have b2 := bounds_i64 g2
  have b3 := bounds_i64 g3
  simp at e0 e1 e2 e3
  exact ⟨⟨n0, n1, n2, n3⟩, by rw [e0, e1, e2, e3]; rfl, by dsimp only; unfold In64; omega⟩⟩
theorem pt_ok {n num den : Int} (h : ¬ badP n num den) : partE n num den = 0 ∧ partQ n num den = n * num / den := ⟨if_neg h, if_neg h⟩
theorem pt_bad {n num den : Int} (h : badP n num den) : partE n num den = 1 ∧ partQ n num den = 0 := ⟨if_pos h, if_pos h⟩
theorem pt_more {n num den more : Int} (h : ¬ badP n num den) : partE n more den = 1 ∨ partE n more den = 0 ∧ (more < num ∨ n * num / den ≤ partQ n more den) := by
  by_cases hb : badP n more den
  · exact .inl (pt_bad hb).1
  · refine .inr ⟨(pt_ok hb).1, ?_⟩
    rw [(pt_ok hb).2]
    unfold badP at h hb
    rcases Int.lt_or_le more num with h1 | h1
    · exact .inl h1
    · refine .inr (Int.ediv_le_ediv (by omega) (Int.mul_le_mul_of_nonneg_left h1 (by omega)))
attribute [local irreducible] W512 partE partQ in
set_option maxHeartbeats 4000000 in
theorem ratioParts_any (x : I4) (ha : In64 x.a) (hb : In64 x.b) (hc : In64 x.c) (hd : In64 x.d) (w : World) : Calls Try.prog 14 #[.agg (cI4 x).toArray] w fun e w' => e = .returned (.bool true) ∧ Below w.heap.size w w' := by
  have hM := R.Own.start [] w
  have z0 : In64 0 := by unfold In64; omega
  by_cases h0 : badP x.a x.b x.c
  · obtain ⟨e1, e2⟩ := pt_bad h0
    unfold badP at h0
    refine R.calls_of_WC (fn := Try.f14) Try.func14 rfl Try.ntmps14 (Nat.le_of_ble_eq_true rfl) ?_
    (refine R.stepU ?_; (repeat' (first | (with_reducible refine And.intro ?_ ?_) | (with_reducible intro _))); all_goals refine R.Lft.mk ?_; (all_goals (try (exact ⟨rfl, R.Own.below (by assumption)⟩))))
  · obtain ⟨e1, e2⟩ := pt_ok h0
    obtain ⟨-, e3, e4⟩ := part_div ha hb hc h0
    have e5 := pt_more (more := x.d) h0
    have h1 : ¬ badP x.a 0 x.c := by unfold badP at h0 ⊢; omega
    have h2 : ¬ badP x.a x.c x.c := by unfold badP at h0 ⊢; omega
    obtain ⟨f1, f2⟩ := pt_ok h1
    obtain ⟨f3, f4⟩ := pt_ok h2
    rw [Int.mul_zero, Int.zero_ediv] at f2
    rw [Int.mul_ediv_cancel x.a (by unfold badP at h0; omega)] at f4
    have hp := h0
    unfold badP at h0
    rw [← e2] at e3 e4 e5
    refine R.calls_of_WC (fn := Try.f14) Try.func14 rfl Try.ntmps14 (Nat.le_of_ble_eq_true rfl) ?_
    (refine R.stepU ?_; (repeat' (first | (with_reducible refine And.intro ?_ ?_) | (with_reducible intro _))); all_goals refine R.Lft.mk ?_; (all_goals (try (exact ⟨rfl, R.Own.below (by assumption)⟩))))
set_option maxRecDepth 100000 in
theorem walk_RatioParts {H : Type} {enc : TypeId × Value → H} (W : World) (base : Nat) (args : Array Value) (ds : List (DataW H)) (ps : List MemPlace) (hA : DataW.TrodAll enc Try.prog W 0 (fun _ => true) true [77] args.toList ds ps)
    (hval : ∀ (j : Nat) t v, #[77][j]? = some t → args[j]? = some v → Value.okWide Try.prog W .any base t v) :
    Calls Try.prog 14 args W fun e W' => e = .returned (.bool true) ∧ Below W.heap.size W W' := by
  obtain ⟨v0, d0, rfl, rfl, h0⟩ := trodAll_one hA
  obtain ⟨z0, q0, ⟨g0, g1, g2, g3⟩, a0, b0⟩ := R.open_arg (hval 0 77 v0 rfl rfl) h0
  obtain rfl := a0 (by kernel_rfl)
  exact ratioParts_any z0 g0 g1 g2 g3 W
end Go.Proofs.Ytalaffabcnccgaa
