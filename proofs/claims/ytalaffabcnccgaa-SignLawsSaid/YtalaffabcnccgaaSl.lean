/- The law SignLaws. -/
import Derived.Test.YtalaffabcnccgaaSw
import Derived.Test.YtalaffabcnccgaaSa
namespace Go.Proofs.Ytalaffabcnccgaa
open Go.ChangeShapes Go.WideShapes Go.ChangeAt Go.RowKit
open R (In64 InU64 lo64 nth)

attribute [local irreducible] W512 in
set_option maxHeartbeats 4000000 in
theorem signLaws_any (a b c : Sg) (w : World) : Calls Try.prog 16 #[.agg (cS a).toArray, .agg (cS b).toArray, .agg (cS c).toArray] w fun e w' => e = .returned (.bool true) ∧ Below w.heap.size w w' := by
  have hM := R.Own.start [] w
  have n1 : resZ (a.z * b.z) = resZ (b.z * a.z) := by rw [Int.mul_comm]
  have n2 : resZ (b.z + c.z) = resZ (c.z + b.z) := by rw [Int.add_comm]
  have n3 := sl_less a b
  have n4 := same_fits (x := a.z * b.z) (y := b.z * a.z) (by rw [Int.mul_comm])
  have n5 := same_fits (x := b.z + c.z) (y := c.z + b.z) (by rw [Int.add_comm])
  have n6 := same_fits (x := (sgn (-a.z)).z * b.z) (y := a.z * b.z) (by rw [sl_neg]; omega)
  refine R.calls_of_WC (fn := Try.f16) Try.func16 rfl Try.ntmps16 (Nat.le_of_ble_eq_true rfl) ?_
  (refine R.stepU ?_; (repeat' (first | (with_reducible refine And.intro ?_ ?_) | (with_reducible intro _))); all_goals refine R.Lft.mk ?_)
  refine R.WC_cut2 (ι := Nat × Nat × Nat × Nat × Nat × Nat × Nat × Nat) (fun i => [(3, .pointer (some ⟨i.2.2.2.2.2.2.2, 0, none⟩)), (4, .pointer (some ⟨i.2.2.2.2.2.2.1, 0, none⟩)), (5, .pointer (some ⟨i.2.2.2.2.2.1, 0, none⟩)), (6, .bool false), (7, .pointer (some ⟨i.2.2.2.2.1, 0, none⟩)), (8, .bool (decide ((a.z * b.z).natAbs < W512))), (9, .pointer (some ⟨i.2.2.2.1, 0, none⟩)), (10, .bool (decide ((b.z * a.z).natAbs < W512))), (11, .pointer (some ⟨i.2.2.1, 0, none⟩)), (12, .bool (decide ((b.z + c.z).natAbs < W512))), (13, .pointer (some ⟨i.2.1, 0, none⟩)), (14, .bool (decide ((c.z + b.z).natAbs < W512))), (15, .pointer (some ⟨i.1, 0, none⟩)), (16, .bool (decide (((sgn (-a.z)).z * b.z).natAbs < W512)))])
    (fun i w2 => R.Own [] w w2 [.blk i.1 65 (cS (resZ ((sgn (-a.z)).z * b.z))), .blk i.2.1 65 (cS (resZ (c.z + b.z))), .blk i.2.2.1 65 (cS (resZ (b.z + c.z))), .blk i.2.2.2.1 65 (cS (resZ (b.z * a.z))), .blk i.2.2.2.2.1 65 (cS (resZ (a.z * b.z))), .blk i.2.2.2.2.2.1 65 (cS c), .blk i.2.2.2.2.2.2.1 65 (cS b), .blk i.2.2.2.2.2.2.2 65 (cS a)]) ?h1 ?h2
  case h1 =>
    refine R.WC_planF (.q 0 (.q 2 (.f 1 7 (.f 3 7 (.q 4 (.q 5 (.q 6 (.e 7 (.e 8 (.q 9 .nil)))))) (.e 3 (.q 4 (.q 5 (.q 6 (.e 8 (.q 9 .nil))))))) (.e 1 (.e 3 (.q 4 (.q 5 (.q 6 (.e 8 (.q 9 .nil)))))))))) R.mixed (by decide +kernel) R.ohm ?_
    (refine R.stepU ?_; (repeat' (first | (with_reducible refine And.intro ?_ ?_) | (with_reducible intro _))); all_goals refine R.Lft.mk ?_)
    all_goals
      rename_i hM
      exact ⟨rfl, (_, _, _, _, _, _, _, _), ⟨rfl, rfl, rfl, rfl, rfl, rfl, rfl, rfl, rfl, rfl, rfl, rfl, rfl, rfl, trivial⟩, hM⟩
  case h2 =>
    rintro ⟨g15, g13, g11, g9, g7, g5, g4, g3⟩ f w2 hM
    dsimp only at hM ⊢
    (refine R.stepU ?_; (repeat' (first | (with_reducible refine And.intro ?_ ?_) | (with_reducible intro _))); all_goals refine R.Lft.mk ?_)
    refine R.WC_planX [(0, false), (1, false), (2, false), (3, false), (4, false), (5, false), (6, false), (7, false), (8, false), (9, false), (10, false), (11, false), (12, false), (13, false), (14, false), (15, false), (16, false), (17, false), (18, false), (19, false), (20, false), (21, false), (22, false), (23, false), (24, false), (25, false), (26, true), (27, false), (28, false)] R.mixed (by decide +kernel) R.ohm ?_
    (refine R.stepU ?_; (repeat' (first | (with_reducible refine And.intro ?_ ?_) | (with_reducible intro _))); all_goals refine R.Lft.mk ?_; (all_goals (try (exact ⟨rfl, R.Own.below (by assumption)⟩))))
    all_goals first
      | exact absurd n1 (by assumption)
      | exact absurd n2 (by assumption)
      | exact absurd n3 (by assumption)
      | exact absurd (n4.symm.trans (by assumption)) (by decide)
      | exact absurd (n5.symm.trans (by assumption)) (by decide)
      | exact absurd (n6.symm.trans (by assumption)) (by decide)
      | exact absurd (sl_dist (a := a) (b := b) (c := c) (by assumption) (by assumption) (by assumption)) (by assumption)
set_option maxRecDepth 100000 in
theorem walk_SignLaws {H : Type} {enc : TypeId × Value → H} (W : World) (base : Nat) (args : Array Value) (ds : List (DataW H)) (ps : List MemPlace) (hA : DataW.TrodAll enc Try.prog W 0 (fun _ => true) true [65, 65, 65] args.toList ds ps)
    (hval : ∀ (j : Nat) t v, #[65, 65, 65][j]? = some t → args[j]? = some v → Value.okWide Try.prog W .any base t v) :
    Calls Try.prog 16 args W fun e W' => e = .returned (.bool true) ∧ Below W.heap.size W W' := by
  obtain ⟨v0, v1, v2, d0, d1, d2, p0, p1, p2, rfl, rfl, rfl, h0, h1, h2⟩ := trodAll_three hA
  obtain ⟨z0, q0, g0, a0, b0⟩ := R.open_arg (hval 0 65 v0 rfl rfl) h0
  obtain ⟨z1, q1, g1, a1, b1⟩ := R.open_arg (hval 1 65 v1 rfl rfl) h1
  obtain ⟨z2, q2, g2, a2, b2⟩ := R.open_arg (hval 2 65 v2 rfl rfl) h2
  obtain rfl := a0 (by kernel_rfl)
  obtain rfl := a1 (by kernel_rfl)
  obtain rfl := a2 (by kernel_rfl)
  exact signLaws_any z0 z1 z2 W
end Go.Proofs.Ytalaffabcnccgaa
