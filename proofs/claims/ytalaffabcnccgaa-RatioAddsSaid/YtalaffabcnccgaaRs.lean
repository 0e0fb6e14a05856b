/- The law RatioAdds. -/
import Derived.Test.YtalaffabcnccgaaRe
import Derived.Test.YtalaffabcnccgaaSa
namespace Go.Proofs.Ytalaffabcnccgaa
open Go.ChangeShapes Go.WideShapes Go.ChangeAt Go.RowKit
open R (In64 InU64 lo64 nth)

theorem fl_no {a : Rt} (h : termsB a = false) : flE a = 1 ∧ flS a = ⟨false, W 0⟩ := by
  unfold flE flS
  rw [h]
  exact ⟨rfl, rfl⟩
attribute [local irreducible] W512 in
set_option maxHeartbeats 8000000 in
theorem ratioAdds_may (a b : Rt) (hm : (mayB a && mayB b) = true) (w : World) : Calls Try.prog 20 #[.agg (cR a).toArray, .agg (cR b).toArray] w fun e w' => e = .returned (.bool true) ∧ Below w.heap.size w w' := by
  have hM := R.Own.start [] w
  have h1 : mayB a = true := (Bool.and_eq_true_iff.1 hm).1
  have h2 : mayB b = true := (Bool.and_eq_true_iff.1 hm).2
  have fa := mayF h1
  have fb := mayF h2
  have e1 := (fl_of fa).2
  have e2 := fa.terms
  have g0 : errB (mayB a && mayB b) = 0 := by rw [hm]; rfl
  have g1 : (if mayB a && mayB b then cmpR a b else 0) = cmpZ (resZ (crossZ a b)).z (resZ (crossZ b a)).z := if_pos hm
  have g2 : (if mayB a && mayB b then addR a b else nulR) = addR a b := if_pos hm
  have g3 : (if mayB a && mayB b then mulR a b else nulR) = mulR a b := if_pos hm
  have g4 := low_le fa
  have g5 := high_gt fa
  have g6 := den_fit fa fb
  have g7 : a.den.n ≠ 0 := by have := fa.pos; omega
  have g8 : b.den.n ≠ 0 := by have := fb.pos; omega
  have g9 : ((if mayB a && mayB b then cmpR a b else 0) = 0) ↔ a = b := by rw [if_pos hm]; exact cmp_same fa fb
  clear fa fb
  refine R.calls_of_WC (fn := Try.f20) Try.func20 rfl Try.ntmps20 (Nat.le_of_ble_eq_true rfl) ?_
  (refine R.stepU ?_; (repeat' (first | (with_reducible refine And.intro ?_ ?_) | (with_reducible intro _))); all_goals refine R.Lft.mk ?_)
  all_goals try (exfalso; simp_all; done)
  refine R.WC_cut2 (ι := Nat × Nat × Nat × Nat × Nat × Nat) (fun i => [(2, .pointer (some ⟨i.2.2.2.2.2, 0, none⟩)), (3, .pointer (some ⟨i.2.2.2.2.1, 0, none⟩)), (4, .bool false), (5, .pointer (some ⟨i.2.2.2.1, 0, none⟩)), (6, .int .i64 (errB (mayB a && mayB b))), (7, .pointer (some ⟨i.2.2.1, 0, none⟩)), (8, .int .i64 (errB (mayB a && mayB b))), (9, .int .i64 (if mayB a && mayB b then cmpR a b else 0)), (10, .int .i64 (errB (mayB a && mayB b))), (11, .pointer (some ⟨i.2.1, 0, none⟩)), (12, .int .i64 (flE a)), (14, .pointer (some ⟨i.1, 0, none⟩))])
    (fun i w2 => R.Own [] w w2 [.blk i.1 65 (cS (resZ ((flS a).z + (sgn 1).z))), .blk i.2.1 65 (cS (flS a)), .blk i.2.2.1 83 (cR (if mayB a && mayB b then mulR a b else nulR)), .blk i.2.2.2.1 83 (cR (if mayB a && mayB b then addR a b else nulR)), .blk i.2.2.2.2.1 83 (cR b), .blk i.2.2.2.2.2 83 (cR a)]) ?h1 ?h2
  case h1 =>
    refine R.WC_planF (.q 0 (.f 1 6 (.f 2 6 (.q 3 (.q 4 (.q 5 (.e 6 (.e 7 (.q 8 .nil)))))) (.e 2 (.q 3 (.q 4 (.q 5 (.e 7 (.q 8 .nil))))))) (.e 1 (.e 2 (.q 3 (.q 4 (.q 5 (.e 7 (.q 8 .nil))))))))) R.mixed (by decide +kernel) R.ohm ?_
    (refine R.stepU ?_; (repeat' (first | (with_reducible refine And.intro ?_ ?_) | (with_reducible intro _))); all_goals refine R.Lft.mk ?_)
    all_goals
      rename_i hM
      exact ⟨rfl, (_, _, _, _, _, _), ⟨rfl, rfl, rfl, rfl, rfl, rfl, rfl, rfl, rfl, rfl, rfl, rfl, trivial⟩, hM⟩
  case h2 =>
    rintro ⟨g14, g11, g7b, g5b, g3b, g2b⟩ f w2 hM
    dsimp only at hM ⊢
    (refine R.stepU ?_; (repeat' (first | (with_reducible refine And.intro ?_ ?_) | (with_reducible intro _))); all_goals refine R.Lft.mk ?_)
    refine R.WC_planX [(0, false), (1, false), (2, false), (3, false), (4, false), (5, false), (6, false), (7, false), (8, false), (9, false), (10, false), (11, false), (12, false), (13, false), (14, true), (15, false), (16, false), (17, false), (18, false), (19, false), (20, false), (21, true), (22, false), (23, false), (24, false), (25, false), (26, false), (27, false), (29, false), (30, false), (28, true), (31, true), (32, true), (33, false), (34, false), (35, false), (36, false), (37, false), (38, false), (39, false), (40, false), (41, false), (42, false), (43, false), (44, true), (45, false), (46, false)] R.mixed (by decide +kernel) R.ohm ?_
    (refine R.stepU ?_; (repeat' (first | (with_reducible refine And.intro ?_ ?_) | (with_reducible intro _))); all_goals refine R.Lft.mk ?_; (all_goals (try (exact ⟨rfl, R.Own.below (by assumption)⟩))))
    all_goals first
      | exact absurd g2 (by assumption)
      | exact absurd g3 (by assumption)
      | (exfalso; omega)
      | (exfalso; simp_all; done)
attribute [local irreducible] W512 in
set_option maxHeartbeats 8000000 in
theorem ratioAdds_not (a b : Rt) (hm : ¬ (mayB a && mayB b) = true) (w : World) : Calls Try.prog 20 #[.agg (cR a).toArray, .agg (cR b).toArray] w fun e w' => e = .returned (.bool true) ∧ Below w.heap.size w w' := by
  have hM := R.Own.start [] w
  have g0 : errB (mayB a && mayB b) = 1 := by rw [show (mayB a && mayB b) = false by simpa using hm]; rfl
  have g1 : (if mayB a && mayB b then cmpR a b else 0) = 0 := if_neg hm
  have g2 : (if mayB a && mayB b then addR a b else nulR) = ⟨⟨false, W 0⟩, W 0⟩ := if_neg hm
  have g3 : (if mayB a && mayB b then mulR a b else nulR) = ⟨⟨false, W 0⟩, W 0⟩ := if_neg hm
  have g4 := @fl_no a
  refine R.calls_of_WC (fn := Try.f20) Try.func20 rfl Try.ntmps20 (Nat.le_of_ble_eq_true rfl) ?_
  (refine R.stepU ?_; (repeat' (first | (with_reducible refine And.intro ?_ ?_) | (with_reducible intro _))); all_goals refine R.Lft.mk ?_; (all_goals (try (exact ⟨rfl, R.Own.below (by assumption)⟩))))
  all_goals first
    | (exfalso; exact hm (both_2 (p := mayB a) (q := mayB b) (by assumption) (by assumption)))
    | (exfalso
       have h : (!termsB a) = true := by assumption
       have h := g4 (by simpa using h)
       first | exact absurd h.1 (by assumption) | exact absurd h.2 (by assumption))
    | exact absurd g2 (by assumption)
    | exact absurd g3 (by assumption)
    | (exfalso; omega)
theorem ratioAdds_any (a b : Rt) (w : World) : Calls Try.prog 20 #[.agg (cR a).toArray, .agg (cR b).toArray] w fun e w' => e = .returned (.bool true) ∧ Below w.heap.size w w' := by
  by_cases hm : (mayB a && mayB b) = true
  · exact ratioAdds_may a b hm w
  · exact ratioAdds_not a b hm w
set_option maxRecDepth 100000 in
theorem walk_RatioAdds {H : Type} {enc : TypeId × Value → H} (W : World) (base : Nat) (args : Array Value) (ds : List (DataW H)) (ps : List MemPlace) (hA : DataW.TrodAll enc Try.prog W 0 (fun _ => true) true [83, 83] args.toList ds ps)
    (hval : ∀ (j : Nat) t v, #[83, 83][j]? = some t → args[j]? = some v → Value.okWide Try.prog W .any base t v) :
    Calls Try.prog 20 args W fun e W' => e = .returned (.bool true) ∧ Below W.heap.size W W' := by
  obtain ⟨v0, v1, d0, d1, p0, p1, rfl, rfl, rfl, h0, h1⟩ := trodAll_two hA
  obtain ⟨z0, q0, g0, a0, b0⟩ := R.open_arg (hval 0 83 v0 rfl rfl) h0
  obtain ⟨z1, q1, g1, a1, b1⟩ := R.open_arg (hval 1 83 v1 rfl rfl) h1
  obtain rfl := a0 (by kernel_rfl)
  obtain rfl := a1 (by kernel_rfl)
  exact ratioAdds_any z0 z1 W
end Go.Proofs.Ytalaffabcnccgaa
