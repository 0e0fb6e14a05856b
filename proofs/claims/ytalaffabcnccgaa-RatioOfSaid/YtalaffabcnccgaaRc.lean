/- Package ratio: sums, parts. -/
import Derived.Test.YtalaffabcnccgaaRb
import Derived.Test.YtalaffabcnccgaaDv
namespace Go.Proofs.Ytalaffabcnccgaa
open Go.RowKit
open R (In64 InU64 lo64 nth)

def addR (a b : Rt) : Rt := lowR (resZ ((resZ (crossZ a b)).z + (resZ (crossZ b a)).z)) (W (a.den.n * b.den.n))
attribute [local irreducible] W512 in
set_option maxHeartbeats 2000000 in
theorem radd (a b : Rt) (w : World) : Calls Try.prog 85 #[.agg (cR a).toArray, .agg (cR b).toArray] w fun e w' => e = .returned (.tuple #[.agg (cR (if mayB a && mayB b then addR a b else nulR)).toArray, .int .i64 (errB (mayB a && mayB b))]) ∧ Below w.heap.size w w' := by
  have hM := R.Own.start [] w
  refine R.calls_of_WC (fn := Try.f85) Try.func85 rfl Try.ntmps85 (Nat.le_of_ble_eq_true rfl) ?_
  (refine R.stepU ?_; (repeat' (first | (with_reducible refine And.intro ?_ ?_) | (with_reducible intro _))); all_goals refine R.Lft.mk ?_; (all_goals (try (exact ⟨rfl, R.Own.below (by assumption)⟩))))
  all_goals try (rw [both_1 (p := mayB a) (q := mayB b) (by assumption)]; exact ⟨rfl, R.Own.below (by assumption)⟩)
  all_goals try (rw [both_0 (p := mayB a) (q := mayB b) (by assumption)]; exact ⟨rfl, R.Own.below (by assumption)⟩)
  rw [both_2 (p := mayB a) (q := mayB b) (by assumption) (by assumption)]
  refine R.WC_cut2 (ι := Nat × Nat × Nat × Nat) (fun i => [(2, .pointer (some ⟨i.2.2.2, 0, none⟩)), (3, .pointer (some ⟨i.2.2.1, 0, none⟩)), (4, .pointer (some ⟨i.2.1, 0, none⟩)), (5, .int .i64 0), (6, .pointer (some ⟨i.1, 0, none⟩))])
    (fun i w2 => R.Own [] w w2 [.blk i.1 65 (cS (resZ ((resZ (crossZ a b)).z + (resZ (crossZ b a)).z))), .blk i.2.1 83 (cR ⟨⟨false, W 0⟩, W 0⟩), .blk i.2.2.1 83 (cR b), .blk i.2.2.2 83 (cR a)]) ?h1 ?h2
  case h1 =>
    refine R.WC_planF (.q 0 (.q 1 (.q 3 (.q 4 (.f 2 10 (.f 5 10 (.f 6 10 (.q 7 (.q 8 (.q 9 (.e 10 (.e 11 (.q 12 .nil)))))) (.e 6 (.q 7 (.q 8 (.q 9 (.e 11 (.q 12 .nil))))))) (.e 5 (.e 6 (.q 7 (.q 8 (.q 9 (.e 11 (.q 12 .nil)))))))) (.e 2 (.e 5 (.e 6 (.q 7 (.q 8 (.q 9 (.e 11 (.q 12 .nil))))))))))))) R.mixed (by decide +kernel) R.ohm ?_
    (refine R.stepU ?_; (repeat' (first | (with_reducible refine And.intro ?_ ?_) | (with_reducible intro _))); all_goals refine R.Lft.mk ?_)
    all_goals
      rename_i hM
      exact ⟨rfl, (_, _, _, _), ⟨rfl, rfl, rfl, rfl, rfl, trivial⟩, hM⟩
  case h2 =>
    rintro ⟨g6, g4, g3, g2⟩ f w2 hM
    dsimp only at hM ⊢
    (refine R.stepU ?_; (repeat' (first | (with_reducible refine And.intro ?_ ?_) | (with_reducible intro _))); all_goals refine R.Lft.mk ?_; (all_goals (try (exact ⟨rfl, R.Own.below (by assumption)⟩))))
instance con_radd (a b : Rt) : R.ConB Try.prog 85 #[.agg (cR a).toArray, .agg (cR b).toArray] Unit (fun _ _ => True) (fun _ => .tuple #[.agg (cR (if mayB a && mayB b then addR a b else nulR)).toArray, .int .i64 (errB (mayB a && mayB b))]) := ⟨fun _ w _ => radd a b w⟩
/-- A part of a number, cut. -/
def badP (n num den : Int) : Prop := n < 0 ∨ num < 0 ∨ den ≤ 0 ∨ den < num
instance decBadP (n num den : Int) : Decidable (badP n num den) := by unfold badP; infer_instance
def partQ (n num den : Int) : Int := if badP n num den then 0 else n * num / den
def partE (n num den : Int) : Int := if badP n num den then 1 else 0
theorem part_div {n num den : Int} (hn : In64 n) (_hm : In64 num) (_hd : In64 den) (hb : ¬ badP n num den) : dvQ (hi64 (n * num)) (lo64 (n * num)) den = n * num / den ∧ 0 ≤ n * num / den ∧ n * num / den ≤ n := by
  unfold badP at hb
  have h0 : 0 ≤ n * num := Int.mul_nonneg (by omega) (by omega)
  have h1 : n * num ≤ n * den := Int.mul_le_mul_of_nonneg_left (by omega) (by omega)
  have h2 : n * num / den ≤ n := Int.ediv_le_of_le_mul (by omega) h1
  have h4 : n * den ≤ 9223372036854775807 * den := Int.mul_le_mul_of_nonneg_right (by unfold In64 at hn; omega) (by omega)
  have h3 : hi64 (n * num) < den := by
    unfold hi64
    exact Int.ediv_lt_of_lt_mul (by omega) (by omega)
  refine ⟨?_, Int.ediv_nonneg h0 (by omega), h2⟩
  unfold dvQ
  rw [if_pos h3]
  congr 1
  unfold hi64 lo64
  omega
attribute [local irreducible] W512 in
theorem rpart (n num den : Int) (hn : In64 n) (hm : In64 num) (hd : In64 den) (w : World) : Calls Try.prog 66 #[.int .i64 n, .int .i64 num, .int .i64 den] w fun e w' => e = .returned (.tuple #[.int .i64 (partQ n num den), .int .i64 (partE n num den)]) ∧ Below w.heap.size w w' := by
  have hM := R.Own.start [] w
  by_cases hb : badP n num den
  · have e1 : partQ n num den = 0 := if_pos hb
    have e2 : partE n num den = 1 := if_pos hb
    rw [e1, e2]
    unfold badP at hb
    refine R.calls_of_WC (fn := Try.f66) Try.func66 rfl Try.ntmps66 (Nat.le_of_ble_eq_true rfl) ?_
    (refine R.stepU ?_; (repeat' (first | (with_reducible refine And.intro ?_ ?_) | (with_reducible intro _))); all_goals refine R.Lft.mk ?_; (all_goals (try (exact ⟨rfl, R.Own.below (by assumption)⟩))))
  · have e1 : partQ n num den = n * num / den := if_neg hb
    have e2 : partE n num den = 0 := if_neg hb
    obtain ⟨e3, e4, e5⟩ := part_div hn hm hd hb
    rw [e1, e2]
    have hq : In64 (dvQ (hi64 (n * num)) (lo64 (n * num)) den) := by rw [e3]; unfold In64 at hn ⊢; omega
    have hl := R.lo64_range (n * num)
    have hh : InU64 (hi64 (n * num)) := by
      have h0 : 0 ≤ n * num := by unfold badP at hb; exact Int.mul_nonneg (by omega) (by omega)
      have h3 : n * num ≤ n * den := Int.mul_le_mul_of_nonneg_left (by unfold badP at hb; omega) (by unfold badP at hb; omega)
      have h4 : n * den ≤ 9223372036854775807 * den := Int.mul_le_mul_of_nonneg_right (by unfold In64 at hn; omega) (by unfold badP at hb; omega)
      unfold InU64 hi64
      unfold In64 at hd
      omega
    unfold badP at hb
    unfold In64 at hn hm hd
    refine R.calls_of_WC (fn := Try.f66) Try.func66 rfl Try.ntmps66 (Nat.le_of_ble_eq_true rfl) ?_
    (refine R.stepU ?_; (repeat' (first | (with_reducible refine And.intro ?_ ?_) | (with_reducible intro _))); all_goals refine R.Lft.mk ?_; (all_goals (try (exact ⟨rfl, R.Own.below (by assumption)⟩))))
    all_goals first
      | (rw [e3]; exact ⟨rfl, R.Own.below (by assumption)⟩)
      | (exfalso; omega)
instance con_rpart (n num den : Int) : R.ConB Try.prog 66 #[.int .i64 n, .int .i64 num, .int .i64 den] Unit (fun _ _ => In64 n ∧ In64 num ∧ In64 den) (fun _ => .tuple #[.int .i64 (partQ n num den), .int .i64 (partE n num den)]) := ⟨fun _ w h => rpart n num den h.1 h.2.1 h.2.2 w⟩
end Go.Proofs.Ytalaffabcnccgaa
