/- Package far: how far a point is, squared: nearest inside. -/
import Derived.Test.YtmoppmfbfpjdnaaGreatFa
namespace Go.Proofs.YtmoppmfbfpjdnaaGreat
open Go.RowKit
open R (In64 InU64 lo64 nth)

/-- How far a point is, squared. -/
def squareA (a b : Sp) (p : Pt) : Rt := ofR (resZ ((crossW (toW a p) (btwW a b)).z * (crossW (toW a p) (btwW a b)).z)) (resZ ((resZ ((byS a).z * (byS a).z)).z * (dotW (btwW a b) (btwW a b)).z))
def squareB (a : Sp) (p : Pt) : Rt := ofR (dotW (toW a p) (toW a p)) (resZ ((byS a).z * (byS a).z))
def squareR (a b : Sp) (p : Pt) : Rt := if 0 < (partN a b p).z ∧ (partN a b p).z < (partD a b).z then squareA a b p else if (partD a b).z ≤ (partN a b p).z then squareB b p else squareB a p
attribute [local irreducible] W512 partN partD cmpZ ofR toW btwW dotW crossW byS resZ in
set_option maxHeartbeats 4000000 in
theorem sq_A (a b : Sp) (p : Pt) (w : World) (h1 : In64 p.x) (h2 : In64 p.y) (hc : 0 < (partN a b p).z ∧ (partN a b p).z < (partD a b).z) : Calls Tryz.prog 26 #[.agg (cSp a).toArray, .agg (cSp b).toArray, .agg (cPt p).toArray] w fun e w' => e = .returned (.agg (cR (squareA a b p)).toArray) ∧ Below w.heap.size w w' := by
  have hM := R.Own.start [] w
  have r1 : cmpZ (partN a b p).z (⟨false, W 0⟩ : Sg).z = 1 := by rw [nul_z]; exact cmpZ_gt hc.1
  have r2 : cmpZ (partN a b p).z (partD a b).z = -1 := cmpZ_lt hc.2
  have i1 : R.ConB Tryz.prog 48 #[.agg (cS (partN a b p)).toArray, .agg (cS ⟨false, W 0⟩).toArray] Unit (fun _ _ => True) (fun _ => .int .i64 1) := ⟨fun s w h => by
    have q := (con_scmp (partN a b p) ⟨false, W 0⟩).h s w h
    rw [r1] at q
    exact q⟩
  have i2 : R.ConB Tryz.prog 48 #[.agg (cS (partN a b p)).toArray, .agg (cS (partD a b)).toArray] Unit (fun _ _ => True) (fun _ => .int .i64 (-1)) := ⟨fun s w h => by
    have q := (con_scmp (partN a b p) (partD a b)).h s w h
    rw [r2] at q
    exact q⟩
  refine R.calls_of_WC (fn := Tryz.f26) Tryz.func26 rfl Tryz.ntmps26 (Nat.le_of_ble_eq_true rfl) ?_
  (refine R.stepU ?_; (repeat' (first | (with_reducible refine And.intro ?_ ?_) | (with_reducible intro _))); all_goals refine R.Lft.mk ?_)
  refine R.WC_cut2 (ι := Nat × Nat × Nat × Nat) (fun i => [(3, .pointer (some ⟨i.1, 0, none⟩)), (6, .pointer (some ⟨i.2.1, 0, none⟩)), (10, .pointer (some ⟨i.2.2.1, 0, none⟩)), (11, .pointer (some ⟨i.2.2.2, 0, none⟩))])
    (fun i w2 => R.Own [] w w2 [.blk i.2.2.1 100 (cWy (toW a p)), .blk i.2.2.2 100 (cWy (btwW a b)), .blk i.2.1 48 (cR nulR), .blk i.1 52 (cSp a)]) ?h1 ?h2
  case h1 =>
    refine R.WC_planF (.q 0 (.q 1 (.q 3 (.q 4 (.g 2 6 7 (.g 5 6 7 (.f 6 7 (.e 7 (.e 8 (.e 9 .nil))) (.e 6 (.e 8 (.e 9 .nil)))) (.f 5 7 (.e 7 (.e 8 (.e 9 .nil))) (.e 5 (.e 8 (.e 9 .nil)))) (.f 5 6 (.e 6 (.e 8 (.e 9 .nil))) (.e 5 (.e 8 (.e 9 .nil))))) (.f 2 7 (.f 5 7 (.e 7 (.e 8 (.e 9 .nil))) (.e 5 (.e 8 (.e 9 .nil)))) (.e 2 (.e 5 (.e 8 (.e 9 .nil))))) (.f 2 6 (.f 5 6 (.e 6 (.e 8 (.e 9 .nil))) (.e 5 (.e 8 (.e 9 .nil)))) (.e 2 (.e 5 (.e 8 (.e 9 .nil)))))))))) R.mixed (by decide +kernel) R.ohm ?_
    (refine R.stepU ?_; (repeat' (first | (with_reducible refine And.intro ?_ ?_) | (with_reducible intro _))); all_goals refine R.Lft.mk ?_)
    all_goals
      rename_i hM
      exact ⟨rfl, (_, _, _, _), ⟨rfl, rfl, rfl, rfl, trivial⟩, (R.pk (r := .blk _ _ (cWy (toW a p))) hM).sub R.subl⟩
  case h2 =>
    rintro ⟨g3, g6, g10, g11⟩ f w2 hM
    dsimp only at hM ⊢
    (refine R.stepU ?_; (repeat' (first | (with_reducible refine And.intro ?_ ?_) | (with_reducible intro _))); all_goals refine R.Lft.mk ?_)
    refine R.WC_cut2 (ι := Nat × Nat) (fun i => [(6, .pointer (some ⟨i.1, 0, none⟩)), (13, .pointer (some ⟨i.2, 0, none⟩))])
      (fun i w2 => R.Own [] w w2 [.blk i.2 48 (cR (squareA a b p)), .blk i.1 48 (cR nulR)]) ?h1 ?h2
    case h1 =>
      refine R.WC_planF (.q 0 (.q 1 (.q 3 (.q 5 (.q 8 (.q 9 (.f 2 16 (.f 4 16 (.f 6 16 (.f 7 16 (.f 10 16 (.f 11 16 (.f 12 16 (.q 13 (.q 14 (.q 15 (.e 16 (.e 17 (.q 18 .nil)))))) (.e 12 (.q 13 (.q 14 (.q 15 (.e 17 (.q 18 .nil))))))) (.e 11 (.e 12 (.q 13 (.q 14 (.q 15 (.e 17 (.q 18 .nil)))))))) (.e 10 (.e 11 (.e 12 (.q 13 (.q 14 (.q 15 (.e 17 (.q 18 .nil))))))))) (.e 7 (.e 10 (.e 11 (.e 12 (.q 13 (.q 14 (.q 15 (.e 17 (.q 18 .nil)))))))))) (.e 6 (.e 7 (.e 10 (.e 11 (.e 12 (.q 13 (.q 14 (.q 15 (.e 17 (.q 18 .nil))))))))))) (.e 4 (.e 6 (.e 7 (.e 10 (.e 11 (.e 12 (.q 13 (.q 14 (.q 15 (.e 17 (.q 18 .nil)))))))))))) (.e 2 (.e 4 (.e 6 (.e 7 (.e 10 (.e 11 (.e 12 (.q 13 (.q 14 (.q 15 (.e 17 (.q 18 .nil))))))))))))))))))) R.mixed (by decide +kernel) R.ohm ?_
      (refine R.stepU ?_; (repeat' (first | (with_reducible refine And.intro ?_ ?_) | (with_reducible intro _))); all_goals refine R.Lft.mk ?_)
      all_goals
        rename_i hM
        exact ⟨rfl, (_, _), ⟨rfl, rfl, trivial⟩, hM.sub R.subl⟩
    case h2 =>
      rintro ⟨g6, g13⟩ f w2 hM
      dsimp only at hM ⊢
      (refine R.stepU ?_; (repeat' (first | (with_reducible refine And.intro ?_ ?_) | (with_reducible intro _))); all_goals refine R.Lft.mk ?_; (all_goals (try (exact ⟨rfl, R.Own.below (by assumption)⟩))))
end Go.Proofs.YtmoppmfbfpjdnaaGreat
