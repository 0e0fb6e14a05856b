/- Package far: how far a point is, squared. -/
import Derived.Test.YtmoppmfbfpjdnaaGreatFd
namespace Go.Proofs.YtmoppmfbfpjdnaaGreat
open Go.RowKit
open R (In64 InU64 lo64 nth)

attribute [local irreducible] W512 partN partD cmpZ ofR toW btwW dotW crossW byS resZ in
set_option maxHeartbeats 4000000 in
theorem sq_B1 (a b : Sp) (p : Pt) (w : World) (h1 : In64 p.x) (h2 : In64 p.y) (hn : 0 < (partN a b p).z) (hd : (partD a b).z ≤ (partN a b p).z) : Calls Tryz.prog 26 #[.agg (cSp a).toArray, .agg (cSp b).toArray, .agg (cPt p).toArray] w fun e w' => e = .returned (.agg (cR (squareB b p)).toArray) ∧ Below w.heap.size w w' := by
  have hM := R.Own.start [] w
  have r1 : cmpZ (partN a b p).z (⟨false, W 0⟩ : Sg).z = 1 := by rw [nul_z]; exact cmpZ_gt hn
  have r2 : 0 ≤ cmpZ (partN a b p).z (partD a b).z := cmpZ_ge0.2 hd
  have i1 : R.ConB Tryz.prog 48 #[.agg (cS (partN a b p)).toArray, .agg (cS ⟨false, W 0⟩).toArray] Unit (fun _ _ => True) (fun _ => .int .i64 1) := ⟨fun s w h => by
    have q := (con_scmp (partN a b p) ⟨false, W 0⟩).h s w h
    rw [r1] at q
    exact q⟩
  refine R.calls_of_WC (fn := Tryz.f26) Tryz.func26 rfl Tryz.ntmps26 (Nat.le_of_ble_eq_true rfl) ?_
  (refine R.stepU ?_; (repeat' (first | (with_reducible refine And.intro ?_ ?_) | (with_reducible intro _))); all_goals refine R.Lft.mk ?_)
  refine R.WC_cut2 (ι := Nat × Nat) (fun i => [(6, .pointer (some ⟨i.1, 0, none⟩)), (16, .pointer (some ⟨i.2, 0, none⟩))])
    (fun i w2 => R.Own [] w w2 [.blk i.2 48 (cR (squareB b p)), .blk i.1 48 (cR nulR)]) ?h1 ?h2
  case h1 =>
    refine R.WC_planF (.q 0 (.q 1 (.q 3 (.q 5 (.f 2 12 (.f 4 12 (.f 6 12 (.f 7 12 (.f 8 12 (.q 9 (.q 10 (.q 11 (.e 12 (.e 13 (.q 14 .nil)))))) (.e 8 (.q 9 (.q 10 (.q 11 (.e 13 (.q 14 .nil))))))) (.e 7 (.e 8 (.q 9 (.q 10 (.q 11 (.e 13 (.q 14 .nil)))))))) (.e 6 (.e 7 (.e 8 (.q 9 (.q 10 (.q 11 (.e 13 (.q 14 .nil))))))))) (.e 4 (.e 6 (.e 7 (.e 8 (.q 9 (.q 10 (.q 11 (.e 13 (.q 14 .nil)))))))))) (.e 2 (.e 4 (.e 6 (.e 7 (.e 8 (.q 9 (.q 10 (.q 11 (.e 13 (.q 14 .nil))))))))))))))) R.mixed (by decide +kernel) R.ohm ?_
    (refine R.stepU ?_; (repeat' (first | (with_reducible refine And.intro ?_ ?_) | (with_reducible intro _))); all_goals refine R.Lft.mk ?_)
    all_goals
      rename_i hM
      exact ⟨rfl, (_, _), ⟨rfl, rfl, trivial⟩, hM.sub R.subl⟩
  case h2 =>
    rintro ⟨g6, g16⟩ f w2 hM
    dsimp only at hM ⊢
    (refine R.stepU ?_; (repeat' (first | (with_reducible refine And.intro ?_ ?_) | (with_reducible intro _))); all_goals refine R.Lft.mk ?_; (all_goals (try (exact ⟨rfl, R.Own.below (by assumption)⟩))))
attribute [local irreducible] W512 partN partD cmpZ ofR toW btwW dotW crossW byS resZ in
set_option maxHeartbeats 4000000 in
theorem sq_B2 (a b : Sp) (p : Pt) (w : World) (h1 : In64 p.x) (h2 : In64 p.y) (hn : (partN a b p).z ≤ 0) (hd : (partD a b).z ≤ (partN a b p).z) : Calls Tryz.prog 26 #[.agg (cSp a).toArray, .agg (cSp b).toArray, .agg (cPt p).toArray] w fun e w' => e = .returned (.agg (cR (squareB b p)).toArray) ∧ Below w.heap.size w w' := by
  have hM := R.Own.start [] w
  have r1 : cmpZ (partN a b p).z (⟨false, W 0⟩ : Sg).z ≤ 0 := by rw [nul_z]; exact cmpZ_le0.2 hn
  have r2 : 0 ≤ cmpZ (partN a b p).z (partD a b).z := cmpZ_ge0.2 hd
  refine R.calls_of_WC (fn := Tryz.f26) Tryz.func26 rfl Tryz.ntmps26 (Nat.le_of_ble_eq_true rfl) ?_
  (refine R.stepU ?_; (repeat' (first | (with_reducible refine And.intro ?_ ?_) | (with_reducible intro _))); all_goals refine R.Lft.mk ?_)
  refine R.WC_cut2 (ι := Nat × Nat) (fun i => [(6, .pointer (some ⟨i.1, 0, none⟩)), (16, .pointer (some ⟨i.2, 0, none⟩))])
    (fun i w2 => R.Own [] w w2 [.blk i.2 48 (cR (squareB b p)), .blk i.1 48 (cR nulR)]) ?h1 ?h2
  case h1 =>
    refine R.WC_planF (.q 0 (.q 1 (.q 3 (.q 5 (.f 2 12 (.f 4 12 (.f 6 12 (.f 7 12 (.f 8 12 (.q 9 (.q 10 (.q 11 (.e 12 (.e 13 (.q 14 .nil)))))) (.e 8 (.q 9 (.q 10 (.q 11 (.e 13 (.q 14 .nil))))))) (.e 7 (.e 8 (.q 9 (.q 10 (.q 11 (.e 13 (.q 14 .nil)))))))) (.e 6 (.e 7 (.e 8 (.q 9 (.q 10 (.q 11 (.e 13 (.q 14 .nil))))))))) (.e 4 (.e 6 (.e 7 (.e 8 (.q 9 (.q 10 (.q 11 (.e 13 (.q 14 .nil)))))))))) (.e 2 (.e 4 (.e 6 (.e 7 (.e 8 (.q 9 (.q 10 (.q 11 (.e 13 (.q 14 .nil))))))))))))))) R.mixed (by decide +kernel) R.ohm ?_
    (refine R.stepU ?_; (repeat' (first | (with_reducible refine And.intro ?_ ?_) | (with_reducible intro _))); all_goals refine R.Lft.mk ?_)
    all_goals
      rename_i hM
      exact ⟨rfl, (_, _), ⟨rfl, rfl, trivial⟩, hM.sub R.subl⟩
  case h2 =>
    rintro ⟨g6, g16⟩ f w2 hM
    dsimp only at hM ⊢
    (refine R.stepU ?_; (repeat' (first | (with_reducible refine And.intro ?_ ?_) | (with_reducible intro _))); all_goals refine R.Lft.mk ?_; (all_goals (try (exact ⟨rfl, R.Own.below (by assumption)⟩))))
attribute [local irreducible] W512 partN partD cmpZ ofR toW btwW dotW crossW byS resZ in
set_option maxHeartbeats 4000000 in
theorem sq_B3 (a b : Sp) (p : Pt) (w : World) (h1 : In64 p.x) (h2 : In64 p.y) (hn : (partN a b p).z ≤ 0) (hd : ¬ (partD a b).z ≤ (partN a b p).z) : Calls Tryz.prog 26 #[.agg (cSp a).toArray, .agg (cSp b).toArray, .agg (cPt p).toArray] w fun e w' => e = .returned (.agg (cR (squareB a p)).toArray) ∧ Below w.heap.size w w' := by
  have hM := R.Own.start [] w
  have r1 : cmpZ (partN a b p).z (⟨false, W 0⟩ : Sg).z ≤ 0 := by rw [nul_z]; exact cmpZ_le0.2 hn
  have r2 : ¬ 0 ≤ cmpZ (partN a b p).z (partD a b).z := fun h => hd (cmpZ_ge0.1 h)
  refine R.calls_of_WC (fn := Tryz.f26) Tryz.func26 rfl Tryz.ntmps26 (Nat.le_of_ble_eq_true rfl) ?_
  (refine R.stepU ?_; (repeat' (first | (with_reducible refine And.intro ?_ ?_) | (with_reducible intro _))); all_goals refine R.Lft.mk ?_)
  refine R.WC_cut2 (ι := Nat × Nat) (fun i => [(6, .pointer (some ⟨i.1, 0, none⟩)), (16, .pointer (some ⟨i.2, 0, none⟩))])
    (fun i w2 => R.Own [] w w2 [.blk i.2 48 (cR (squareB a p)), .blk i.1 48 (cR nulR)]) ?h1 ?h2
  case h1 =>
    refine R.WC_planF (.q 0 (.q 1 (.q 3 (.q 5 (.f 2 12 (.f 4 12 (.f 6 12 (.f 7 12 (.f 8 12 (.q 9 (.q 10 (.q 11 (.e 12 (.e 13 (.q 14 .nil)))))) (.e 8 (.q 9 (.q 10 (.q 11 (.e 13 (.q 14 .nil))))))) (.e 7 (.e 8 (.q 9 (.q 10 (.q 11 (.e 13 (.q 14 .nil)))))))) (.e 6 (.e 7 (.e 8 (.q 9 (.q 10 (.q 11 (.e 13 (.q 14 .nil))))))))) (.e 4 (.e 6 (.e 7 (.e 8 (.q 9 (.q 10 (.q 11 (.e 13 (.q 14 .nil)))))))))) (.e 2 (.e 4 (.e 6 (.e 7 (.e 8 (.q 9 (.q 10 (.q 11 (.e 13 (.q 14 .nil))))))))))))))) R.mixed (by decide +kernel) R.ohm ?_
    (refine R.stepU ?_; (repeat' (first | (with_reducible refine And.intro ?_ ?_) | (with_reducible intro _))); all_goals refine R.Lft.mk ?_)
    all_goals
      rename_i hM
      exact ⟨rfl, (_, _), ⟨rfl, rfl, trivial⟩, hM.sub R.subl⟩
  case h2 =>
    rintro ⟨g6, g16⟩ f w2 hM
    dsimp only at hM ⊢
    (refine R.stepU ?_; (repeat' (first | (with_reducible refine And.intro ?_ ?_) | (with_reducible intro _))); all_goals refine R.Lft.mk ?_; (all_goals (try (exact ⟨rfl, R.Own.below (by assumption)⟩))))
instance con_fsquare (a b : Sp) (p : Pt) : R.ConB Tryz.prog 26 #[.agg (cSp a).toArray, .agg (cSp b).toArray, .agg (cPt p).toArray] Unit (fun _ _ => In64 p.x ∧ In64 p.y) (fun _ => .agg (cR (squareR a b p)).toArray) := ⟨fun _ w ⟨h1, h2⟩ => by
  unfold squareR
  by_cases hc : 0 < (partN a b p).z ∧ (partN a b p).z < (partD a b).z
  · rw [if_pos hc]
    exact sq_A a b p w h1 h2 hc
  · rw [if_neg hc]
    by_cases hd : (partD a b).z ≤ (partN a b p).z
    · rw [if_pos hd]
      by_cases hn : 0 < (partN a b p).z
      · exact sq_B1 a b p w h1 h2 hn hd
      · exact sq_B2 a b p w h1 h2 (by omega) hd
    · rw [if_neg hd]
      exact sq_B3 a b p w h1 h2 (by omega) hd⟩
def shortB (a : Rt) : Bool := decide (((bitLen a.num.mag.n : Nat) : Int) ≤ 250) && decide (((bitLen a.den.n : Nat) : Int) ≤ 250)
attribute [local irreducible] W512 in
set_option maxHeartbeats 4000000 in
instance con_fshort (a : Rt) : R.ConB Tryz.prog 27 #[.agg (cR a).toArray] Unit (fun _ _ => True) (fun _ => .bool (shortB a)) := ⟨fun _ w _ => by
  have hM := R.Own.start [] w
  refine R.calls_of_WC (fn := Tryz.f27) Tryz.func27 rfl Tryz.ntmps27 (Nat.le_of_ble_eq_true rfl) ?_
  (refine R.stepU ?_; (repeat' (first | (with_reducible refine And.intro ?_ ?_) | (with_reducible intro _))); all_goals refine R.Lft.mk ?_)
  all_goals
    refine ⟨?_, R.Own.below (by assumption)⟩
    simp [shortB, *]⟩
def squareE (a b : Sp) (p : Pt) : Int := if lineB a b p then (if shortB (squareR a b p) then 0 else 6) else 1
attribute [local irreducible] W512 lineB squareR shortB squareE in
set_option maxHeartbeats 4000000 in
instance con_fSquare (a b : Sp) (p : Pt) : R.ConB Tryz.prog 8 #[.agg (cSp a).toArray, .agg (cSp b).toArray, .agg (cPt p).toArray] Unit (fun _ _ => In64 p.x ∧ In64 p.y) (fun _ => .tuple #[.agg (cR (if squareE a b p = 0 then squareR a b p else nulR)).toArray, .int .i64 (squareE a b p)]) := ⟨fun _ w ⟨h1, h2⟩ => by
  have hM := R.Own.start [] w
  cases hl : lineB a b p with
  | false =>
    have e : squareE a b p = 1 := by unfold squareE; rw [hl]; rfl
    rw [e, if_neg (by decide)]
    refine R.calls_of_WC (fn := Tryz.f8) Tryz.func8 rfl Tryz.ntmps8 (Nat.le_of_ble_eq_true rfl) ?_
    (refine R.stepU ?_; (repeat' (first | (with_reducible refine And.intro ?_ ?_) | (with_reducible intro _))); all_goals refine R.Lft.mk ?_)
    all_goals first
      | exact ⟨rfl, R.Own.below (by assumption)⟩
      | exact nbw_t hl (by assumption)
      | exact nbw_f hl (by assumption)
      | (exfalso; omega)
  | true =>
    cases hs : shortB (squareR a b p) with
    | false =>
      have e : squareE a b p = 6 := by unfold squareE; rw [hl, hs]; rfl
      rw [e, if_neg (by decide)]
      refine R.calls_of_WC (fn := Tryz.f8) Tryz.func8 rfl Tryz.ntmps8 (Nat.le_of_ble_eq_true rfl) ?_
      (refine R.stepU ?_; (repeat' (first | (with_reducible refine And.intro ?_ ?_) | (with_reducible intro _))); all_goals refine R.Lft.mk ?_)
      all_goals first
        | exact ⟨rfl, R.Own.below (by assumption)⟩
        | exact nbw_t hl (by assumption)
        | exact nbw_f hs (by assumption)
        | (exfalso; omega)
    | true =>
      have e : squareE a b p = 0 := by unfold squareE; rw [hl, hs]; rfl
      rw [e, if_pos rfl]
      refine R.calls_of_WC (fn := Tryz.f8) Tryz.func8 rfl Tryz.ntmps8 (Nat.le_of_ble_eq_true rfl) ?_
      (refine R.stepU ?_; (repeat' (first | (with_reducible refine And.intro ?_ ?_) | (with_reducible intro _))); all_goals refine R.Lft.mk ?_)
      all_goals first
        | exact ⟨rfl, R.Own.below (by assumption)⟩
        | exact nbw_t hl (by assumption)
        | exact nbw_t hs (by assumption)
        | (exfalso; omega)⟩
end Go.Proofs.YtmoppmfbfpjdnaaGreat
