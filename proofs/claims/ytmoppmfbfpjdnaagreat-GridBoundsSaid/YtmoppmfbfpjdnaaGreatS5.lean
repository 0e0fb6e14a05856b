/- snicketref05: all but Text. snicketref05: products, which is less. -/
import Derived.Test.YtmoppmfbfpjdnaaGreatSn
import Derived.Test.YtmoppmfbfpjdnaaGreatRf3
namespace Go.Proofs.YtmoppmfbfpjdnaaGreat
open Go.RowKit
open R (In64 InU64 lo64 nth)

theorem fix5 (a : Sg) (w : World) : Calls Tryz.prog 36 #[.agg (cS a).toArray] w fun e w' => e = .returned (.agg (cS (sgn a.z)).toArray) ∧ Below w.heap.size w w' := by
  have hM := R.Own.start [] w
  by_cases h : a.mag = W 0
  · have e1 : sgn a.z = ⟨false, a.mag⟩ := by rw [fix_zero (by rw [h]; exact W_n W512_pos), h]
    rw [e1]
    refine R.calls_of_WC (fn := Tryz.f36) Tryz.func36 rfl Tryz.ntmps36 (Nat.le_of_ble_eq_true rfl) ?_
    (refine R.stepU ?_; (repeat' (first | (with_reducible refine And.intro ?_ ?_) | (with_reducible intro _))); all_goals refine R.Lft.mk ?_; (all_goals (try (exact ⟨rfl, R.Own.below (by assumption)⟩))))
    all_goals exact absurd h (by assumption)
  · have e1 : sgn a.z = a := fix_same (fun h0 => h (Wd.ext_ (by rw [h0]; exact (W_n W512_pos).symm)))
    rw [e1]
    refine R.calls_of_WC (fn := Tryz.f36) Tryz.func36 rfl Tryz.ntmps36 (Nat.le_of_ble_eq_true rfl) ?_
    (refine R.stepU ?_; (repeat' (first | (with_reducible refine And.intro ?_ ?_) | (with_reducible intro _))); all_goals refine R.Lft.mk ?_; (all_goals (try (exact ⟨rfl, R.Own.below (by assumption)⟩))))
    all_goals exact absurd (by assumption) h
instance con_fix5 (a : Sg) : R.ConB Tryz.prog 36 #[.agg (cS a).toArray] Unit (fun _ _ => True) (fun _ => .agg (cS (sgn a.z)).toArray) := ⟨fun _ w _ => fix5 a w⟩
theorem of5_neg {n : Int} (_h : In64 n) (hn : n < 0) : (⟨true, W (Int.toNat (-(n + 1) + 1))⟩ : Sg) = sgn n := by
  refine Sg.ext_iff.2 ⟨(decide_eq_true hn).symm, ?_⟩
  show W _ = W _
  congr 1
  omega
theorem of5_pos {n : Int} (_h : In64 n) (hn : ¬ n < 0) : (⟨false, W (Int.toNat n)⟩ : Sg) = sgn n := by
  refine Sg.ext_iff.2 ⟨(decide_eq_false hn).symm, ?_⟩
  show W _ = W _
  congr 1
  omega
theorem of5 (n : Int) (h : In64 n) (w : World) : Calls Tryz.prog 34 #[.int .i64 n] w fun e w' => e = .returned (.agg (cS (sgn n)).toArray) ∧ Below w.heap.size w w' := by
  have hM := R.Own.start [] w
  unfold In64 at h
  refine R.calls_of_WC (fn := Tryz.f34) Tryz.func34 rfl Tryz.ntmps34 (Nat.le_of_ble_eq_true rfl) ?_
  (refine R.stepU ?_; (repeat' (first | (with_reducible refine And.intro ?_ ?_) | (with_reducible intro _))); all_goals refine R.Lft.mk ?_; (all_goals (try (exact ⟨rfl, R.Own.below (by assumption)⟩))))
  · rw [of5_neg h (by assumption)]
    exact ⟨rfl, R.Own.below (by assumption)⟩
  · rw [of5_pos h (by assumption)]
    exact ⟨rfl, R.Own.below (by assumption)⟩
instance con_of5 (n : Int) : R.ConB Tryz.prog 34 #[.int .i64 n] Unit (fun _ _ => In64 n) (fun _ => .agg (cS (sgn n)).toArray) := ⟨fun _ w h => of5 n h w⟩
theorem less5 (a : Sg) (w : World) : Calls Tryz.prog 37 #[.agg (cS a).toArray] w fun e w' => e = .returned (.agg (cS (sgn (-a.z))).toArray) ∧ Below w.heap.size w w' := by
  have hM := R.Own.start [] w
  have h1 := less_z a
  refine R.calls_of_WC (fn := Tryz.f37) Tryz.func37 rfl Tryz.ntmps37 (Nat.le_of_ble_eq_true rfl) ?_
  (refine R.stepU ?_; (repeat' (first | (with_reducible refine And.intro ?_ ?_) | (with_reducible intro _))); all_goals refine R.Lft.mk ?_; (all_goals (try (exact ⟨rfl, R.Own.below (by assumption)⟩))))
  rw [h1]
  exact ⟨rfl, R.Own.below (by assumption)⟩
instance con_less5 (a : Sg) : R.ConB Tryz.prog 37 #[.agg (cS a).toArray] Unit (fun _ _ => True) (fun _ => .agg (cS (sgn (-a.z))).toArray) := ⟨fun _ w _ => less5 a w⟩
attribute [local irreducible] W512 in
set_option maxHeartbeats 1000000 in
theorem add5 (a b : Sg) (w : World) : Calls Tryz.prog 35 #[.agg (cS a).toArray, .agg (cS b).toArray] w fun e w' => e = .returned (.tuple #[.agg (cS (resZ (a.z + b.z))).toArray, .bool (decide ((a.z + b.z).natAbs < W512))]) ∧ Below w.heap.size w w' := by
  have hM := R.Own.start [] w
  have d1 := digsL_dig a.mag.n 32
  have d2 := digsL_dig b.mag.n 32
  have d3 := digsL_len a.mag.n 32
  have d4 := digsL_len b.mag.n 32
  have d5 := digsL_whole a.mag
  have d6 := digsL_whole b.mag
  refine R.calls_of_WC (fn := Tryz.f35) Tryz.func35 rfl Tryz.ntmps35 (Nat.le_of_ble_eq_true rfl) ?_
  (refine R.stepU ?_; (repeat' (first | (with_reducible refine And.intro ?_ ?_) | (with_reducible intro _))); all_goals refine R.Lft.mk ?_)
  refine R.WC_planX [(0, false), (1, false), (3, false), (4, false), (2, true), (5, true), (6, false), (7, false)] R.mixed (by decide +kernel) R.ohm ?_
  (refine R.stepU ?_; (repeat' (first | (with_reducible refine And.intro ?_ ?_) | (with_reducible intro _))); all_goals refine R.Lft.mk ?_; (all_goals (try (exact ⟨rfl, R.Own.below (by assumption)⟩))))
  · rename_i hn
    refine R.WO_call2 rfl rfl R.vv R.vv ?_
    refine (plus_i _ _ _ _ _ _ _ _ _ (R.Own.inp R.ohm R.memb) d3.symm d1 (by omega) (R.Own.inp R.ohm R.memb) d4.symm d2 (by omega)).mono ?_
    rintro e w' ⟨A1, c1, n1, zs, rfl, hG, hn1, hd, hv, hnm⟩
    rw [d5, d6] at hv
    have hM := R.Own.give R.ohm hG
    refine ⟨_, rfl, ?_⟩
    have hn2 : n1 ≤ 100 := Nat.le_trans hnm (by decide)
    (refine R.stepU ?_; (repeat' (first | (with_reducible refine And.intro ?_ ?_) | (with_reducible intro _))); all_goals refine R.Lft.mk ?_; (all_goals (try (exact ⟨rfl, R.Own.below (by assumption)⟩))))
    · have h : (!decide (dv zs < W512)) = true := by assumption
      exact ⟨res_no (by rw [z_same hn, ← hv]; simpa using h), R.Own.below (by assumption)⟩
    · have h : (!decide (dv zs < W512)) = false := by assumption
      have h2 : dv zs < W512 := by simpa using h
      exact ⟨res_ok (by rw [z_same hn, ← hv]; exact h2) (mk_same hn hv h2), R.Own.below (by assumption)⟩
  · rename_i hn
    refine R.WO_call2 rfl rfl R.vv R.vv ?_
    refine (less_i _ _ _ _ _ _ _ _ _ (R.Own.inp R.ohm R.memb) d3.symm d1 (by omega) (R.Own.inp R.ohm R.memb) d4.symm d2 (by omega)).mono ?_
    rintro e w' ⟨rfl, rfl⟩
    refine ⟨_, rfl, ?_⟩
    rw [d5, d6]
    (refine R.stepU ?_; (repeat' (first | (with_reducible refine And.intro ?_ ?_) | (with_reducible intro _))); all_goals refine R.Lft.mk ?_; (all_goals (try (exact ⟨rfl, R.Own.below (by assumption)⟩))))
    · rename_i hlt
      refine R.WO_call2 rfl rfl R.vv R.vv ?_
      refine (minus_i _ _ _ _ _ _ _ _ _ (R.Own.inp R.ohm R.memb) d4.symm d2 (by omega) (R.Own.inp R.ohm R.memb) d3.symm d1 (by omega) (by omega)).mono ?_
      rintro e w' ⟨A1, c1, zs, rfl, hG, hn1, hd, hv⟩
      rw [d5, d6] at hv
      have hM := R.Own.give R.ohm hG
      refine ⟨_, rfl, ?_⟩
      (refine R.stepU ?_; (repeat' (first | (with_reducible refine And.intro ?_ ?_) | (with_reducible intro _))); all_goals refine R.Lft.mk ?_; (all_goals (try (exact ⟨rfl, R.Own.below (by assumption)⟩))))
      exact ⟨res_ok (z_diff hn) (by rw [Int.add_comm]; exact mk_diff (fun e => hn e.symm) (Nat.le_of_lt hlt) hv), R.Own.below (by assumption)⟩
    · rename_i hlt
      refine R.WO_call2 rfl rfl R.vv R.vv ?_
      refine (minus_i _ _ _ _ _ _ _ _ _ (R.Own.inp R.ohm R.memb) d3.symm d1 (by omega) (R.Own.inp R.ohm R.memb) d4.symm d2 (by omega) (by omega)).mono ?_
      rintro e w' ⟨A1, c1, zs, rfl, hG, hn1, hd, hv⟩
      rw [d5, d6] at hv
      have hM := R.Own.give R.ohm hG
      refine ⟨_, rfl, ?_⟩
      (refine R.stepU ?_; (repeat' (first | (with_reducible refine And.intro ?_ ?_) | (with_reducible intro _))); all_goals refine R.Lft.mk ?_; (all_goals (try (exact ⟨rfl, R.Own.below (by assumption)⟩))))
      exact ⟨res_ok (z_diff hn) (mk_diff hn (by omega) hv), R.Own.below (by assumption)⟩
instance con_add5 (a b : Sg) : R.ConB Tryz.prog 35 #[.agg (cS a).toArray, .agg (cS b).toArray] Unit (fun _ _ => True) (fun _ => .tuple #[.agg (cS (resZ (a.z + b.z))).toArray, .bool (decide ((a.z + b.z).natAbs < W512))]) := ⟨fun _ w _ => add5 a b w⟩
end Go.Proofs.YtmoppmfbfpjdnaaGreat
namespace Go.Proofs.YtmoppmfbfpjdnaaGreat
open Go.RowKit
open R (In64 InU64 lo64 nth)

attribute [local irreducible] W512 in
set_option maxHeartbeats 4000000 in
theorem cmp5 (a b : Sg) (w : World) : Calls Tryz.prog 13 #[.agg (cS a).toArray, .agg (cS b).toArray] w fun e w' => e = .returned (.int .i64 (cmpZ a.z b.z)) ∧ Below w.heap.size w w' := by
  have hM := R.Own.start [] w
  refine R.calls_of_WC (fn := Tryz.f13) Tryz.func13 rfl Tryz.ntmps13 (Nat.le_of_ble_eq_true rfl) ?_
  (refine R.stepU ?_; (repeat' (first | (with_reducible refine And.intro ?_ ?_) | (with_reducible intro _))); all_goals refine R.Lft.mk ?_)
  refine R.WC_cut2 (ι := Nat × Nat × Nat) (fun i => [(2, .pointer (some ⟨i.2.2, 0, none⟩)), (3, .pointer (some ⟨i.2.1, 0, none⟩)), (4, .int .i64 0), (5, .pointer (some ⟨i.1, 0, none⟩)), (6, .bool (decide (((sgn a.z).z + (sgn (-b.z)).z).natAbs < W512)))])
    (fun i w2 => R.Own [] w w2 [.blk i.1 46 (cS (resZ ((sgn a.z).z + (sgn (-b.z)).z))), .blk i.2.1 46 (cS b), .blk i.2.2 46 (cS a)]) ?h1 ?h2
  case h1 =>
    refine R.WC_planF (.q 0 (.q 2 (.f 1 8 (.f 3 8 (.f 4 8 (.q 5 (.q 6 (.q 7 (.e 8 (.e 9 (.q 10 .nil)))))) (.e 4 (.q 5 (.q 6 (.q 7 (.e 9 (.q 10 .nil))))))) (.e 3 (.e 4 (.q 5 (.q 6 (.q 7 (.e 9 (.q 10 .nil)))))))) (.e 1 (.e 3 (.e 4 (.q 5 (.q 6 (.q 7 (.e 9 (.q 10 .nil))))))))))) R.mixed (by decide +kernel) R.ohm ?_
    (refine R.stepU ?_; (repeat' (first | (with_reducible refine And.intro ?_ ?_) | (with_reducible intro _))); all_goals refine R.Lft.mk ?_)
    all_goals
      rename_i hM
      exact ⟨rfl, (_, _, _), ⟨rfl, rfl, rfl, rfl, rfl, trivial⟩, hM⟩
  case h2 =>
    rintro ⟨g5, g3, g2⟩ f w2 hM
    dsimp only at hM ⊢
    (refine R.stepU ?_; (repeat' (first | (with_reducible refine And.intro ?_ ?_) | (with_reducible intro _))); all_goals refine R.Lft.mk ?_; (all_goals (try (exact ⟨rfl, R.Own.below (by assumption)⟩))))
    all_goals
      refine ⟨retI ?_, R.Own.below (by assumption)⟩
      first | exact c5a (by assumption) (by assumption) | exact (c5z (by assumption) (by assumption)).elim | exact c5c (by assumption) (by assumption) | exact c5d (by assumption) (by assumption) | exact c5e (by assumption) (by assumption) (by assumption) | exact c5b (by assumption) (by assumption)
instance con_cmp5 (a b : Sg) : R.ConB Tryz.prog 13 #[.agg (cS a).toArray, .agg (cS b).toArray] Unit (fun _ _ => True) (fun _ => .int .i64 (cmpZ a.z b.z)) := ⟨fun _ w _ => cmp5 a b w⟩
end Go.Proofs.YtmoppmfbfpjdnaaGreat
