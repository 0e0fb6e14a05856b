/- The law SignAdds. -/
import Derived.Test.YtalaffabcnccgaaSw
import Derived.Test.YtalaffabcnccgaaS5
import Derived.Test.YtalaffabcnccgaaSa
namespace Go.Proofs.Ytalaffabcnccgaa
open Go.ChangeShapes Go.WideShapes Go.ChangeAt Go.RowKit
open R (In64 InU64 lo64 nth)

theorem sd_back {a b : Sg} (h : (!decide ((a.z + b.z).natAbs < W512)) = false) : ((resZ (a.z + b.z)).z - b.z).natAbs < W512 ∧ resZ ((resZ (a.z + b.z)).z - b.z) = sgn a.z := by
  have h1 : (a.z + b.z).natAbs < W512 := by simpa using h
  have h2 : (resZ (a.z + b.z)).z - b.z = a.z := by rw [res_fit h1, sgn_z h1]; omega
  rw [h2]
  exact ⟨a.z_lt, res_fit a.z_lt⟩
attribute [local irreducible] W512 in
set_option maxHeartbeats 4000000 in
theorem signAdds_any (a b : Sg) (w : World) : Calls Try.prog 17 #[.agg (cS a).toArray, .agg (cS b).toArray] w fun e w' => e = .returned (.bool true) ∧ Below w.heap.size w w' := by
  have hM := R.Own.start [] w
  have n1 : (sgn a.z).z + (sgn b.z).z = a.z + b.z := by rw [fix_z, fix_z]
  have n2 : (sgn a.z).z + (sgn (-(sgn b.z).z)).z = a.z - b.z := by rw [fix_z b]; exact sub_z a b
  have n3 : (sgn a.z).z * (sgn b.z).z = a.z * b.z := by rw [fix_z, fix_z]
  have n4 : resZ (a.z * b.z) = resZ ((sgn a.z).z * (sgn b.z).z) := by rw [n3]
  have n5 := same_fits (x := a.z * b.z) (y := (sgn a.z).z * (sgn b.z).z) (by rw [n3])
  have n6 := same_fits (x := a.z + b.z) (y := a.z + b.z) rfl
  have n7 := same_fits (x := a.z - b.z) (y := a.z - b.z) rfl
  refine R.calls_of_WC (fn := Try.f17) Try.func17 rfl Try.ntmps17 (Nat.le_of_ble_eq_true rfl) ?_
  (refine R.stepU ?_; (repeat' (first | (with_reducible refine And.intro ?_ ?_) | (with_reducible intro _))); all_goals refine R.Lft.mk ?_)
  refine R.WC_cut2 (ι := Nat × Nat × Nat × Nat) (fun i => [(2, .pointer (some ⟨i.2.2.2, 0, none⟩)), (3, .pointer (some ⟨i.2.2.1, 0, none⟩)), (4, .bool false), (5, .pointer (some ⟨i.2.1, 0, none⟩)), (6, .pointer (some ⟨i.1, 0, none⟩))])
    (fun i w2 => R.Own [] w w2 [.blk i.1 65 (cS (sgn b.z)), .blk i.2.1 65 (cS (sgn a.z)), .blk i.2.2.1 65 (cS b), .blk i.2.2.2 65 (cS a)]) ?h1 ?h2
  case h1 =>
    refine R.WC_planF (.q 0 (.q 2 (.g 1 4 5 (.g 3 4 5 (.f 4 5 (.e 5 (.e 6 (.e 7 .nil))) (.e 4 (.e 6 (.e 7 .nil)))) (.f 3 5 (.e 5 (.e 6 (.e 7 .nil))) (.e 3 (.e 6 (.e 7 .nil)))) (.f 3 4 (.e 4 (.e 6 (.e 7 .nil))) (.e 3 (.e 6 (.e 7 .nil))))) (.f 1 5 (.f 3 5 (.e 5 (.e 6 (.e 7 .nil))) (.e 3 (.e 6 (.e 7 .nil)))) (.e 1 (.e 3 (.e 6 (.e 7 .nil))))) (.f 1 4 (.f 3 4 (.e 4 (.e 6 (.e 7 .nil))) (.e 3 (.e 6 (.e 7 .nil)))) (.e 1 (.e 3 (.e 6 (.e 7 .nil)))))))) R.mixed (by decide +kernel) R.ohm ?_
    (refine R.stepU ?_; (repeat' (first | (with_reducible refine And.intro ?_ ?_) | (with_reducible intro _))); all_goals refine R.Lft.mk ?_)
    all_goals
      rename_i hM
      first
        | exact ⟨rfl, (_, _, _, _), ⟨rfl, rfl, rfl, rfl, rfl, trivial⟩, hM⟩
        | exact ⟨rfl, (_, _, _, _), ⟨rfl, rfl, rfl, rfl, rfl, trivial⟩, hM.perm (List.Perm.swap _ _ _)⟩
  case h2 =>
    rintro ⟨g6, g5, g3, g2⟩ f w2 hM
    dsimp only at hM ⊢
    (refine R.stepU ?_; (repeat' (first | (with_reducible refine And.intro ?_ ?_) | (with_reducible intro _))); all_goals refine R.Lft.mk ?_)
    refine R.WC_cut2 (ι := Nat × Nat × Nat × Nat × Nat × Nat × Nat × Nat × Nat) (fun i => [(2, .pointer (some ⟨i.2.2.2.2.2.2.2.2, 0, none⟩)), (3, .pointer (some ⟨i.2.2.2.2.2.2.2.1, 0, none⟩)), (4, .bool false), (5, .pointer (some ⟨i.2.2.2.2.2.2.1, 0, none⟩)), (6, .pointer (some ⟨i.2.2.2.2.2.1, 0, none⟩)), (7, .pointer (some ⟨i.2.2.2.2.1, 0, none⟩)), (8, .bool (decide ((a.z + b.z).natAbs < W512))), (9, .pointer (some ⟨i.2.2.2.1, 0, none⟩)), (10, .bool (decide ((a.z - b.z).natAbs < W512))), (11, .pointer (some ⟨i.2.2.1, 0, none⟩)), (12, .bool (decide ((a.z * b.z).natAbs < W512))), (13, .pointer (some ⟨i.2.1, 0, none⟩)), (14, .bool (decide ((a.z + b.z).natAbs < W512))), (15, .pointer (some ⟨i.1, 0, none⟩)), (16, .bool (decide ((a.z - b.z).natAbs < W512)))])
      (fun i w2 => R.Own [] w w2 [.blk i.1 65 (cS (resZ (a.z - b.z))), .blk i.2.1 65 (cS (resZ (a.z + b.z))), .blk i.2.2.1 65 (cS (resZ (a.z * b.z))), .blk i.2.2.2.1 65 (cS (resZ (a.z - b.z))), .blk i.2.2.2.2.1 65 (cS (resZ (a.z + b.z))), .blk i.2.2.2.2.2.1 65 (cS (sgn b.z)), .blk i.2.2.2.2.2.2.1 65 (cS (sgn a.z)), .blk i.2.2.2.2.2.2.2.1 65 (cS b), .blk i.2.2.2.2.2.2.2.2 65 (cS a)]) ?h3 ?h4
    case h3 =>
      refine R.WC_planF (.q 0 (.q 1 (.f 2 7 (.f 3 7 (.q 4 (.q 5 (.q 6 (.e 7 (.e 8 (.q 9 .nil)))))) (.e 3 (.q 4 (.q 5 (.q 6 (.e 8 (.q 9 .nil))))))) (.e 2 (.e 3 (.q 4 (.q 5 (.q 6 (.e 8 (.q 9 .nil)))))))))) R.mixed (by decide +kernel) R.ohm ?_
      (refine R.stepU ?_; (repeat' (first | (with_reducible refine And.intro ?_ ?_) | (with_reducible intro _))); all_goals refine R.Lft.mk ?_)
      all_goals
        rename_i hM
        rw [n1, n2] at hM
        exact ⟨rfl, (_, _, _, _, _, _, _, _, _), ⟨rfl, rfl, rfl, rfl, rfl, rfl, rfl, rfl, rfl, rfl, rfl, rfl, R.viaB rfl (by rw [n1]), rfl, R.viaB rfl (by rw [n2]), trivial⟩, hM⟩
    case h4 =>
      rintro ⟨g15, g13, g11, g9, g7, g6, g5, g3, g2⟩ f w2 hM
      dsimp only at hM ⊢
      (refine R.stepU ?_; (repeat' (first | (with_reducible refine And.intro ?_ ?_) | (with_reducible intro _))); all_goals refine R.Lft.mk ?_)
      refine R.WC_planX [(0, false), (1, false), (2, false), (3, false), (4, false), (5, false), (6, false), (7, false), (8, false), (9, false), (10, false), (11, false), (12, false), (13, false), (14, false), (15, false), (16, false), (17, false), (18, false), (19, false), (20, false), (21, false), (22, false), (23, false), (24, false), (25, false), (26, false), (27, false), (28, false), (29, false), (30, false), (32, false), (33, false), (31, true), (34, true), (35, false), (36, false), (37, false), (38, false), (40, false), (39, true), (41, true), (42, false), (43, false), (44, false), (45, false), (47, false), (46, true), (48, false), (49, false)] R.mixed (by decide +kernel) R.ohm ?_
      (refine R.stepU ?_; (repeat' (first | (with_reducible refine And.intro ?_ ?_) | (with_reducible intro _))); all_goals refine R.Lft.mk ?_; (all_goals (try (exact ⟨rfl, R.Own.below (by assumption)⟩))))
      all_goals first
        | exact absurd rfl (by assumption)
        | exact absurd n4 (by assumption)
        | exact absurd (n5.symm.trans (by assumption)) (by decide)
        | exact absurd (n6.symm.trans (by assumption)) (by decide)
        | exact absurd (n7.symm.trans (by assumption)) (by decide)
        | exact absurd (sd_back (a := a) (b := b) (by assumption)).1 (by assumption)
        | exact absurd (sd_back (a := a) (b := b) (by assumption)).2 (by assumption)
        | (exfalso; have h := (sd_back (a := a) (b := b) (by assumption)).1; simp_all; done)
set_option maxRecDepth 100000 in
theorem walk_SignAdds {H : Type} {enc : TypeId × Value → H} (W : World) (base : Nat) (args : Array Value) (ds : List (DataW H)) (ps : List MemPlace) (hA : DataW.TrodAll enc Try.prog W 0 (fun _ => true) true [65, 65] args.toList ds ps)
    (hval : ∀ (j : Nat) t v, #[65, 65][j]? = some t → args[j]? = some v → Value.okWide Try.prog W .any base t v) :
    Calls Try.prog 17 args W fun e W' => e = .returned (.bool true) ∧ Below W.heap.size W W' := by
  obtain ⟨v0, v1, d0, d1, p0, p1, rfl, rfl, rfl, h0, h1⟩ := trodAll_two hA
  obtain ⟨z0, q0, g0, a0, b0⟩ := R.open_arg (hval 0 65 v0 rfl rfl) h0
  obtain ⟨z1, q1, g1, a1, b1⟩ := R.open_arg (hval 1 65 v1 rfl rfl) h1
  obtain rfl := a0 (by kernel_rfl)
  obtain rfl := a1 (by kernel_rfl)
  exact signAdds_any z0 z1 W
end Go.Proofs.Ytalaffabcnccgaa
