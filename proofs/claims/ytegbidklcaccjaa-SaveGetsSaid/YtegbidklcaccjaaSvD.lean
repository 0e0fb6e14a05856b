/- Package save: a road that is read. -/
import Derived.Test.YtegbidklcaccjaaSvC
namespace Go.Proofs.Ytegbidklcaccjaa
open Go.RowKit
open R (In64 InU64 lo64 nth)
section
variable {F : List Nat} {W w : World} {l : List R.Res} {g : Nat} {A : Option Addr} {n c : Nat} {s : Rds} {lo hi : Int}
set_option maxHeartbeats 2000000 in
theorem road_own (hR : Rdr F W A n c s) (hM : R.Own F W w (.blk g 101 [.slice A n c, .bool s.2] :: l)) :
    Calls Try.prog 59 #[.pointer (some ⟨g, 0, none⟩)] w fun e w' => ∃ y : Road, vR y = (rRoad s).1 ∧ WL y ∧ e = .returned (.agg (cRoad y).toArray) ∧ ∃ A' n' c', Rdr F W A' n' c' (rRoad s).2 ∧ R.Own F W w' (.blk g 101 [.slice A' n' c', .bool (rRoad s).2.2] :: (nest y ++ l)) := by
  obtain ⟨a, ha⟩ : ∃ a, rAny s = a := ⟨_, rfl⟩
  obtain ⟨b, hbb⟩ : ∃ b, rN 0 1 a.2 = b := ⟨_, rfl⟩
  obtain ⟨k, hk⟩ : ∃ k, rN 0 100 b.2 = k := ⟨_, rfl⟩
  have hk1 := fun h => rN_in 0 100 b.2 h
  rw [hk] at hk1
  have e : rRoad s = (⟨a.1, (rMany rPt k.1.toNat k.2).1, (rMany rAny ((rMany rPt k.1.toNat k.2).1.length - 1) (rMany rPt k.1.toNat k.2).2).1, decide (b.1 = 1)⟩, (rMany rAny ((rMany rPt k.1.toNat k.2).1.length - 1) (rMany rPt k.1.toNat k.2).2).2) := by
    unfold rRoad
    simp only [ha, hbb, hk]
  have hl1 := rMany_len rPt k.2 k.1.toNat
  rw [e, hl1]
  clear e
  refine R.calls_of_WC (fn := Try.f59) Try.func59 rfl Try.ntmps59 (Nat.le_of_ble_eq_true rfl) ?_
  (refine R.stepH ?_; (repeat' (first | (with_reducible refine And.intro ?_ ?_) | (with_reducible intro _))); all_goals refine R.Lft.mk ?_)
  have hM := R.pk (r := .blk g _ _) R.ohm
  refine R.WO_call1 rfl rfl R.vv ?_
  refine (any_own hR hM).mono ?_
  rw [ha]
  rintro _ w3 ⟨rfl, A2, n2, c2, hR2, hM⟩
  refine ⟨_, rfl, ?_⟩
  (refine R.stepH ?_; (repeat' (first | (with_reducible refine And.intro ?_ ?_) | (with_reducible intro _))); all_goals refine R.Lft.mk ?_)
  refine R.WO_call3 rfl rfl R.vv R.vv R.vv ?_
  refine (num_own hR2 (by unfold In64; omega) (by unfold In64; omega) R.ohm).mono ?_
  rw [hbb]
  rintro _ w4 ⟨rfl, A3, n3, c3, hR3, hM⟩
  refine ⟨_, rfl, ?_⟩
  (refine R.stepH ?_; (repeat' (first | (with_reducible refine And.intro ?_ ?_) | (with_reducible intro _))); all_goals refine R.Lft.mk ?_)
  have hM := R.pk (r := .blk g _ _) R.ohm
  refine R.WO_call3 rfl rfl R.vv R.vv R.vv ?_
  refine (num_own hR3 (by unfold In64; omega) (by unfold In64; omega) R.ohm).mono ?_
  rw [hk]
  rintro _ w5 ⟨rfl, A4, n4, c4, hR4, hM⟩
  refine ⟨_, rfl, ?_⟩
  (refine R.stepH ?_; (repeat' (first | (with_reducible refine And.intro ?_ ?_) | (with_reducible intro _))); all_goals refine R.Lft.mk ?_)
  rename_i g2 _ _ _ _ _ g3 _ _ _ _ _
  have hb4 := hR4.2.2.2.2
  have hk2 := (hk1 hR3.2.2.2.2).2.2.1 (by decide)
  have hk3 := (hk1 hR3.2.2.2.2).2.2.2 (by decide)
  obtain ⟨N, hN⟩ : ∃ N, k.1.toNat = N := ⟨_, rfl⟩
  have hkN : k.1 = (N : Nat) := by omega
  rw [hN]
  rw [hkN]
  have hM := (R.Own.nil hM 145 2).swap
  refine R.WC_loop (fun s : Nat × Option Addr × Nat × Option Addr × Nat × Nat => [(0, .pointer (some ⟨g, 0, none⟩)), (2, .pointer (some ⟨g2, 0, none⟩)), (3, .pointer (some ⟨g3, 0, none⟩)), (11, .int .i64 (N : Nat)), (12, .int .i64 (s.1 : Nat))])
    (fun s w1 => s.1 ≤ N ∧ Rdr F W s.2.2.2.1 s.2.2.2.2.1 s.2.2.2.2.2 (rMany rPt s.1 k.2).2 ∧ R.Own F W w1 (.blk g 101 [.slice s.2.2.2.1 s.2.2.2.2.1 s.2.2.2.2.2, .bool (rMany rPt s.1 k.2).2.2] :: .row s.2.1 s.1 s.2.2.1 145 2 ((rMany rPt s.1 k.2).1.flatMap cPt) :: .blk g3 93 [.int .i64 a.1, .slice s.2.1 s.1 s.2.2.1, .slice none 0 0, .bool (decide (b.1 = 1))] :: .blk g2 93 [.int .i64 0, .slice none 0 0, .slice none 0 0, .bool false] :: l)) (fun s => N - s.1) ⟨(0, none, 0, A4, n4, c4), ⟨rfl, rfl, rfl, rfl, rfl, trivial⟩, Nat.zero_le _, hR4, hM⟩ ?_
  clear hM
  rintro ⟨j, A1, c1, A5, n5, c5⟩ f w6 ⟨hj, hR5, hM⟩
  dsimp only at hj hR5 hM ⊢
  have hl := rMany_len rPt k.2 j
  obtain ⟨M, hMd⟩ : ∃ M, rMany rPt j k.2 = M := ⟨_, rfl⟩
  rw [hMd] at hR5 hM hl
  by_cases hlt : j < N
  · (refine R.stepH ?_; (repeat' (first | (with_reducible refine And.intro ?_ ?_) | (with_reducible intro _))); all_goals refine R.Lft.mk ?_)
    refine R.WC_planXD2 [(0, false), (1, false), (2, false), (4, false), (3, true), (5, true), (6, false), (7, true), (8, true), (9, false), (10, true)] R.mixed (by decide +kernel) R.ohm ?_
    (refine R.stepH ?_; (repeat' (first | (with_reducible refine And.intro ?_ ?_) | (with_reducible intro _))); all_goals refine R.Lft.mk ?_)
    refine R.WO_call1 rfl rfl R.vv ?_
    refine (any_own hR5 R.ohm).mono ?_
    rintro _ w7 ⟨rfl, A6, n6, c6, hR6, hM⟩
    refine ⟨_, rfl, R.Own.tl (R.Own.tl hM), ?_⟩
    (refine R.stepH ?_; (repeat' (first | (with_reducible refine And.intro ?_ ?_) | (with_reducible intro _))); all_goals refine R.Lft.mk ?_)
    refine R.WO_call1 rfl rfl R.vv ?_
    refine (any_own hR6 R.ohm).mono ?_
    rintro _ w8 ⟨rfl, A7, n7, c7, hR7, hM⟩
    refine ⟨_, rfl, R.Own.tl (R.Own.tl hM), ?_⟩
    (refine R.stepH ?_; (repeat' (first | (with_reducible refine And.intro ?_ ?_) | (with_reducible intro _))); all_goals refine R.Lft.mk ?_)
    have hs : rMany rPt (j + 1) k.2 = (M.1 ++ [⟨(rAny M.2).1, (rAny (rAny M.2).2).1⟩], (rAny (rAny M.2).2).2) := by rw [rMany, hMd]; rfl
    rename_i A8 c8 _ _ _ hM
    refine ⟨(j + 1, A8, c8, A7, n7, c7), ⟨rfl, rfl, rfl, rfl, R.viaI rfl (by dsimp only; omega), trivial⟩, ⟨by dsimp only; omega, ?_, ?_⟩, by dsimp only; omega⟩
    · dsimp only
      rw [hs]
      exact hR7
    · dsimp only
      rw [hs]
      exact hM
  · obtain rfl : j = N := by omega
    rw [hMd]
    have hM := (R.Own.nil hM 3 1)
    (refine R.stepH ?_; (repeat' (first | (with_reducible refine And.intro ?_ ?_) | (with_reducible intro _))); all_goals refine R.Lft.mk ?_)
    refine R.WC_loop (fun s : Nat × Option Addr × Nat × Option Addr × Nat × Nat => [(0, .pointer (some ⟨g, 0, none⟩)), (2, .pointer (some ⟨g2, 0, none⟩)), (3, .pointer (some ⟨g3, 0, none⟩)), (28, .int .i64 ((j : Int) - 1)), (29, .int .i64 (s.1 : Nat))])
      (fun s w1 => s.1 ≤ j - 1 ∧ Rdr F W s.2.2.2.1 s.2.2.2.2.1 s.2.2.2.2.2 (rMany rAny s.1 M.2).2 ∧ R.Own F W w1 (.blk g 101 [.slice s.2.2.2.1 s.2.2.2.2.1 s.2.2.2.2.2, .bool (rMany rAny s.1 M.2).2.2] :: .row s.2.1 s.1 s.2.2.1 3 1 ((rMany rAny s.1 M.2).1.flatMap R.cI) :: .row A1 j c1 145 2 (M.1.flatMap cPt) :: .blk g3 93 [.int .i64 a.1, .slice A1 j c1, .slice s.2.1 s.1 s.2.2.1, .bool (decide (b.1 = 1))] :: .blk g2 93 [.int .i64 0, .slice none 0 0, .slice none 0 0, .bool false] :: l)) (fun s => j - s.1) ⟨(0, none, 0, A5, n5, c5), ⟨rfl, rfl, rfl, rfl, rfl, trivial⟩, Nat.zero_le _, hR5, R.Own.swap hM⟩ ?_
    clear hM
    rintro ⟨i, A2, c2, A6, n6, c6⟩ f w7 ⟨hi, hR6, hM⟩
    dsimp only at hi hR6 hM ⊢
    have hl2 := rMany_len rAny M.2 i
    obtain ⟨Q, hQd⟩ : ∃ Q, rMany rAny i M.2 = Q := ⟨_, rfl⟩
    rw [hQd] at hR6 hM hl2
    by_cases hlt : i < j - 1
    · (refine R.stepH ?_; (repeat' (first | (with_reducible refine And.intro ?_ ?_) | (with_reducible intro _))); all_goals refine R.Lft.mk ?_)
      refine R.WC_planXD2 [(0, false), (1, false), (2, false), (3, true), (4, true), (5, true), (6, false), (7, true)] R.mixed (by decide +kernel) R.ohm ?_
      (refine R.stepH ?_; (repeat' (first | (with_reducible refine And.intro ?_ ?_) | (with_reducible intro _))); all_goals refine R.Lft.mk ?_)
      refine R.WO_call1 rfl rfl R.vv ?_
      refine (any_own hR6 R.ohm).mono ?_
      rintro _ w8 ⟨rfl, A7, n7, c7, hR7, hM⟩
      refine ⟨_, rfl, R.Own.tl (R.Own.tl hM), ?_⟩
      (refine R.stepH ?_; (repeat' (first | (with_reducible refine And.intro ?_ ?_) | (with_reducible intro _))); all_goals refine R.Lft.mk ?_)
      have hs : rMany rAny (i + 1) M.2 = (Q.1 ++ [(rAny Q.2).1], (rAny Q.2).2) := by rw [rMany, hQd]
      rename_i A8 c8 _ _ _ hM
      refine ⟨(i + 1, A8, c8, A7, n7, c7), ⟨rfl, rfl, rfl, rfl, R.viaI rfl (by dsimp only; omega), trivial⟩, ⟨by dsimp only; omega, ?_, ?_⟩, by dsimp only; omega⟩
      · dsimp only
        rw [hs]
        exact hR7
      · dsimp only
        rw [hs]
        exact hM
    · obtain rfl : i = j - 1 := by omega
      rw [hQd]
      (refine R.stepH ?_; (repeat' (first | (with_reducible refine And.intro ?_ ?_) | (with_reducible intro _))); all_goals refine R.Lft.mk ?_)
      have hM := R.pk (r := .blk g _ _) (R.pk (r := .row A1 _ _ _ _ _) R.ohm)
      refine ⟨⟨a.1, ⟨A1, j, c1, M.1⟩, ⟨A2, j - 1, c2, Q.1⟩, decide (b.1 = 1)⟩, rfl, ⟨hl.symm, hl2.symm⟩, rfl, A6, n6, c6, hR6, ?_⟩
      exact R.Own.sub hM (.cons_cons _ (.cons_cons _ (.cons_cons _ (.cons _ (.cons _ (List.Sublist.refl _))))))
end
end Go.Proofs.Ytegbidklcaccjaa
