/- Package roads: a road added to none; the laws' own example. -/
import Derived.Test.YtmmfndmfibbhcaaRoads8
namespace Go.Proofs.Ytmmfndmfibbhcaa
open Go.RowKit
open R (In64 InU64 lo64 nth)
theorem errR_v {x y : Road} (h : vR y = vR x) (hy : WL y) (hx : WL x) : errR y = errR x := by
  obtain ⟨r, ⟨pA, pn, pc, pL⟩, ⟨qA, qn, qc, qL⟩, b⟩ := x
  obtain ⟨r2, ⟨pA2, pn2, pc2, pL2⟩, ⟨qA2, qn2, qc2, qL2⟩, b2⟩ := y
  unfold vR at h
  injection h with h1 h2 h3 h4
  obtain ⟨hy1, hy2⟩ := hy
  obtain ⟨hx1, hx2⟩ := hx
  dsimp only at h1 h2 h3 h4 hy1 hy2 hx1 hx2
  subst h1 h2 h3 h4 hy1 hy2 hx1 hx2
  rfl
set_option maxHeartbeats 2000000 in
theorem add_nil (x : Road) (w : World) (hx : GRoad w x) (he : errR x = 0) : Calls Try.prog 61 #[.slice none 0 0, .agg (cRoad x).toArray] w fun e w' => ∃ A1 c1 y, vR y = vR x ∧ WL y ∧ e = .returned (.tuple #[.slice A1 1 c1, .int .i64 0]) ∧ R.Own [] w w' (.row A1 1 c1 101 4 ([y].flatMap cRoad) :: nests [y]) := by
  have hM := R.Own.start [] w
  have hok := errR_ok he
  have hA : R.Inp [] w none 0 4 (([] : List Road).flatMap cRoad) := R.Own.inp (R.Own.nil hM 101 4) (.head _)
  have hG0 : ∀ z ∈ ([] : List Road), GRoad w z := fun z hz => by cases hz
  have e0 : errAll [] = 0 := by
    rw [errAll_5 (by decide) (fun j hj => absurd hj (Nat.not_lt_zero _)) (fun j hj => absurd hj (Nat.not_lt_zero _))]
    rfl
  refine R.calls_of_WC (fn := Try.f61) Try.func61 rfl Try.ntmps61 (Nat.le_of_ble_eq_true rfl) ?_
  (refine R.stepH ?_; (repeat' (first | (with_reducible refine And.intro ?_ ?_) | (with_reducible intro _))); all_goals refine R.Lft.mk ?_)
  refine R.WC_planX [(0, false), (2, false), (1, true), (3, true), (4, true), (5, true), (6, false)] R.mixed (by decide +kernel) R.ohm ?_
  (refine R.stepH ?_; (repeat' (first | (with_reducible refine And.intro ?_ ?_) | (with_reducible intro _))); all_goals refine R.Lft.mk ?_)
  refine R.WO_call1 rfl rfl R.vv ?_
  refine (rcheck_any x _ (GRoad.now R.ohm hx)).mono ?_
  rintro _ w4 ⟨rfl, hb⟩
  have hM := R.Own.call R.ohm hb
  refine ⟨_, rfl, ?_⟩
  rw [he]
  (refine R.stepH ?_; (repeat' (first | (with_reducible refine And.intro ?_ ?_) | (with_reducible intro _))); all_goals refine R.Lft.mk ?_)
  rename_i A9 c9 _ hM
  refine R.WO_call1 rfl rfl R.vv ?_
  refine (or_any A9 2 c9 [0, 0] _ (R.Own.inp hM (.head _)) rfl (by omega)).mono ?_
  rintro _ w5 ⟨rfl, hb⟩
  have hM := R.Own.call hM hb
  refine ⟨_, rfl, R.Own.tl hM, ?_⟩
  rw [show orI [0, 0] = 0 from rfl]
  (refine R.stepH ?_; (repeat' (first | (with_reducible refine And.intro ?_ ?_) | (with_reducible intro _))); all_goals refine R.Lft.mk ?_)
  have hp0 : posOf (ids []) x.rank = 0 := rfl
  refine R.WO_call2 rfl rfl R.vv R.vv ?_
  refine (at_any none 0 0 [] x.rank _ (R.Own.inpIn R.ohm hA) rfl (by omega) (fun j hj => absurd hj (Nat.not_lt_zero _))).mono ?_
  rintro _ w6 ⟨rfl, hb⟩
  have hM := R.Own.call R.ohm hb
  refine ⟨_, rfl, ?_⟩
  rw [hp0, show decide (x.rank ∈ ids []) = false from rfl]
  (refine R.stepH ?_; (repeat' (first | (with_reducible refine And.intro ?_ ?_) | (with_reducible intro _))); all_goals refine R.Lft.mk ?_)
  have hM := R.dr (.row A9 _ _ _ _ _) hM
  refine R.WC_planX [(0, false), (2, false), (3, false), (1, true), (4, true), (5, true), (6, true), (7, false)] R.mixed (by decide +kernel) R.ohm ?_
  (refine R.stepH ?_; (repeat' (first | (with_reducible refine And.intro ?_ ?_) | (with_reducible intro _))); all_goals refine R.Lft.mk ?_)
  refine R.WO_call1 rfl rfl R.vv ?_
  refine (allc_any none 0 0 [] _ (R.Own.inpIn R.ohm hA) rfl (by omega) (fun z hz => by cases hz) (fun z hz => by cases hz)).mono ?_
  rintro _ w7 ⟨A1, c1, M, rfl, hMl, -, -, hO⟩
  obtain rfl : M = [] := List.eq_nil_of_length_eq_zero hMl
  have hM := R.Own.giveN R.ohm hO
  simp only [List.cons_append, List.nil_append, nests, List.flatMap_nil] at hM
  refine ⟨_, rfl, R.Own.tl (R.Own.swap hM), ?_⟩
  (refine R.stepH ?_; (repeat' (first | (with_reducible refine And.intro ?_ ?_) | (with_reducible intro _))); all_goals refine R.Lft.mk ?_)
  refine R.WO_call1 rfl rfl R.vv ?_
  refine (copied_any x _ (GRoad.now R.ohm hx) ⟨by omega, by omega⟩).mono ?_
  rintro _ w8 ⟨y, hyv, hyw, rfl, hO2⟩
  have hM := R.Own.giveN R.ohm hO2
  simp only [List.cons_append, List.nil_append] at hM
  refine ⟨_, rfl, ?_⟩
  (refine R.stepH ?_; (repeat' (first | (with_reducible refine And.intro ?_ ?_) | (with_reducible intro _))); all_goals refine R.Lft.mk ?_)
  rename_i B d _ hM
  have hM := R.pk (r := .row B 1 d _ _ _) (R.pk (r := .row A1 _ _ _ _ _) hM)
  refine R.WO_call3 rfl rfl R.vv R.vv R.vv ?_
  refine (insertR_end (M := []) (by omega) hM).mono ?_
  rintro _ w9 ⟨A2, c2, rfl, hM⟩
  have hM : R.Own [] w w9 (.row A2 1 c2 101 4 ([y].flatMap cRoad) :: .blk _ 101 (cRoad x) :: nest y) := hM
  refine ⟨_, rfl, ?_⟩
  (refine R.stepH ?_; (repeat' (first | (with_reducible refine And.intro ?_ ?_) | (with_reducible intro _))); all_goals refine R.Lft.mk ?_)
  have hGy : ∀ z ∈ [y], GRoad w9 z := fun z hz => by
    rw [List.mem_singleton.1 hz]
    exact GRoad.of hx hyv hyw hM fun r hr => .tail _ (.tail _ hr)
  have e1 : errAll [y] = 0 := by
    have hy0 : errR y = 0 := by rw [errR_v hyv hyw ⟨hx.2.1.2.1, hx.2.2.1.2.1⟩, he]
    have hyk := errR_ok hy0
    rw [errAll_5 (by simp) (fun j hj => by rw [show j = 0 by simpa using hj]; exact hy0) (fun j hj => by simp at hj), if_neg]
    simp only [lineN]
    omega
  refine R.WO_call1 rfl rfl R.vv ?_
  refine (all_any A2 1 c2 [y] _ (R.Own.inp R.ohm (.head _)) rfl (by omega) hGy).mono ?_
  rintro _ w10 ⟨rfl, hb⟩
  have hM := R.Own.call R.ohm hb
  refine ⟨_, rfl, ?_⟩
  rw [e1]
  (refine R.stepH ?_; (repeat' (first | (with_reducible refine And.intro ?_ ?_) | (with_reducible intro _))); all_goals refine R.Lft.mk ?_)
  exact ⟨A2, c2, y, hyv, hyw, rfl, by rw [nests_one]; exact R.Own.tl2 hM⟩
theorem twin_awake : ¬ TwinP [⟨0, 0⟩, ⟨1, 0⟩] := by
  rintro ⟨k, hk, he⟩
  have hk : k + 1 < 2 := hk
  obtain rfl : k = 0 := by omega
  have he : (⟨1, 0⟩ : Pt) = ⟨0, 0⟩ := he
  cases he
set_option maxRecDepth 4000 in
set_option maxHeartbeats 2000000 in
theorem awake11 (w : World) : Calls Try.prog 60 #[] w fun e w' => e = .returned (.bool true) ∧ Below w.heap.size w w' := by
  have hM := R.Own.start [] w
  refine R.calls_of_WC (fn := Try.f60) Try.func60 rfl Try.ntmps60 (Nat.le_of_ble_eq_true rfl) ?_
  (refine R.stepH ?_; (repeat' (first | (with_reducible refine And.intro ?_ ?_) | (with_reducible intro _))); all_goals refine R.Lft.mk ?_)
  rename_i Ap cp _ _ Aq cq w1 hM
  have hM : R.Own [] w w1 [.row Aq 1 cq 3 1 (([7] : List Int).flatMap R.cI), .row Ap 2 cp 112 2 (([⟨0, 0⟩, ⟨1, 0⟩] : List Pt).flatMap cPt)] := hM
  have hx : GRoad w1 ⟨3, ⟨Ap, 2, cp, [⟨0, 0⟩, ⟨1, 0⟩]⟩, ⟨Aq, 1, cq, [7]⟩, false⟩ := by
    refine ⟨(by decide : (Lit.int .i64 3).wf = true), ⟨R.Own.inp hM (.tail _ (.head _)), rfl, cap_of hM (.tail _ (.head _)), ?_⟩, ⟨R.Own.inp hM (.head _), rfl, cap_of hM (.head _), ?_⟩, trivial⟩
    · intro p hp
      rcases List.mem_cons.1 hp with rfl | hp
      · exact ⟨by decide, by decide⟩
      · rw [List.mem_singleton.1 hp]
        exact ⟨by decide, by decide⟩
    · intro v hv
      rw [List.mem_singleton.1 hv]
      exact (by decide : (Lit.int .i64 7).wf = true)
  have hx0 : errR ⟨3, ⟨Ap, 2, cp, [⟨0, 0⟩, ⟨1, 0⟩]⟩, ⟨Aq, 1, cq, [7]⟩, false⟩ = 0 := errR_0 (by dsimp only; omega) (by rfl) (twinB_f twin_awake) (by rfl)
  refine R.WO_call2 rfl rfl R.vv R.vv ?_
  refine (add_nil ⟨3, ⟨Ap, 2, cp, [⟨0, 0⟩, ⟨1, 0⟩]⟩, ⟨Aq, 1, cq, [7]⟩, false⟩ w1 hx hx0).mono ?_
  rintro _ w2 ⟨A2, c2, y, hyv, hyw, rfl, hO⟩
  have hM := R.Own.giveN hM hO
  simp only [List.cons_append, List.nil_append] at hM
  have hy0 : errR y = 0 := by rw [errR_v hyv hyw ⟨rfl, rfl⟩, hx0]
  have hyk := errR_ok hy0
  have hGy : ∀ z ∈ [y], GRoad w2 z := fun z hz => by
    rw [List.mem_singleton.1 hz]
    exact GRoad.of hx hyv hyw hM fun r hr => .tail _ (.tail _ (.tail _ (by rw [nests_one]; exact hr)))
  have e1 : errAll [y] = 0 := by
    rw [errAll_5 (by simp) (fun j hj => by rw [show j = 0 by simpa using hj]; exact hy0) (fun j hj => by simp at hj), if_neg]
    simp only [lineN]
    omega
  refine ⟨_, rfl, ?_⟩
  (refine R.stepH ?_; (repeat' (first | (with_reducible refine And.intro ?_ ?_) | (with_reducible intro _))); all_goals refine R.Lft.mk ?_)
  refine R.WO_call1 rfl rfl R.vv ?_
  refine (strips_any A2 1 c2 [y] _ (R.Own.inp R.ohm (.tail _ (.tail _ (.head _)))) rfl (by omega) hGy).mono ?_
  rintro _ w3 ⟨A3, c3, S, hS, rfl, hG3⟩
  rw [if_pos e1] at hS
  subst hS
  have hM := R.Own.give hM hG3
  unfold vR at hyv
  injection hyv with hv1 hv2 hv3 hv4
  have hqn : y.q.n = 1 := by rw [hyw.2, hv3]; rfl
  have hsv : stripsV [y] = [stripAt y 0] := by
    unfold stripsV stripsR
    rw [List.flatMap_cons, hqn]
    rfl
  rw [hsv, show [stripAt y 0].length = 1 from rfl] at hM ⊢
  have hw7 : (stripAt y 0).weight = 7 := by
    show nth y.q.L 0 = 7
    rw [hv3]
    rfl
  have hr3 : (stripAt y 0).road = 3 := hv1
  refine ⟨_, rfl, ?_⟩
  rw [e1]
  (refine R.stepH ?_; (repeat' (first | (with_reducible refine And.intro ?_ ?_) | (with_reducible intro _))); all_goals refine R.Lft.mk ?_)
  all_goals first
    | (exfalso
       rename_i hh
       exact hh hw7)
    | (exfalso
       rename_i hh
       exact hh hr3)
    | skip
  rename_i Az cz w4 hM
  have hM : R.Own [] w w4 (.row Az 1 cz 112 2 (([⟨0, 0⟩] : List Pt).flatMap cPt) :: _) := hM
  have hz : GRoad w4 ⟨1, ⟨Az, 1, cz, [⟨0, 0⟩]⟩, ⟨none, 0, 0, []⟩, false⟩ := by
    refine ⟨(by decide : (Lit.int .i64 1).wf = true), ⟨R.Own.inp hM (.head _), rfl, cap_of hM (.head _), ?_⟩, ⟨R.Own.inp (R.Own.nil hM 3 1) (.head _), rfl, ⟨Nat.le_refl _, Nat.zero_le _⟩, fun v hv => by cases hv⟩, trivial⟩
    intro p hp
    rw [List.mem_singleton.1 hp]
    exact ⟨(by decide : (Lit.int .i64 0).wf = true), (by decide : (Lit.int .i64 0).wf = true)⟩
  refine R.WO_call1 rfl rfl R.vv ?_
  refine (rcheck_any ⟨1, ⟨Az, 1, cz, [⟨0, 0⟩]⟩, ⟨none, 0, 0, []⟩, false⟩ w4 hz).mono ?_
  rintro _ w5 ⟨rfl, hb⟩
  have hM := R.Own.call hM hb
  refine ⟨_, rfl, ?_⟩
  rw [errR_1 (by dsimp only; omega)]
  (refine R.stepH ?_; (repeat' (first | (with_reducible refine And.intro ?_ ?_) | (with_reducible intro _))); all_goals refine R.Lft.mk ?_; (all_goals (try (exact ⟨rfl, R.Own.below (by assumption)⟩))))
instance con_awake11 : R.ConB Try.prog 60 #[] Unit (fun _ _ => True) (fun _ => .bool true) := ⟨fun _ w _ => awake11 w⟩
end Go.Proofs.Ytmmfndmfibbhcaa
