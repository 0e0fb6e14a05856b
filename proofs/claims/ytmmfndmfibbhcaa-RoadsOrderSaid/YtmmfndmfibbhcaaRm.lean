/- The law RoadsOrder: the walk. -/
import Derived.Test.YtmmfndmfibbhcaaRl
namespace Go.Proofs.Ytmmfndmfibbhcaa
open Go.ChangeShapes Go.WideShapes Go.ChangeAt Go.RowKit
open R (In64 InU64 lo64 nth)
section
variable (A : Option Addr) (n c : Nat) (L : List Road) (x y : Road) (w : World) (hA : R.Inp [] w A n 4 (L.flatMap cRoad)) (hn : n = L.length) (hbn : n ≤ 9223372036854775807) (hG : ∀ x ∈ L, GRoad w x) (hx : GRoad w x) (hy : GRoad w y)
include hA hn hbn hG hx hy
set_option maxHeartbeats 4000000 in
theorem roadsOrder_any : Calls Try.prog 13 #[.slice A n c, .agg (cRoad x).toArray, .agg (cRoad y).toArray] w fun e w' => e = .returned (.bool true) ∧ Below w.heap.size w w' := by
  have hM := R.Own.start [] w
  refine R.calls_of_WC (fn := Try.f13) Try.func13 rfl Try.ntmps13 (Nat.le_of_ble_eq_true rfl) ?_
  (refine R.stepH ?_; (repeat' (first | (with_reducible refine And.intro ?_ ?_) | (with_reducible intro _))); all_goals refine R.Lft.mk ?_)
  refine R.WO_call1 rfl rfl R.vv ?_
  refine (light_any A n c L _ (R.Own.inpIn R.ohm hA) hn hbn fun z hz => GRoad.now R.ohm (hG z hz)).mono ?_
  rintro _ w3 ⟨b1, rfl, hw3, h1⟩
  subst hw3
  refine ⟨_, rfl, ?_⟩
  cases b1
  · (refine R.stepH ?_; (repeat' (first | (with_reducible refine And.intro ?_ ?_) | (with_reducible intro _))); all_goals refine R.Lft.mk ?_; (all_goals (try (exact ⟨rfl, R.Own.below (by assumption)⟩))))
  obtain ⟨hl1, hs1⟩ := h1 rfl
  (refine R.stepH ?_; (repeat' (first | (with_reducible refine And.intro ?_ ?_) | (with_reducible intro _))); all_goals refine R.Lft.mk ?_)
  rename_i B d w4 hM
  have hGxy : ∀ z ∈ [x, y], GRoad w4 z := fun z hz => by
    rcases List.mem_cons.1 hz with rfl | hz
    · exact GRoad.now hM hx
    · rw [List.mem_singleton.1 hz]
      exact GRoad.now hM hy
  refine R.WO_call1 rfl rfl R.vv ?_
  refine (light_any B 2 d [x, y] _ (R.Own.inp hM (.head _)) rfl (by omega) hGxy).mono ?_
  rintro _ w5 ⟨b2, rfl, hw5, h2⟩
  subst hw5
  refine ⟨_, rfl, ?_⟩
  cases b2
  · (refine R.stepH ?_; (repeat' (first | (with_reducible refine And.intro ?_ ?_) | (with_reducible intro _))); all_goals refine R.Lft.mk ?_; (all_goals (try (exact ⟨rfl, R.Own.below (by assumption)⟩))))
  obtain ⟨hl2, hs2⟩ := h2 rfl
  have hsx := hs2 x (.head _)
  have hsy := hs2 y (.tail _ (.head _))
  have hM := R.dr (.row B _ _ _ _ _) hM
  by_cases hxy : x.rank = y.rank
  · (refine R.stepH ?_; (repeat' (first | (with_reducible refine And.intro ?_ ?_) | (with_reducible intro _))); all_goals refine R.Lft.mk ?_; (all_goals (try (exact ⟨rfl, R.Own.below (by assumption)⟩))))
  have hsL : ∀ z ∈ L, z.p.n ≤ 1000000000 ∧ z.q.n ≤ 1000000000 := fun z hz => by have := hs1 z hz; omega
  have hokL := okL_of hG
  (refine R.stepH ?_; (repeat' (first | (with_reducible refine And.intro ?_ ?_) | (with_reducible intro _))); all_goals refine R.Lft.mk ?_)
  refine R.WO_call2 rfl rfl R.vv R.vv ?_
  refine (add_any A n c L x _ (R.Own.inpIn R.ohm hA) hn (by omega) (fun z hz => GRoad.now R.ohm (hG z hz)) (GRoad.now R.ohm hx) hsL).mono ?_
  rintro _ w6 ⟨A1, c1, M1, hv1, hk1, rfl, hO1⟩
  have hM := R.Own.giveN R.ohm hO1
  simp only [List.cons_append, List.nil_append] at hM
  refine ⟨_, rfl, ?_⟩
  (refine R.stepH ?_; (repeat' (first | (with_reducible refine And.intro ?_ ?_) | (with_reducible intro _))); all_goals refine R.Lft.mk ?_)
  refine R.WO_call2 rfl rfl R.vv R.vv ?_
  refine (add_any A n c L y _ (R.Own.inpIn R.ohm hA) hn (by omega) (fun z hz => GRoad.now R.ohm (hG z hz)) (GRoad.now R.ohm hy) hsL).mono ?_
  rintro _ w7 ⟨A2, c2, M2, hv2, hk2, rfl, hO2⟩
  have hM := R.Own.giveN R.ohm hO2
  simp only [List.cons_append] at hM
  refine ⟨_, rfl, ?_⟩
  by_cases he1 : errAdd L x ≠ 0
  · (refine R.stepH ?_; (repeat' (first | (with_reducible refine And.intro ?_ ?_) | (with_reducible intro _))); all_goals refine R.Lft.mk ?_; (all_goals (try (exact ⟨rfl, R.Own.below (by assumption)⟩))))
  by_cases he2 : errAdd L y ≠ 0
  · (refine R.stepH ?_; (repeat' (first | (with_reducible refine And.intro ?_ ?_) | (with_reducible intro _))); all_goals refine R.Lft.mk ?_; (all_goals (try (exact ⟨rfl, R.Own.below (by assumption)⟩))))
  have he1 := Decidable.not_not.1 he1
  have he2 := Decidable.not_not.1 he2
  rw [if_pos he1] at hv1
  rw [if_pos he2] at hv2
  obtain ⟨a1, a2, a3, a4⟩ := errAdd_ok he1
  obtain ⟨b1, b2, b3, b4⟩ := errAdd_ok he2
  obtain ⟨_, _, hr, _⟩ := errAll_ok a1
  have hlx := insR_len hr a3
  have hly := insR_len hr b3
  have hm1 := (nth_map hv1).1
  have hm2 := (nth_map hv2).1
  have wx : WL x := ⟨hx.2.1.2.1, hx.2.2.1.2.1⟩
  have wy : WL y := ⟨hy.2.1.2.1, hy.2.2.1.2.1⟩
  have hkx : okL (insR L x) := okL_ins hokL wx
  have hky : okL (insR L y) := okL_ins hokL wy
  have hGx : ∀ z ∈ insR L x, GRoad w z := fun z hz => by
    rcases insR_mem hz with rfl | h
    · exact hx
    · exact hG z h
  have hGy : ∀ z ∈ insR L y, GRoad w z := fun z hz => by
    rcases insR_mem hz with rfl | h
    · exact hy
    · exact hG z h
  have hs1' : ∀ z ∈ M1, z.p.n ≤ 1000000000 ∧ z.q.n ≤ 1000000000 := small_v hv1 hk1 hkx fun z hz => by
    rcases insR_mem hz with rfl | h
    · omega
    · exact hsL z h
  have hs2' : ∀ z ∈ M2, z.p.n ≤ 1000000000 ∧ z.q.n ≤ 1000000000 := small_v hv2 hk2 hky fun z hz => by
    rcases insR_mem hz with rfl | h
    · omega
    · exact hsL z h
  have eg : errAdd M1 y = errAdd M2 x := by rw [errAdd_v hv1 hk1 hkx wy, errAdd_v hv2 hk2 hky wx, order_law he1 he2 hxy]
  rw [he1, he2]
  (refine R.stepH ?_; (repeat' (first | (with_reducible refine And.intro ?_ ?_) | (with_reducible intro _))); all_goals refine R.Lft.mk ?_)
  have hGM1 : ∀ z ∈ M1, GRoad w7 z := GRoads.of hGx hv1 hk1 hM (fun r hr => by simp [hr])
  have hGM2 : ∀ z ∈ M2, GRoad w7 z := GRoads.of hGy hv2 hk2 hM (fun r hr => by simp [hr])
  refine R.WO_call2 rfl rfl R.vv R.vv ?_
  refine (add_any A1 M1.length c1 M1 y w7 (R.Own.inp (c := c1) (e := 101) hM (by simp)) rfl (by omega) hGM1 (GRoad.now hM hy) hs1').mono ?_
  rintro _ w9 ⟨A3, c3, M3, hv3, hk3, rfl, hO3⟩
  have hM := R.Own.giveN hM hO3
  refine ⟨_, rfl, ?_⟩
  (refine R.stepH ?_; (repeat' (first | (with_reducible refine And.intro ?_ ?_) | (with_reducible intro _))); all_goals refine R.Lft.mk ?_)
  have hGM2 : ∀ z ∈ M2, GRoad w9 z := GRoads.of hGy hv2 hk2 hM (fun r hr => by simp [hr])
  refine R.WO_call2 rfl rfl R.vv R.vv ?_
  refine (add_any A2 M2.length c2 M2 x w9 (R.Own.inp (c := c2) (e := 101) hM (by simp)) rfl (by omega) hGM2 (GRoad.now hM hx) hs2').mono ?_
  rintro _ w11 ⟨A4, c4, M4, hv4, hk4, rfl, hO4⟩
  have hM := R.Own.giveN hM hO4
  refine ⟨_, rfl, ?_⟩
  rw [← eg] at hv4 ⊢
  have hv5 : M3.map vR = M4.map vR := by
    rw [hv3, hv4]
    by_cases h0 : errAdd M1 y = 0
    · rw [if_pos h0, if_pos h0, insR_v hv1 y, insR_v hv2 x, insR_comm hxy]
    · rw [if_neg h0, if_neg h0]
  have hGI1 : ∀ z ∈ (if errAdd M1 y = 0 then insR M1 y else []), GRoad w9 z := fun z hz => by
    split at hz
    · rcases insR_mem hz with rfl | h
      · exact GRoad.now (l := []) (R.Own.nul ‹R.Own [] w w9 _›) hy
      · exact GRoads.of hGx hv1 hk1 ‹R.Own [] w w9 _› (fun r hr => by simp [hr]) z h
    · cases hz
  have hGI2 : ∀ z ∈ (if errAdd M1 y = 0 then insR M2 x else []), GRoad w9 z := fun z hz => by
    split at hz
    · rcases insR_mem hz with rfl | h
      · exact GRoad.now (l := []) (R.Own.nul ‹R.Own [] w w9 _›) hx
      · exact hGM2 z h
    · cases hz
  have hl3 : M3.length ≤ 100000 := by
    rw [(nth_map hv3).1]
    split
    · rename_i h0
      obtain ⟨q1, q2, q3, q4⟩ := errAdd_ok h0
      rw [insR_len (errAll_ok q1).2.2.1 q3]
      omega
    · exact Nat.zero_le _
  (refine R.stepH ?_; (repeat' (first | (with_reducible refine And.intro ?_ ?_) | (with_reducible intro _))); all_goals refine R.Lft.mk ?_)
  refine R.WO_call2 rfl rfl R.vv R.vv ?_
  refine (same11_any A3 A4 M3.length c3 M4.length c4 M3 M4 _ (R.Own.inp (c := c3) (e := 101) hM (by simp)) (R.Own.inp (c := c4) (e := 101) hM (by simp)) rfl rfl (by omega) (GRoads.of hGI1 hv3 hk3 hM (fun r hr => by simp [hr])) (GRoads.of hGI2 hv4 hk4 hM (fun r hr => by simp [hr]))).mono ?_
  rintro _ w12 ⟨rfl, hb12⟩
  have hM := R.Own.call hM hb12
  refine ⟨_, rfl, ?_⟩
  rw [show eqRs M3 M4 = true from decide_eq_true hv5]
  (refine R.stepH ?_; (repeat' (first | (with_reducible refine And.intro ?_ ?_) | (with_reducible intro _))); all_goals refine R.Lft.mk ?_; (all_goals (try (exact ⟨rfl, R.Own.below (by assumption)⟩))))
end
set_option maxRecDepth 100000 in
theorem walk_RoadsOrder {H : Type} {enc : TypeId × Value → H} (W : World) (base : Nat) (args : Array Value) (ds : List (DataW H)) (ps : List MemPlace) (hA : DataW.TrodAll enc Try.prog W 0 (fun _ => true) true [70, 101, 101] args.toList ds ps)
    (hval : ∀ (j : Nat) t v, #[70, 101, 101][j]? = some t → args[j]? = some v → Value.okWide Try.prog W .any base t v) :
    Calls Try.prog 13 args W fun e W' => e = .returned (.bool true) ∧ Below W.heap.size W W' := by
  obtain ⟨v0, v1, v2, d0, d1, d2, p0, p1, p2, rfl, rfl, rfl, h0, h1, h2⟩ := trodAll_three hA
  obtain ⟨z0, q0, g0, a0, b0⟩ := R.open_arg (hval 0 70 v0 rfl rfl) h0
  obtain ⟨z1, q1, g1, a1, b1⟩ := R.open_arg (hval 1 101 v1 rfl rfl) h1
  obtain ⟨z2, q2, g2, a2, b2⟩ := R.open_arg (hval 2 101 v2 rfl rfl) h2
  obtain rfl := b0 (by kernel_rfl) _ rfl
  obtain rfl := a1 (by kernel_rfl)
  obtain rfl := a2 (by kernel_rfl)
  exact roadsOrder_any z0.A z0.n z0.c z0.L z1 z2 W g0.1 g0.2.1 (by have := g0.2.2.1; omega) g0.2.2.2 g1 g2
end Go.Proofs.Ytmmfndmfibbhcaa
