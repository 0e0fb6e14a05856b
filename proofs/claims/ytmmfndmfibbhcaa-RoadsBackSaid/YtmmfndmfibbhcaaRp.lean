/- The law RoadsBack: the walk. -/
import Derived.Test.YtmmfndmfibbhcaaRo
namespace Go.Proofs.Ytmmfndmfibbhcaa
open Go.ChangeShapes Go.WideShapes Go.ChangeAt Go.RowKit
open R (In64 InU64 lo64 nth)
theorem drop_ins {L : List Road} {x : Road} (hs : Rises L L.length) (ht : x.rank ∉ ids L) : dropL (insR L x) x.rank = L := by
  obtain ⟨_, h2, h3⟩ := cut_pos (ids_sorted hs) ht
  unfold dropL insR
  have f1 : (L.filter fun z => decide (z.rank < x.rank)).filter (fun z => decide (z.rank ≠ x.rank)) = L.filter fun z => decide (z.rank < x.rank) := by
    rw [List.filter_eq_self]
    intro z hz
    have := (List.mem_filter.1 hz).2
    simp at this ⊢
    omega
  have f2 : (L.filter fun z => decide (x.rank < z.rank)).filter (fun z => decide (z.rank ≠ x.rank)) = L.filter fun z => decide (x.rank < z.rank) := by
    rw [List.filter_eq_self]
    intro z hz
    have := (List.mem_filter.1 hz).2
    simp at this ⊢
    omega
  rw [List.filter_append, List.filter_cons_of_neg (by simp), f1, f2, ← h2, ← h3, List.take_append_drop]
theorem ids_self {L : List Road} {x : Road} : x.rank ∈ ids (insR L x) := List.mem_map_of_mem (List.mem_append_right _ (.head _))
theorem ins_same {L : List Road} {x z : Road} (ht : x.rank ∉ ids L) (hz : z ∈ insR L x) (he : z.rank = x.rank) : z = x := by
  rcases insR_mem hz with h | h
  · exact h
  · exact absurd (by rw [← he]; exact List.mem_map_of_mem h) ht
section
variable (A : Option Addr) (n c : Nat) (L : List Road) (x : Road) (w : World) (hA : R.Inp [] w A n 4 (L.flatMap cRoad)) (hn : n = L.length) (hbn : n ≤ 9223372036854775807) (hG : ∀ x ∈ L, GRoad w x) (hx : GRoad w x)
include hA hn hbn hG hx
set_option maxHeartbeats 4000000 in
theorem roadsBack_any : Calls Try.prog 16 #[.slice A n c, .agg (cRoad x).toArray] w fun e w' => e = .returned (.bool true) ∧ Below w.heap.size w w' := by
  have hM := R.Own.start [] w
  refine R.calls_of_WC (fn := Try.f16) Try.func16 rfl Try.ntmps16 (Nat.le_of_ble_eq_true rfl) ?_
  (refine R.stepH ?_; (repeat' (first | (with_reducible refine And.intro ?_ ?_) | (with_reducible intro _))); all_goals refine R.Lft.mk ?_)
  refine R.WO_call1 rfl rfl R.vv ?_
  refine (light_any A n c L _ (R.Own.inpIn R.ohm hA) hn hbn fun z hz => GRoad.now R.ohm (hG z hz)).mono ?_
  rintro _ w3 ⟨b1, rfl, hw3, h1⟩
  subst hw3
  refine ⟨_, rfl, ?_⟩
  cases b1
  · (refine R.stepH ?_; (repeat' (first | (with_reducible refine And.intro ?_ ?_) | (with_reducible intro _))); all_goals refine R.Lft.mk ?_; (all_goals (try (exact ⟨rfl, R.Own.below (by assumption)⟩))))
  obtain ⟨hl1, hs1⟩ := h1 rfl
  (refine R.stepH ?_; (repeat' (first | (with_reducible refine And.intro ?_ ?_) | (with_reducible intro _))); all_goals refine R.Lft.mk ?_)
  rename_i B d w4 hM
  have hGx1 : ∀ z ∈ [x], GRoad w4 z := fun z hz => by
    rw [List.mem_singleton.1 hz]
    exact GRoad.now hM hx
  refine R.WO_call1 rfl rfl R.vv ?_
  refine (light_any B 1 d [x] _ (R.Own.inp hM (.head _)) rfl (by omega) hGx1).mono ?_
  rintro _ w5 ⟨b2, rfl, hw5, h2⟩
  subst hw5
  refine ⟨_, rfl, ?_⟩
  cases b2
  · (refine R.stepH ?_; (repeat' (first | (with_reducible refine And.intro ?_ ?_) | (with_reducible intro _))); all_goals refine R.Lft.mk ?_; (all_goals (try (exact ⟨rfl, R.Own.below (by assumption)⟩))))
  obtain ⟨hl2, hs2⟩ := h2 rfl
  have hsx := hs2 x (.head _)
  have hM := R.dr (.row B _ _ _ _ _) hM
  have hsL : ∀ z ∈ L, z.p.n ≤ 1000000000 ∧ z.q.n ≤ 1000000000 := fun z hz => by have := hs1 z hz; omega
  have hokL := okL_of hG
  (refine R.stepH ?_; (repeat' (first | (with_reducible refine And.intro ?_ ?_) | (with_reducible intro _))); all_goals refine R.Lft.mk ?_)
  refine R.WO_call2 rfl rfl R.vv R.vv ?_
  refine (add_any A n c L x _ (R.Own.inpIn R.ohm hA) hn (by omega) (fun z hz => GRoad.now R.ohm (hG z hz)) (GRoad.now R.ohm hx) hsL).mono ?_
  rintro _ w6 ⟨A1, c1, M1, hv1, hk1, rfl, hO1⟩
  have hM := R.Own.giveN R.ohm hO1
  simp only [List.cons_append, List.nil_append] at hM
  refine ⟨_, rfl, ?_⟩
  by_cases he1 : errAdd L x ≠ 0
  · (refine R.stepH ?_; (repeat' (first | (with_reducible refine And.intro ?_ ?_) | (with_reducible intro _))); all_goals refine R.Lft.mk ?_; (all_goals (try (exact ⟨rfl, R.Own.below (by assumption)⟩))))
  have he1 := Decidable.not_not.1 he1
  rw [if_pos he1] at hv1
  obtain ⟨a1, a2, a3, a4⟩ := errAdd_ok he1
  obtain ⟨_, _, hr, _⟩ := errAll_ok a1
  have hlx := insR_len hr a3
  have hm1 := (nth_map hv1).1
  have wx : WL x := ⟨hx.2.1.2.1, hx.2.2.1.2.1⟩
  have hkx : okL (insR L x) := okL_ins hokL wx
  have hGx : ∀ z ∈ insR L x, GRoad w z := fun z hz => by
    rcases insR_mem hz with rfl | h
    · exact hx
    · exact hG z h
  have hs1' : ∀ z ∈ M1, z.p.n ≤ 1000000000 ∧ z.q.n ≤ 1000000000 := small_v hv1 hk1 hkx fun z hz => by
    rcases insR_mem hz with rfl | h
    · omega
    · exact hsL z h
  have em : errAll M1 = 0 := by rw [errAll_v hv1 hk1 hkx, a4]
  have hin : x.rank ∈ ids M1 := by rw [ids_v hv1]; exact ids_self
  have ed : errDrop M1 x.rank = 0 := by unfold errDrop; rw [if_neg (by omega), if_pos hin]
  rw [he1]
  (refine R.stepH ?_; (repeat' (first | (with_reducible refine And.intro ?_ ?_) | (with_reducible intro _))); all_goals refine R.Lft.mk ?_)
  have hGM1 : ∀ z ∈ M1, GRoad w6 z := GRoads.of hGx hv1 hk1 hM (fun r hr => by simp [hr])
  refine R.WO_call2 rfl rfl R.vv R.vv ?_
  refine (drop_any A1 M1.length c1 M1 x.rank w6 (R.Own.inp (c := c1) (e := 101) hM (by simp)) rfl (by omega) hGM1 hs1').mono ?_
  rintro _ w7 ⟨A2, c2, M2, hv2, hk2, rfl, hO2⟩
  have hM := R.Own.giveN hM hO2
  rw [if_pos ed] at hv2
  have hv2 : M2.map vR = L.map vR := by
    rw [hv2, show dropL M1 x.rank = M1.filter (fun z => decide (z.rank ≠ x.rank)) from rfl, filter_v (fun r => decide (r ≠ x.rank)) hv1]
    exact congrArg (List.map vR) (drop_ins hr a3)
  have hGM1 : ∀ z ∈ M1, GRoad w7 z := GRoads.of hGx hv1 hk1 hM (fun r hr => by simp [hr])
  refine ⟨_, rfl, ?_⟩
  rw [ed]
  (refine R.stepH ?_; (repeat' (first | (with_reducible refine And.intro ?_ ?_) | (with_reducible intro _))); all_goals refine R.Lft.mk ?_)
  refine R.WO_call2 rfl rfl R.vv R.vv ?_
  refine (find_any A1 M1.length c1 M1 x.rank w7 (R.Own.inp (c := c1) (e := 101) hM (by simp)) rfl (by omega) hGM1 hs1').mono ?_
  rintro _ w8 ⟨y, b, rfl, hyw, hbv, hyt, -, hO3⟩
  have hM := R.Own.giveN hM hO3
  obtain rfl : b = true := by rw [hbv]; exact decide_eq_true ⟨em, hin⟩
  obtain ⟨z, hz, hzr, hyz⟩ := hyt rfl
  have hyx : vR y = vR x := by
    have : vR z ∈ (insR L x).map vR := by rw [← hv1]; exact List.mem_map_of_mem hz
    obtain ⟨u, hu, hue⟩ := List.mem_map.1 this
    have hur : u.rank = x.rank := by
      have : u.rank = z.rank := congrArg RV.id hue
      omega
    rw [hyz, ← hue, ins_same a3 hu hur]
  refine ⟨_, rfl, ?_⟩
  (refine R.stepH ?_; (repeat' (first | (with_reducible refine And.intro ?_ ?_) | (with_reducible intro _))); all_goals refine R.Lft.mk ?_)
  rename_i w9 hM
  refine R.WO_call2 rfl rfl R.vv R.vv ?_
  refine (same11_any A2 A M2.length c2 n c M2 L w9 (R.Own.inp (c := c2) (e := 101) hM (by simp)) (R.Own.inpIn hM hA) rfl hn (by rw [(nth_map hv2).1]; omega) (GRoads.of hG hv2 hk2 hM (fun r hr => by simp [hr])) (fun z hz => GRoad.now hM (hG z hz))).mono ?_
  rintro _ w10 ⟨rfl, hb10⟩
  have hM := R.Own.call hM hb10
  refine ⟨_, rfl, ?_⟩
  rw [show eqRs M2 L = true from decide_eq_true hv2]
  (refine R.stepH ?_; (repeat' (first | (with_reducible refine And.intro ?_ ?_) | (with_reducible intro _))); all_goals refine R.Lft.mk ?_)
  have hGy : GRoad w10 y := GRoad.of hx hyx hyw hM (fun r hr => by simp [hr])
  refine R.WO_call2 rfl rfl R.vv R.vv ?_
  refine (one_any x y w10 (GRoad.now hM hx) hGy).mono ?_
  rintro _ w11 ⟨rfl, hb11⟩
  have hM := R.Own.call hM hb11
  refine ⟨_, rfl, ?_⟩
  rw [show eqR x y = true from decide_eq_true hyx.symm]
  (refine R.stepH ?_; (repeat' (first | (with_reducible refine And.intro ?_ ?_) | (with_reducible intro _))); all_goals refine R.Lft.mk ?_; (all_goals (try (exact ⟨rfl, R.Own.below (by assumption)⟩))))
end
set_option maxRecDepth 100000 in
theorem walk_RoadsBack {H : Type} {enc : TypeId × Value → H} (W : World) (base : Nat) (args : Array Value) (ds : List (DataW H)) (ps : List MemPlace) (hA : DataW.TrodAll enc Try.prog W 0 (fun _ => true) true [70, 101] args.toList ds ps)
    (hval : ∀ (j : Nat) t v, #[70, 101][j]? = some t → args[j]? = some v → Value.okWide Try.prog W .any base t v) :
    Calls Try.prog 16 args W fun e W' => e = .returned (.bool true) ∧ Below W.heap.size W W' := by
  obtain ⟨v0, v1, d0, d1, p0, p1, rfl, rfl, rfl, h0, h1⟩ := trodAll_two hA
  obtain ⟨z0, q0, g0, a0, b0⟩ := R.open_arg (hval 0 70 v0 rfl rfl) h0
  obtain ⟨z1, q1, g1, a1, b1⟩ := R.open_arg (hval 1 101 v1 rfl rfl) h1
  obtain rfl := b0 (by kernel_rfl) _ rfl
  obtain rfl := a1 (by kernel_rfl)
  exact roadsBack_any z0.A z0.n z0.c z0.L z1 W g0.1 g0.2.1 (by have := g0.2.2.1; omega) g0.2.2.2 g1
end Go.Proofs.Ytmmfndmfibbhcaa
