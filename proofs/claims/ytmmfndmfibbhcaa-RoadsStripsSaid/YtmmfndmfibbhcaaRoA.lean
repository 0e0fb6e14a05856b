/- The law RoadsStrips: the walk. -/
import Derived.Test.YtmmfndmfibbhcaaRoads9
namespace Go.Proofs.Ytmmfndmfibbhcaa
open Go.ChangeShapes Go.WideShapes Go.ChangeAt Go.RowKit
open R (In64 InU64 lo64 nth)
section
variable (A B : Option Addr) (n c m d : Nat) (L M : List Road) (w : World) (hA : R.Inp [] w A n 4 (L.flatMap cRoad)) (hB : R.Inp [] w B m 4 (M.flatMap cRoad)) (hn : n = L.length) (hm : m = M.length) (hbn : n ≤ 9223372036854775807) (hbm : m ≤ 9223372036854775807) (hG : ∀ x ∈ L, GRoad w x) (hH : ∀ x ∈ M, GRoad w x)
include hA hB hn hm hbn hbm hG hH
set_option maxHeartbeats 2000000 in
theorem roadsStrips_any : Calls Try.prog 14 #[.slice A n c, .slice B m d] w fun e w' => e = .returned (.bool true) ∧ Below w.heap.size w w' := by
  have hM := R.Own.start [] w
  refine R.calls_of_WC (fn := Try.f14) Try.func14 rfl Try.ntmps14 (Nat.le_of_ble_eq_true rfl) ?_
  (refine R.stepH ?_; (repeat' (first | (with_reducible refine And.intro ?_ ?_) | (with_reducible intro _))); all_goals refine R.Lft.mk ?_)
  refine R.WO_call1 rfl rfl R.vv ?_
  refine (light_any A n c L w hA hn hbn hG).mono ?_
  rintro _ _ ⟨b1, rfl, rfl, h1⟩
  refine ⟨_, rfl, ?_⟩
  cases b1
  · (refine R.stepH ?_; (repeat' (first | (with_reducible refine And.intro ?_ ?_) | (with_reducible intro _))); all_goals refine R.Lft.mk ?_; (all_goals (try (exact ⟨rfl, R.Own.below (by assumption)⟩))))
  obtain ⟨hl1, hs1⟩ := h1 rfl
  (refine R.stepH ?_; (repeat' (first | (with_reducible refine And.intro ?_ ?_) | (with_reducible intro _))); all_goals refine R.Lft.mk ?_)
  refine R.WO_call1 rfl rfl R.vv ?_
  refine (light_any B m d M w hB hm hbm hH).mono ?_
  rintro _ _ ⟨b2, rfl, rfl, h2⟩
  refine ⟨_, rfl, ?_⟩
  cases b2
  · (refine R.stepH ?_; (repeat' (first | (with_reducible refine And.intro ?_ ?_) | (with_reducible intro _))); all_goals refine R.Lft.mk ?_; (all_goals (try (exact ⟨rfl, R.Own.below (by assumption)⟩))))
  obtain ⟨hl2, hs2⟩ := h2 rfl
  have hs1' : ∀ x ∈ L, x.p.n ≤ 1000000000 ∧ x.q.n ≤ 1000000000 := fun x hx => by have := hs1 x hx; omega
  (refine R.stepH ?_; (repeat' (first | (with_reducible refine And.intro ?_ ?_) | (with_reducible intro _))); all_goals refine R.Lft.mk ?_)
  refine R.WO_call1 rfl rfl R.vv ?_
  refine (strips_any A n c L _ (R.Own.inpIn R.ohm hA) hn (by omega) fun x hx => GRoad.now R.ohm (hG x hx)).mono ?_
  rintro _ w3 ⟨A3, c3, S, hS, rfl, hG3⟩
  have hM := R.Own.give R.ohm hG3
  refine ⟨_, rfl, ?_⟩
  (refine R.stepH ?_; (repeat' (first | (with_reducible refine And.intro ?_ ?_) | (with_reducible intro _))); all_goals refine R.Lft.mk ?_)
  refine R.WO_call2 rfl rfl R.vv R.vv ?_
  refine (rsame_any A B n c m d L M _ (R.Own.inpIn R.ohm hA) (R.Own.inpIn R.ohm hB) hn hm (by omega) (fun x hx => GRoad.now R.ohm (hG x hx)) (fun x hx => GRoad.now R.ohm (hH x hx)) hs1').mono ?_
  rintro _ w4 ⟨rfl, hb4⟩
  have hM := R.Own.call R.ohm hb4
  refine ⟨_, rfl, ?_⟩
  (refine R.stepH ?_; (repeat' (first | (with_reducible refine And.intro ?_ ?_) | (with_reducible intro _))); all_goals refine R.Lft.mk ?_)
  refine R.WO_call2 rfl rfl R.vv R.vv ?_
  refine (same11_any A B n c m d L M _ (R.Own.inpIn R.ohm hA) (R.Own.inpIn R.ohm hB) hn hm (by omega) (fun x hx => GRoad.now R.ohm (hG x hx)) (fun x hx => GRoad.now R.ohm (hH x hx))).mono ?_
  rintro _ w5 ⟨rfl, hb5⟩
  have hM := R.Own.call R.ohm hb5
  refine ⟨_, rfl, ?_⟩
  (refine R.stepH ?_; (repeat' (first | (with_reducible refine And.intro ?_ ?_) | (with_reducible intro _))); all_goals refine R.Lft.mk ?_)
  · exfalso
    have hh : (!(eqRs L M == eqRs L M)) = true := by assumption
    simp at hh
  refine R.WO_call2 rfl rfl R.vv R.vv ?_
  refine (rsame_any A A n c n c L L _ (R.Own.inpIn R.ohm hA) (R.Own.inpIn R.ohm hA) hn hn (by omega) (fun x hx => GRoad.now R.ohm (hG x hx)) (fun x hx => GRoad.now R.ohm (hG x hx)) hs1').mono ?_
  rintro _ w6 ⟨rfl, hb6⟩
  have hM := R.Own.call R.ohm hb6
  refine ⟨_, rfl, ?_⟩
  rw [show eqRs L L = true from decide_eq_true rfl]
  (refine R.stepH ?_; (repeat' (first | (with_reducible refine And.intro ?_ ?_) | (with_reducible intro _))); all_goals refine R.Lft.mk ?_)
  refine R.WO_call1 rfl rfl R.vv ?_
  refine (all11_any A n c L _ (R.Own.inpIn R.ohm hA) hn (by omega) (fun x hx => GRoad.now R.ohm (hG x hx)) fun x hx => (hs1' x hx).2).mono ?_
  rintro _ w7 ⟨rfl, hb7⟩
  have hM := R.Own.call R.ohm hb7
  refine ⟨_, rfl, ?_⟩
  by_cases he : errAll L = 0
  · rw [if_pos he] at hS
    subst hS
    have hsl := stripsV_len L
    obtain ⟨h200, hall, hr, h400⟩ := errAll_ok he
    rw [he]
    (refine R.stepH ?_; (repeat' (first | (with_reducible refine And.intro ?_ ?_) | (with_reducible intro _))); all_goals refine R.Lft.mk ?_)
    refine R.WO_call1 rfl rfl R.vv ?_
    refine (strips11_any A n c L _ (R.Own.inpIn R.ohm hA) hn (by omega) (fun x hx => GRoad.now R.ohm (hG x hx)) he).mono ?_
    rintro _ w8 ⟨A8, c8, rfl, hG8⟩
    have hM := R.Own.give R.ohm hG8
    refine ⟨_, rfl, ?_⟩
    (refine R.stepH ?_; (repeat' (first | (with_reducible refine And.intro ?_ ?_) | (with_reducible intro _))); all_goals refine R.Lft.mk ?_)
    refine R.WC_loop (fun k : Nat => [(4, .bool false), (5, .slice A3 (stripsV L).length c3), (7, .slice A8 (stripsV L).length c8), (8, .int .i64 (k : Nat))])
      (fun k w1 => k ≤ (stripsV L).length ∧ R.Own [] w w1 [.row A8 (stripsV L).length c8 116 8 ((stripsV L).flatMap cStrip), .row A3 (stripsV L).length c3 116 8 ((stripsV L).flatMap cStrip)]) (fun k => (stripsV L).length - k) ⟨0, ⟨rfl, rfl, rfl, rfl, trivial⟩, Nat.zero_le _, hM⟩ ?_
    clear hM
    rintro k f w9 ⟨hk, hM⟩
    by_cases hlt : k < (stripsV L).length
    · (refine R.stepH ?_; (repeat' (first | (with_reducible refine And.intro ?_ ?_) | (with_reducible intro _))); all_goals refine R.Lft.mk ?_)
      · exfalso
        rename_i hh
        exact hh rfl
      · exact ⟨k + 1, ⟨rfl, rfl, rfl, R.viaI rfl (by omega), trivial⟩, ⟨by omega, R.ohm⟩, by omega⟩
    · (refine R.stepH ?_; (repeat' (first | (with_reducible refine And.intro ?_ ?_) | (with_reducible intro _))); all_goals refine R.Lft.mk ?_; (all_goals (try (exact ⟨rfl, R.Own.below (by assumption)⟩))))
  · rw [if_neg he] at hS
    subst hS
    (refine R.stepH ?_; (repeat' (first | (with_reducible refine And.intro ?_ ?_) | (with_reducible intro _))); all_goals refine R.Lft.mk ?_)
    refine R.WO_call1 rfl rfl R.vv ?_
    refine (all11_any A n c L _ (R.Own.inpIn R.ohm hA) hn (by omega) (fun x hx => GRoad.now R.ohm (hG x hx)) fun x hx => (hs1' x hx).2).mono ?_
    rintro _ w8 ⟨rfl, hb8⟩
    have hM := R.Own.call R.ohm hb8
    refine ⟨_, rfl, ?_⟩
    (refine R.stepH ?_; (repeat' (first | (with_reducible refine And.intro ?_ ?_) | (with_reducible intro _))); all_goals refine R.Lft.mk ?_; (all_goals (try (exact ⟨rfl, R.Own.below (by assumption)⟩))))
end
set_option maxRecDepth 100000 in
theorem walk_RoadsStrips {H : Type} {enc : TypeId × Value → H} (W : World) (base : Nat) (args : Array Value) (ds : List (DataW H)) (ps : List MemPlace) (hA : DataW.TrodAll enc Try.prog W 0 (fun _ => true) true [70, 70] args.toList ds ps)
    (hval : ∀ (j : Nat) t v, #[70, 70][j]? = some t → args[j]? = some v → Value.okWide Try.prog W .any base t v) :
    Calls Try.prog 14 args W fun e W' => e = .returned (.bool true) ∧ Below W.heap.size W W' := by
  obtain ⟨v0, v1, d0, d1, p0, p1, rfl, rfl, rfl, h0, h1⟩ := trodAll_two hA
  obtain ⟨z0, q0, g0, a0, b0⟩ := R.open_arg (hval 0 70 v0 rfl rfl) h0
  obtain ⟨z1, q1, g1, a1, b1⟩ := R.open_arg (hval 1 70 v1 rfl rfl) h1
  obtain rfl := b0 (by kernel_rfl) _ rfl
  obtain rfl := b1 (by kernel_rfl) _ rfl
  exact roadsStrips_any z0.A z1.A z0.n z0.c z1.n z1.c z0.L z1.L W g0.1 g1.1 g0.2.1 g1.2.1 (by have := g0.2.2.1; omega) (by have := g1.2.2.1; omega) g0.2.2.2 g1.2.2.2
end Go.Proofs.Ytmmfndmfibbhcaa
