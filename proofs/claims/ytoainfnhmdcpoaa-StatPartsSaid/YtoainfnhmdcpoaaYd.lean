/- The laws of chapter 50: which nets are light; their own example. -/
import Derived.Test.YtoainfnhmdcpoaaYc
namespace Go.Proofs.Ytoainfnhmdcpoaa
open Go.RowKit
open R (In64 InU64 lo64 nth)
instance con_light (x : Nt) (r : Rl) : R.ConB Try.prog 25 #[.agg (cNt x).toArray, .agg (cRl r).toArray] Unit (fun _ _ => True) (fun _ => .bool (decide (x.s.n ≤ 30 ∧ x.e.n ≤ 40 ∧ x.p.n ≤ 20 ∧ r.b.n ≤ 60))) := ⟨fun _ w _ => by
  have hM := R.Own.start [] w
  refine R.calls_of_WC (fn := Try.f25) Try.func25 rfl Try.ntmps25 (Nat.le_of_ble_eq_true rfl) ?_
  (refine R.stepV ?_; (repeat' (first | (with_reducible refine And.intro ?_ ?_) | (with_reducible intro _))); all_goals refine R.Lft.mk ?_)
  all_goals
    refine ⟨?_, R.Own.below (by assumption)⟩
    first
    | rw [show decide (x.s.n ≤ 30 ∧ x.e.n ≤ 40 ∧ x.p.n ≤ 20 ∧ r.b.n ≤ 60) = decide ((r.b.n : Int) ≤ 60) from decide_eq_decide.2 (by omega)]
    | rw [show decide (x.s.n ≤ 30 ∧ x.e.n ≤ 40 ∧ x.p.n ≤ 20 ∧ r.b.n ≤ 60) = false from decide_eq_false (by omega)]⟩
def lightB (x : Nt) : Bool := decide (x.s.n ≤ 30 ∧ x.e.n ≤ 40 ∧ x.p.n ≤ 20)
instance con_light0 (x : Nt) : R.ConB Try.prog 25 #[.agg (cNt x).toArray, .agg #[.slice none 0 0, .int .i64 0]] Unit (fun _ _ => True) (fun _ => .bool (lightB x)) := ⟨fun _ w _ => by
  have e : lightB x = decide (x.s.n ≤ 30 ∧ x.e.n ≤ 40 ∧ x.p.n ≤ 20 ∧ (0 : Nat) ≤ 60) := decide_eq_decide.2 (by omega)
  rw [e]
  exact (con_light x ⟨⟨none, 0, 0, []⟩, 0⟩).h () w trivial⟩
theorem cross_st : cntsL (degL (crossE 4) 5 4) = [0, 4, 0, 0, 1] ∧ wAll (crossE 4) 4 = 10 ∧ wOne (crossE 4) 4 = 2 ∧ best (crossE 4) 4 = 3 := by decide
set_option maxHeartbeats 2000000 in
theorem awake50 (w : World) : Calls Try.prog 35 #[] w fun e w' => e = .returned (.bool true) ∧ Below w.heap.size w w' := by
  have hM := R.Own.start [] w
  obtain ⟨q1, q2, q3, q4⟩ := cross_st
  refine R.calls_of_WC (fn := Try.f35) Try.func35 rfl Try.ntmps35 (Nat.le_of_ble_eq_true rfl) ?_
  (refine R.stepV ?_; (repeat' (first | (with_reducible refine And.intro ?_ ?_) | (with_reducible intro _))); all_goals refine R.Lft.mk ?_)
  refine R.WO_call0 rfl rfl  ?_
  refine (cross_any _).mono ?_
  rintro _ w2 ⟨A, B, c, d, rfl, hO⟩
  have hM := R.Own.giveN R.ohm hO
  simp only [List.nil_append] at hM
  have hG := cross_G A B c d hM (.head _) (.tail _ (.head _))
  refine ⟨_, rfl, ?_⟩
  (refine R.stepV ?_; (repeat' (first | (with_reducible refine And.intro ?_ ?_) | (with_reducible intro _))); all_goals refine R.Lft.mk ?_)
  refine R.WO_call1 rfl rfl R.vv ?_
  refine (counts_any (crossN A B c d) _ hG (cross_netB _ _ _ _)).mono ?_
  rintro _ w3 ⟨A1, c1, rfl, hG1⟩
  rw [show cntsL (degL (crossN A B c d).e.L (crossN A B c d).s.n (crossN A B c d).e.n) = [0, 4, 0, 0, 1] from q1, show ([0, 4, 0, 0, 1] : List Int).length = 5 from rfl] at hG1 ⊢
  have hM := R.Own.give R.ohm hG1
  refine ⟨_, rfl, ?_⟩
  (refine R.stepV ?_; (repeat' (first | (with_reducible refine And.intro ?_ ?_) | (with_reducible intro _))); all_goals refine R.Lft.mk ?_)
  refine R.WO_call0 rfl rfl  ?_
  refine (cross_any _).mono ?_
  rintro _ w4 ⟨A2, B2, c2, d2, rfl, hO2⟩
  have hM := R.Own.giveN R.ohm hO2
  simp only [List.cons_append, List.nil_append] at hM
  have hG2 := cross_G A2 B2 c2 d2 hM (.tail _ (.tail _ (.tail _ (.head _)))) (.tail _ (.tail _ (.tail _ (.tail _ (.head _)))))
  refine ⟨_, rfl, ?_⟩
  (refine R.stepV ?_; (repeat' (first | (with_reducible refine And.intro ?_ ?_) | (with_reducible intro _))); all_goals refine R.Lft.mk ?_)
  refine R.WO_call1 rfl rfl R.vv ?_
  refine (weight_any (crossN A2 B2 c2 d2) _ hG2 (cross_netB _ _ _ _)).mono ?_
  rintro _ w5 ⟨rfl, hb5⟩
  rw [show wAll (crossN A2 B2 c2 d2).e.L (crossN A2 B2 c2 d2).e.n = 10 from q2, show wOne (crossN A2 B2 c2 d2).e.L (crossN A2 B2 c2 d2).e.n = 2 from q3]
  have hM := R.Own.call R.ohm hb5
  refine ⟨_, rfl, ?_⟩
  (refine R.stepV ?_; (repeat' (first | (with_reducible refine And.intro ?_ ?_) | (with_reducible intro _))); all_goals refine R.Lft.mk ?_)
  refine R.WO_call0 rfl rfl  ?_
  refine (cross_any _).mono ?_
  rintro _ w6 ⟨A3, B3, c3, d3, rfl, hO3⟩
  have hM := R.Own.giveN R.ohm hO3
  simp only [List.cons_append, List.nil_append] at hM
  have hG3 := cross_G A3 B3 c3 d3 hM (.tail _ (.tail _ (.tail _ (.tail _ (.tail _ (.head _)))))) (.tail _ (.tail _ (.tail _ (.tail _ (.tail _ (.tail _ (.head _)))))))
  refine ⟨_, rfl, ?_⟩
  (refine R.stepV ?_; (repeat' (first | (with_reducible refine And.intro ?_ ?_) | (with_reducible intro _))); all_goals refine R.Lft.mk ?_)
  refine R.WO_call1 rfl rfl R.vv ?_
  refine (heavy_any (crossN A3 B3 c3 d3) _ hG3 (cross_netB _ _ _ _) (show 0 < 4 by decide)).mono ?_
  rintro _ w7 ⟨rfl, hb7⟩
  rw [show best (crossN A3 B3 c3 d3).e.L (crossN A3 B3 c3 d3).e.n = 3 from q4]
  have hM := R.Own.call R.ohm hb7
  refine ⟨_, rfl, ?_⟩
  (refine R.stepV ?_; (repeat' (first | (with_reducible refine And.intro ?_ ?_) | (with_reducible intro _))); all_goals refine R.Lft.mk ?_)
  exact ⟨rfl, R.Own.below R.ohm⟩
instance con_awake50 : R.ConB Try.prog 35 #[] Unit (fun _ _ => True) (fun _ => .bool true) := ⟨fun _ w _ => awake50 w⟩
end Go.Proofs.Ytoainfnhmdcpoaa
