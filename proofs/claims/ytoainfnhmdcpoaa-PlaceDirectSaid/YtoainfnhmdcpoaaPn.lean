/- The laws of chapter 34: their own example. -/
import Derived.Test.YtoainfnhmdcpoaaPm
namespace Go.Proofs.Ytoainfnhmdcpoaa
open Go.RowKit
open R (In64 InU64 lo64 nth)
theorem cross_pl {A B : Option Addr} {c d : Nat} : mayP (crossN A B c d) ⟨2, 2⟩ = true ∧ leaveL (crossN A B c d) ⟨2, 2⟩ = [⟨1, 4⟩, ⟨2, 5⟩] ∧ tripV (crossN A B c d) ⟨3, 3⟩ ⟨3, 1⟩ = some (2, 7) := by
  have hb := cross_netB (A := A) (B := B) (c := c) (d := d)
  have h1 : placeP (crossN A B c d) ⟨2, 2⟩ := ⟨by decide, (show (2 : Int) < ((4 : Nat) : Int) by decide), by decide, (show (2 : Int) ≤ (nth (crossE 4) 2).w by decide)⟩
  have h2 : placeP (crossN A B c d) ⟨3, 3⟩ := ⟨by decide, (show (3 : Int) < ((4 : Nat) : Int) by decide), by decide, (show (3 : Int) ≤ (nth (crossE 4) 3).w by decide)⟩
  have h3 : placeP (crossN A B c d) ⟨3, 1⟩ := ⟨by decide, (show (3 : Int) < ((4 : Nat) : Int) by decide), by decide, (show (1 : Int) ≤ (nth (crossE 4) 3).w by decide)⟩
  have hm : mayP (crossN A B c d) ⟨2, 2⟩ = true := by rw [mayP_d hb]; exact decide_eq_true h1
  refine ⟨hm, ?_, ?_⟩
  · unfold leaveL
    rw [if_pos hm]
    rfl
  · unfold tripV
    rw [if_pos ⟨hb, rfl, h2, h3⟩]
    rfl
set_option maxHeartbeats 2000000 in
theorem awake34 (w : World) : Calls Try.prog 26 #[] w fun e w' => e = .returned (.bool true) ∧ Below w.heap.size w w' := by
  have hM := R.Own.start [] w
  refine R.calls_of_WC (fn := Try.f26) Try.func26 rfl Try.ntmps26 (Nat.le_of_ble_eq_true rfl) ?_
  (refine R.stepV ?_; (repeat' (first | (with_reducible refine And.intro ?_ ?_) | (with_reducible intro _))); all_goals refine R.Lft.mk ?_)
  refine R.WO_call0 rfl rfl  ?_
  refine (cross_any _).mono ?_
  rintro _ w2 ⟨A, B, c, d, rfl, hO⟩
  have hM := R.Own.giveN R.ohm hO
  have hG := cross_G A B c d hM (.head _) (.tail _ (.head _))
  have hL := hG.lasts
  obtain ⟨q1, q2, q3⟩ := cross_pl (A := A) (B := B) (c := c) (d := d)
  refine ⟨_, rfl, ?_⟩
  (refine R.stepV ?_; (repeat' (first | (with_reducible refine And.intro ?_ ?_) | (with_reducible intro _))); all_goals refine R.Lft.mk ?_)
  refine R.WO_call2 rfl rfl R.vv R.vv ?_
  refine ((con_leave (crossN A B c d) ⟨2, 2⟩).h () _ hG).mono ?_
  rintro _ w3 ⟨A1, c1, rfl, hG1⟩
  rw [q2, show ([⟨1, 4⟩, ⟨2, 5⟩] : List Item).length = 2 from rfl] at hG1 ⊢
  have hM := R.Own.give R.ohm hG1
  refine ⟨_, rfl, ?_⟩
  (refine R.stepV ?_; (repeat' (first | (with_reducible refine And.intro ?_ ?_) | (with_reducible intro _))); all_goals refine R.Lft.mk ?_)
  refine R.WO_call0 rfl rfl  ?_
  refine (cross_any _).mono ?_
  rintro _ w4 ⟨A2, B2, c2, d2, rfl, hO2⟩
  have hM := R.Own.giveN R.ohm hO2
  simp only [List.cons_append, List.nil_append] at hM
  have hG2 := cross_G A2 B2 c2 d2 hM (.tail _ (.tail _ (.tail _ (.head _)))) (.tail _ (.tail _ (.tail _ (.tail _ (.head _)))))
  obtain ⟨-, -, q4⟩ := cross_pl (A := A2) (B := B2) (c := c2) (d := d2)
  refine ⟨_, rfl, ?_⟩
  (refine R.stepV ?_; (repeat' (first | (with_reducible refine And.intro ?_ ?_) | (with_reducible intro _))); all_goals refine R.Lft.mk ?_)
  refine R.WO_call3 rfl rfl R.vv R.vv R.vv ?_
  refine (pdirect_any (crossN A2 B2 c2 d2) ⟨3, 3⟩ ⟨3, 1⟩ _ hG2).mono ?_
  rintro _ w5 ⟨A3, c3, rfl, hG3⟩
  rw [q4, show tripW (some (2, 7)) = [7] from rfl, show ([7] : List Int).length = 1 from rfl] at hG3 ⊢
  rw [show tripC (some (2, 7)) = 2 from rfl]
  have hM := R.Own.give R.ohm hG3
  refine ⟨_, rfl, ?_⟩
  (refine R.stepV ?_; (repeat' (first | (with_reducible refine And.intro ?_ ?_) | (with_reducible intro _))); all_goals refine R.Lft.mk ?_)
  exact ⟨rfl, R.Own.below (by assumption)⟩
instance con_awake34 : R.ConB Try.prog 26 #[] Unit (fun _ _ => True) (fun _ => .bool true) := ⟨fun _ w _ => awake34 w⟩
end Go.Proofs.Ytoainfnhmdcpoaa
