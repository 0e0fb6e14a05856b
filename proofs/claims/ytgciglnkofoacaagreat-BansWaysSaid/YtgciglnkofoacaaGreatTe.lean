/- The law BansBack. -/
import Derived.Test.YtgciglnkofoacaaGreatTd
import Derived.Test.YtgciglnkofoacaaGreatCx
import Derived.Test.YtgciglnkofoacaaGreatFrame
namespace Go.Proofs.YtgciglnkofoacaaGreat
open Go.ChangeShapes Go.WideShapes Go.ChangeAt Go.RowKit
open R (In64 InU64 lo64 nth)

section
variable (A B : Option Addr) (c d : Nat)
theorem cross_way {v : Int} (h0 : 0 ≤ v) (h : v < 8) : wayB (crossN A B c d) v = decide (v ≠ 3) := by
  obtain ⟨k, rfl⟩ := Int.eq_ofNat_of_zero_le h0
  match k, h with
  | 0, _ => rfl
  | 1, _ => rfl
  | 2, _ => rfl
  | 3, _ => rfl
  | 4, _ => rfl
  | 5, _ => rfl
  | 6, _ => rfl
  | 7, _ => rfl
theorem cross_fol : folB (crossN A B c d) 1 4 = true := rfl
theorem cross_rules : rulesB (crossN A B c d) ⟨⟨none, 0, 0, []⟩, 0⟩ = true := rulesB_t ⟨cross_netB A B c d, by decide, by decide, by decide, fun i hi => absurd hi (Nat.not_lt_zero _)⟩
theorem cross_add : addE (crossN A B c d) ⟨⟨none, 0, 0, []⟩, 0⟩ ⟨1, 4, false⟩ = 0 := by
  unfold addE
  rw [cross_rules, cross_fol]
  simp
theorem cross_ends : endsN (crossN A B c d) 5 = (3, 0) ∧ wayN (crossN A B c d) 5 = true ∧ wayN (crossN A B c d) 3 = false ∧ folN (crossN A B c d) 1 4 = true := by
  unfold endsN wayN folN
  rw [cross_netB, cross_way A B c d (by decide) (by decide), cross_way A B c d (by decide) (by decide), cross_fol]
  refine ⟨rfl, rfl, rfl, rfl⟩
end
theorem cross_place {i : Nat} (h : placeB [] (⟨1, 4, false⟩ : Bn) i) : i = 0 := Nat.le_zero.1 h.1
theorem cross_badd (A B : Option Addr) (c d : Nat) (w : World) (hG : GNt w (crossN A B c d)) : Calls Tryz.prog 29 #[.agg (cNt (crossN A B c d)).toArray, .agg #[.slice none 0 0, .int .i64 0], .agg #[.int .i64 1, .int .i64 4, .bool false]] w fun e w' => ∃ A1 c1, e = .returned (.tuple #[.agg #[.slice A1 1 c1, .int .i64 0], .int .i64 0]) ∧ R.Gives w w' A1 1 c1 50 3 ([(⟨1, 4, false⟩ : Bn)].flatMap cBn) ∧ rulesB (crossN A B c d) ⟨⟨A1, 1, c1, [⟨1, 4, false⟩]⟩, 0⟩ = true := by
  refine (badd_ok (crossN A B c d) ⟨⟨none, 0, 0, []⟩, 0⟩ ⟨1, 4, false⟩ w hG ⟨⟨R.Inp.nil _ _ _ _, rfl, by decide, fun y hy => (by cases hy)⟩, rfl⟩ ⟨rfl, rfl⟩ (cross_add A B c d)).mono ?_
  rintro _ w3 ⟨i, A1, c1, hi, rfl, hG1⟩
  obtain rfl := cross_place hi
  exact ⟨A1, c1, rfl, hG1, rulesB_t (ins_rules (r := ⟨⟨none, 0, 0, []⟩, 0⟩) rfl (rulesB_of (cross_rules A B c d)) (cross_fol A B c d) (by simp) (by decide) hi)⟩
set_option maxHeartbeats 4000000 in
attribute [local irreducible] cS cR cSp cW folB ordB ltB wayB crossS crossE rulesB in
theorem awake17 (w : World) : Calls Tryz.prog 21 #[] w fun e w' => e = .returned (.bool true) ∧ Below w.heap.size w w' := by
  have hM := R.Own.start [] w
  refine R.calls_of_WC (fn := Tryz.f21) Tryz.func21 rfl Tryz.ntmps21 (Nat.le_of_ble_eq_true rfl) ?_
  (refine R.stepV ?_; (repeat' (first | (with_reducible refine And.intro ?_ ?_) | (with_reducible intro _))); all_goals refine R.Lft.mk ?_)
  refine R.WO_call0 rfl rfl  ?_
  refine (cross_any _).mono ?_
  rintro _ w2 ⟨A, B, c, d, rfl, hO⟩
  have hG := cross_G A B c d hO (.head _) (.tail _ (.head _))
  clear hM
  have hM := R.Own.start [] w2
  have hL := hG.lasts
  obtain ⟨q1, q2, q3, q4⟩ := cross_ends (A := A) (B := B) (c := c) (d := d)
  refine ⟨_, rfl, ?_⟩
  (refine R.stepV ?_; (repeat' (first | (with_reducible refine And.intro ?_ ?_) | (with_reducible intro _))); all_goals refine R.Lft.mk ?_)
  rename_i hM
  refine R.WO_call3 rfl rfl R.vv R.vv R.vv ?_
  refine (cross_badd A B c d _ (R.lasts hL hM)).mono ?_
  rintro _ w3 ⟨A1, c1, rfl, hG1, q6⟩
  have hM := R.Own.give hM hG1
  refine ⟨_, rfl, ?_⟩
  have q1a : (endsN (crossN A B c d) 5).1 = 3 := by rw [q1]
  have q1b : (endsN (crossN A B c d) 5).2 = 0 := by rw [q1]
  (refine R.stepV ?_; (repeat' (first | (with_reducible refine And.intro ?_ ?_) | (with_reducible intro _))); all_goals refine R.Lft.mk ?_)
  rename_i hM
  refine R.WO_call2 rfl rfl R.vv R.vv ?_
  refine ((con_bmay (crossN A B c d) ⟨⟨A1, 1, c1, [⟨1, 4, false⟩]⟩, 0⟩).h () _ ⟨R.lasts hL hM, GRl_own hM (.tail _ (.head _)) rfl (fun y hy => by rw [List.mem_singleton.1 hy]; exact ⟨rfl, rfl⟩) rfl⟩).mono ?_
  rintro _ w4 ⟨rfl, hb4⟩
  have hM := hM.call hb4
  refine ⟨_, rfl, ?_⟩
  rw [q6]
  (refine R.stepV ?_; (repeat' (first | (with_reducible refine And.intro ?_ ?_) | (with_reducible intro _))); all_goals refine R.Lft.mk ?_)
  all_goals first
    | exact ⟨rfl, (hO.call (R.Own.below (by assumption))).below⟩
    | exact absurd q2 (by rw [show wayN (crossN A B c d) 5 = false by assumption]; decide)
    | exact absurd q4 (by rw [show folN (crossN A B c d) 1 4 = false by assumption]; decide)
    | exact nbw_f q3 (by assumption)
instance con_awake17 : R.ConB Tryz.prog 21 #[] Unit (fun _ _ => True) (fun _ => .bool true) := ⟨fun _ w _ => awake17 w⟩

theorem same_at {L : List Bn} {i j : Nat} {b : Bn} (hr : riseB L) (hi : i < L.length) (hj : j < L.length) (h1 : nth L i = b) (h2 : nth L j = b) : j = i := by
  rcases Nat.lt_trichotomy i j with h | h | h
  · have := hr i j h hj
    rw [h1, h2, ltB_self] at this
    cases this
  · exact h.symm
  · have := hr j i h hi
    rw [h1, h2, ltB_self] at this
    cases this
end Go.Proofs.YtgciglnkofoacaaGreat
