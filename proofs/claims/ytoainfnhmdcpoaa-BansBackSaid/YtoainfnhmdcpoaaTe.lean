/- The law BansBack. -/
import Derived.Test.YtoainfnhmdcpoaaTd
import Derived.Test.YtoainfnhmdcpoaaCx
import Derived.Test.YtoainfnhmdcpoaaFrame
namespace Go.Proofs.Ytoainfnhmdcpoaa
open Go.ChangeShapes Go.WideShapes Go.ChangeAt Go.RowKit
open R (In64 InU64 lo64 nth)

instance con_light17 (x : Nt) (r : Rl) : R.ConB Try.prog 25 #[.agg (cNt x).toArray, .agg (cRl r).toArray] Unit (fun _ _ => True) (fun _ => .bool (decide (x.s.n ≤ 30 ∧ x.e.n ≤ 40 ∧ x.p.n ≤ 20 ∧ r.b.n ≤ 60))) := ⟨fun _ w _ => by
  have hM := R.Own.start [] w
  refine R.calls_of_WC (fn := Try.f25) Try.func25 rfl Try.ntmps25 (Nat.le_of_ble_eq_true rfl) ?_
  (refine R.stepV ?_; (repeat' (first | (with_reducible refine And.intro ?_ ?_) | (with_reducible intro _))); all_goals refine R.Lft.mk ?_)
  all_goals
    refine ⟨?_, R.Own.below (by assumption)⟩
    first
    | rw [show decide (x.s.n ≤ 30 ∧ x.e.n ≤ 40 ∧ x.p.n ≤ 20 ∧ r.b.n ≤ 60) = decide ((r.b.n : Int) ≤ 60) from decide_eq_decide.2 (by omega)]
    | rw [show decide (x.s.n ≤ 30 ∧ x.e.n ≤ 40 ∧ x.p.n ≤ 20 ∧ r.b.n ≤ 60) = false from decide_eq_false (by omega)]⟩
theorem R.Own.giveN {F : List Nat} {W w w' : World} {l lc : List R.Res} (h : R.Own F W w l) (hc : R.Own [] w w' lc) : R.Own F W w' (l ++ lc) := R.Own.callF (l := l) (lc := []) (by rw [List.append_nil]; exact h) hc
section
variable (A B : Option Addr) (c d : Nat)
theorem cross_way {v : Int} (h0 : 0 ≤ v) (h : v < 8) : wayB (crossN A B c d) v = decide (v ≠ 3) := by
  obtain ⟨k, rfl⟩ := Int.eq_ofNat_of_zero_le h0
  match k, h with
  | 0, _ => rfl
  | 1, _ => rfl
  | 2, _ => rfl
  | 3, _ => rfl
  | 4, _ => rfl
  | 5, _ => rfl
  | 6, _ => rfl
  | 7, _ => rfl
theorem cross_fol : folB (crossN A B c d) 1 4 = true := rfl
theorem cross_rules : rulesB (crossN A B c d) ⟨⟨none, 0, 0, []⟩, 0⟩ = true := rulesB_t ⟨cross_netB A B c d, by decide, by decide, by decide, fun i hi => absurd hi (Nat.not_lt_zero _)⟩
theorem cross_add : addE (crossN A B c d) ⟨⟨none, 0, 0, []⟩, 0⟩ ⟨1, 4, false⟩ = 0 := by
  unfold addE
  rw [cross_rules, cross_fol]
  simp
theorem cross_ends : endsN (crossN A B c d) 5 = (3, 0) ∧ wayN (crossN A B c d) 5 = true ∧ wayN (crossN A B c d) 3 = false ∧ folN (crossN A B c d) 1 4 = true := by
  unfold endsN wayN folN
  rw [cross_netB, cross_way A B c d (by decide) (by decide), cross_way A B c d (by decide) (by decide), cross_fol]
  refine ⟨rfl, rfl, rfl, rfl⟩
end
theorem cross_place {i : Nat} (h : placeB [] (⟨1, 4, false⟩ : Bn) i) : i = 0 := Nat.le_zero.1 h.1
theorem cross_badd (A B : Option Addr) (c d : Nat) (w : World) (hG : GNt w (crossN A B c d)) : Calls Try.prog 84 #[.agg (cNt (crossN A B c d)).toArray, .agg #[.slice none 0 0, .int .i64 0], .agg #[.int .i64 1, .int .i64 4, .bool false]] w fun e w' => ∃ A1 c1, e = .returned (.tuple #[.agg #[.slice A1 1 c1, .int .i64 0], .int .i64 0]) ∧ R.Gives w w' A1 1 c1 130 3 ([(⟨1, 4, false⟩ : Bn)].flatMap cBn) ∧ rulesB (crossN A B c d) ⟨⟨A1, 1, c1, [⟨1, 4, false⟩]⟩, 0⟩ = true := by
  refine (badd_ok (crossN A B c d) ⟨⟨none, 0, 0, []⟩, 0⟩ ⟨1, 4, false⟩ w hG ⟨⟨R.Inp.nil _ _ _ _, rfl, by decide, fun y hy => (by cases hy)⟩, rfl⟩ ⟨rfl, rfl⟩ (cross_add A B c d)).mono ?_
  rintro _ w3 ⟨i, A1, c1, hi, rfl, hG1⟩
  obtain rfl := cross_place hi
  exact ⟨A1, c1, rfl, hG1, rulesB_t (ins_rules (r := ⟨⟨none, 0, 0, []⟩, 0⟩) rfl (rulesB_of (cross_rules A B c d)) (cross_fol A B c d) (by simp) (by decide) hi)⟩
set_option maxHeartbeats 4000000 in
attribute [local irreducible] cS cR cSp cW folB ordB ltB wayB crossS crossE rulesB in
theorem awake17 (w : World) : Calls Try.prog 83 #[] w fun e w' => e = .returned (.bool true) ∧ Below w.heap.size w w' := by
  have hM := R.Own.start [] w
  refine R.calls_of_WC (fn := Try.f83) Try.func83 rfl Try.ntmps83 (Nat.le_of_ble_eq_true rfl) ?_
  (refine R.stepV ?_; (repeat' (first | (with_reducible refine And.intro ?_ ?_) | (with_reducible intro _))); all_goals refine R.Lft.mk ?_)
  refine R.WO_call0 rfl rfl  ?_
  refine (cross_any _).mono ?_
  rintro _ w2 ⟨A, B, c, d, rfl, hO⟩
  have hG := cross_G A B c d hO (.head _) (.tail _ (.head _))
  clear hM
  have hM := R.Own.start [] w2
  have hL := hG.lasts
  obtain ⟨q1, q2, q3, q4⟩ := cross_ends (A := A) (B := B) (c := c) (d := d)
  refine ⟨_, rfl, ?_⟩
  (refine R.stepV ?_; (repeat' (first | (with_reducible refine And.intro ?_ ?_) | (with_reducible intro _))); all_goals refine R.Lft.mk ?_)
  rename_i hM
  refine R.WO_call3 rfl rfl R.vv R.vv R.vv ?_
  refine (cross_badd A B c d _ (R.lasts hL hM)).mono ?_
  rintro _ w3 ⟨A1, c1, rfl, hG1, q6⟩
  have hM := R.Own.give hM hG1
  refine ⟨_, rfl, ?_⟩
  have q1a : (endsN (crossN A B c d) 5).1 = 3 := by rw [q1]
  have q1b : (endsN (crossN A B c d) 5).2 = 0 := by rw [q1]
  (refine R.stepV ?_; (repeat' (first | (with_reducible refine And.intro ?_ ?_) | (with_reducible intro _))); all_goals refine R.Lft.mk ?_)
  rename_i hM
  refine R.WO_call2 rfl rfl R.vv R.vv ?_
  refine ((con_bmay (crossN A B c d) ⟨⟨A1, 1, c1, [⟨1, 4, false⟩]⟩, 0⟩).h () _ ⟨R.lasts hL hM, GRl_own hM (.tail _ (.head _)) rfl (fun y hy => by rw [List.mem_singleton.1 hy]; exact ⟨rfl, rfl⟩) rfl⟩).mono ?_
  rintro _ w4 ⟨rfl, hb4⟩
  have hM := hM.call hb4
  refine ⟨_, rfl, ?_⟩
  rw [q6]
  (refine R.stepV ?_; (repeat' (first | (with_reducible refine And.intro ?_ ?_) | (with_reducible intro _))); all_goals refine R.Lft.mk ?_)
  all_goals first
    | exact ⟨rfl, (hO.call (R.Own.below (by assumption))).below⟩
    | exact absurd q2 (by rw [show wayN (crossN A B c d) 5 = false by assumption]; decide)
    | exact absurd q4 (by rw [show folN (crossN A B c d) 1 4 = false by assumption]; decide)
    | exact nbw_f q3 (by assumption)
instance con_awake17 : R.ConB Try.prog 83 #[] Unit (fun _ _ => True) (fun _ => .bool true) := ⟨fun _ w _ => awake17 w⟩

theorem same_at {L : List Bn} {i j : Nat} {b : Bn} (hr : riseB L) (hi : i < L.length) (hj : j < L.length) (h1 : nth L i = b) (h2 : nth L j = b) : j = i := by
  rcases Nat.lt_trichotomy i j with h | h | h
  · have := hr i j h hj
    rw [h1, h2, ltB_self] at this
    cases this
  · exact h.symm
  · have := hr j i h hi
    rw [h1, h2, ltB_self] at this
    cases this
set_option maxHeartbeats 4000000 in
attribute [local irreducible] cS cR cSp cW folB ordB ltB wayB rulesB in
theorem bansBack_any (x : Nt) (r : Rl) (b : Bn) (w : World) (hG : GNt w x) (hR : GRl w r) (hb : GBn w b) : Calls Try.prog 15 #[.agg (cNt x).toArray, .agg (cRl r).toArray, .agg (cBn b).toArray] w fun e w' => e = .returned (.bool true) ∧ Below w.heap.size w w' := by
  have hM := R.Own.start [] w
  have hL := hG.lasts
  have hLR := hR.lasts
  have hnl := hR.1.2.1
  by_cases hl : x.s.n ≤ 30 ∧ x.e.n ≤ 40 ∧ x.p.n ≤ 20 ∧ r.b.n ≤ 60
  · have hlt := decide_eq_true hl
    by_cases hE : addE x r b = 0
    · obtain ⟨h1, h2, h3, h4⟩ := addE_0 x r b hE
      have hrp := rulesB_of h1
      refine R.calls_of_WC (fn := Try.f15) Try.func15 rfl Try.ntmps15 (Nat.le_of_ble_eq_true rfl) ?_
      (refine R.stepV ?_; (repeat' (first | (with_reducible refine And.intro ?_ ?_) | (with_reducible intro _))); all_goals refine R.Lft.mk ?_)
      · exact nbw_t hlt (by assumption)
      rename_i hM _
      refine R.WO_call3 rfl rfl R.vv R.vv R.vv ?_
      refine (badd_ok x r b _ (R.lasts hL hM) (R.lasts hLR hM) hb hE).mono ?_
      rintro _ w3 ⟨i, A1, c1, hi, rfl, hG1⟩
      have hM := R.Own.give hM hG1
      refine ⟨_, rfl, ?_⟩
      have hr2 : rulesP x ⟨⟨A1, r.b.n + 1, c1, insAt r.b.L i b⟩, r.p⟩ := ins_rules hnl hrp h2 h3 h4 hi
      have hGb : ∀ y ∈ insAt r.b.L i b, GBn w y := fun y hy => by
        rcases insAt_mem.1 hy with h | h
        · rw [h]; exact hb
        · exact hR.1.2.2.2 y h
      have hln : r.b.n + 1 = (insAt r.b.L i b).length := by rw [insAt_len hi.1, hnl]
      have hmb : b ∈ insAt r.b.L i b := insAt_mem.2 (.inl rfl)
      have hE2 : addE x ⟨⟨A1, r.b.n + 1, c1, insAt r.b.L i b⟩, r.p⟩ b = 7 := by
        unfold addE
        rw [rulesB_t hr2, h2, if_pos (show (true && true) = true from rfl), if_pos hmb]
      (refine R.stepV ?_; (repeat' (first | (with_reducible refine And.intro ?_ ?_) | (with_reducible intro _))); all_goals refine R.Lft.mk ?_)
      rename_i hM
      have hR2 := GRl_own (M := insAt r.b.L i b) (p := r.p) hM (.tail _ (.head _)) hln hGb hR.2
      refine R.WO_call3 rfl rfl R.vv R.vv R.vv ?_
      refine (bdrop_ok x ⟨⟨A1, r.b.n + 1, c1, insAt r.b.L i b⟩, r.p⟩ b _ (R.lasts hL hM) hR2 (rulesB_t hr2) hmb).mono ?_
      rintro _ w5 ⟨j, A2, c2, hj1, hj2, rfl, hG2⟩
      have hrise2 : riseB (insAt r.b.L i b) := riseB_rules (r := ⟨⟨A1, r.b.n + 1, c1, insAt r.b.L i b⟩, r.p⟩) hln hr2
      have hji : j = i := same_at hrise2 (by rw [insAt_len hi.1]; have := hi.1; omega) hj1 (insAt_at hi.1) hj2
      subst hji
      dsimp only at hG2 ⊢
      rw [insAt_out hi.1, Nat.add_sub_cancel] at hG2
      rw [Nat.add_sub_cancel]
      have hM := R.Own.give hM hG2
      refine ⟨_, rfl, ?_⟩
      (refine R.stepV ?_; (repeat' (first | (with_reducible refine And.intro ?_ ?_) | (with_reducible intro _))); all_goals refine R.Lft.mk ?_)
      rename_i hM
      have hR3 := GRl_own (M := insAt r.b.L j b) (p := r.p) hM (.tail _ (.tail _ (.tail _ (.head _)))) hln hGb hR.2
      refine R.WO_call3 rfl rfl R.vv R.vv R.vv ?_
      refine (badd_no x ⟨⟨A1, r.b.n + 1, c1, insAt r.b.L j b⟩, r.p⟩ b _ (R.lasts hL hM) hR3 hb (by rw [hE2]; decide)).mono ?_
      rintro _ w6 ⟨rfl, hb6⟩
      rw [hE2]
      have hM := hM.call hb6
      refine ⟨_, rfl, ?_⟩
      (refine R.stepV ?_; (repeat' (first | (with_reducible refine And.intro ?_ ?_) | (with_reducible intro _))); all_goals refine R.Lft.mk ?_)
      rename_i hM
      refine R.WO_call2 rfl rfl R.vv R.vv ?_
      refine (same17 ⟨⟨A2, r.b.n, c2, r.b.L⟩, r.p⟩ r _ (GRl_own hM (.tail _ (.tail _ (.head _))) hnl hR.1.2.2.2 hR.2) (R.lasts hLR hM)).mono ?_
      rintro _ w7 ⟨rfl, hb7⟩
      have hM := hM.call hb7
      refine ⟨_, rfl, ?_⟩
      rw [decide_eq_true (show r.p = r.p ∧ r.b.L = r.b.L from ⟨rfl, rfl⟩)]
      (refine R.stepV ?_; (repeat' (first | (with_reducible refine And.intro ?_ ?_) | (with_reducible intro _))); all_goals refine R.Lft.mk ?_)
      rename_i hM
      refine R.WO_call2 rfl rfl R.vv R.vv ?_
      refine ((con_bmay x ⟨⟨A1, r.b.n + 1, c1, insAt r.b.L j b⟩, r.p⟩).h () _ ⟨R.lasts hL hM, GRl_own (M := insAt r.b.L j b) (p := r.p) hM (.tail _ (.tail _ (.tail _ (.tail _ (.head _))))) hln hGb hR.2⟩).mono ?_
      rintro _ w8 ⟨rfl, hb8⟩
      have hM := hM.call hb8
      refine ⟨_, rfl, ?_⟩
      rw [rulesB_t hr2]
      (refine R.stepV ?_; (repeat' (first | (with_reducible refine And.intro ?_ ?_) | (with_reducible intro _))); all_goals refine R.Lft.mk ?_; (all_goals (try (exact ⟨rfl, R.Own.below (by assumption)⟩))))
    · have hE' : decide (addE x r b = 0) = false := decide_eq_false hE
      refine R.calls_of_WC (fn := Try.f15) Try.func15 rfl Try.ntmps15 (Nat.le_of_ble_eq_true rfl) ?_
      (refine R.stepV ?_; (repeat' (first | (with_reducible refine And.intro ?_ ?_) | (with_reducible intro _))); all_goals refine R.Lft.mk ?_)
      · exact nbw_t hlt (by assumption)
      rename_i hM _
      refine R.WO_call3 rfl rfl R.vv R.vv R.vv ?_
      refine (badd_no x r b _ (R.lasts hL hM) (R.lasts hLR hM) hb hE).mono ?_
      rintro _ w3 ⟨rfl, hb3⟩
      have hM := hM.call hb3
      refine ⟨_, rfl, ?_⟩
      (refine R.stepV ?_; (repeat' (first | (with_reducible refine And.intro ?_ ?_) | (with_reducible intro _))); all_goals refine R.Lft.mk ?_)
      all_goals first
        | exact ⟨rfl, R.Own.below (by assumption)⟩
        | (exfalso; omega)
  · have hlt := decide_eq_false hl
    refine R.calls_of_WC (fn := Try.f15) Try.func15 rfl Try.ntmps15 (Nat.le_of_ble_eq_true rfl) ?_
    (refine R.stepV ?_; (repeat' (first | (with_reducible refine And.intro ?_ ?_) | (with_reducible intro _))); all_goals refine R.Lft.mk ?_)
    · exact ⟨rfl, R.Own.below (by assumption)⟩
    · exact nbw_f hlt (by assumption)
set_option maxRecDepth 100000 in
theorem walk_BansBack {H : Type} {enc : TypeId × Value → H} (W : World) (base : Nat) (args : Array Value) (ds : List (DataW H)) (ps : List MemPlace) (hA : DataW.TrodAll enc Try.prog W 0 (fun _ => true) true [44, 50, 130] args.toList ds ps)
    (hval : ∀ (j : Nat) t v, #[44, 50, 130][j]? = some t → args[j]? = some v → Value.okWide Try.prog W .any base t v) :
    Calls Try.prog 15 args W fun e W' => e = .returned (.bool true) ∧ Below W.heap.size W W' := by
  obtain ⟨v0, v1, v2, d0, d1, d2, p0, p1, p2, rfl, rfl, rfl, h0, h1, h2⟩ := trodAll_three hA
  obtain ⟨z0, q0, g0, a0, b0⟩ := R.open_arg (hval 0 44 v0 rfl rfl) h0
  obtain ⟨z1, q1, g1, a1, b1⟩ := R.open_arg (hval 1 50 v1 rfl rfl) h1
  obtain ⟨z2, q2, g2, a2, b2⟩ := R.open_arg (hval 2 130 v2 rfl rfl) h2
  obtain rfl := a0 (by kernel_rfl)
  obtain rfl := a1 (by kernel_rfl)
  obtain rfl := a2 (by kernel_rfl)
  exact bansBack_any z0 z1 z2 W g0 g1 g2
end Go.Proofs.Ytoainfnhmdcpoaa
