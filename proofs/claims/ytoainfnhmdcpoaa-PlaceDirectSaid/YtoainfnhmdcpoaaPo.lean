/- The laws PlaceOthers and PlaceDirect: the walks. -/
import Derived.Test.YtoainfnhmdcpoaaPn
namespace Go.Proofs.Ytoainfnhmdcpoaa
open Go.ChangeShapes Go.WideShapes Go.ChangeAt Go.RowKit
open R (In64 InU64 lo64 nth)
theorem both_len (e : Ed) (t a b c d : Int) : (bothL e t a b).length = (bothL e t c d).length := by
  unfold bothL
  cases e.f <;> cases e.k <;> rfl
theorem both_two {e : Ed} {t a b : Int} (h : (bothL e t a b).length = 2) : nth (bothL e t a b) 0 = ⟨a, 2 * t⟩ ∧ nth (bothL e t a b) 1 = ⟨b, 2 * t + 1⟩ := by
  unfold bothL at h ⊢
  cases hf : e.f <;> cases hk : e.k <;> rw [hf, hk] at h
  · simp at h
  · simp at h
  · simp at h
  · exact ⟨rfl, rfl⟩
def lightB (x : Nt) : Bool := decide (x.s.n ≤ 30 ∧ x.e.n ≤ 40 ∧ x.p.n ≤ 20)
instance con_light0 (x : Nt) : R.ConB Try.prog 25 #[.agg (cNt x).toArray, .agg #[.slice none 0 0, .int .i64 0]] Unit (fun _ _ => True) (fun _ => .bool (lightB x)) := ⟨fun _ w _ => by
  have e : lightB x = decide (x.s.n ≤ 30 ∧ x.e.n ≤ 40 ∧ x.p.n ≤ 20 ∧ (0 : Nat) ≤ 60) := decide_eq_decide.2 (by omega)
  rw [e]
  exact (con_light x ⟨⟨none, 0, 0, []⟩, 0⟩).h () w trivial⟩
theorem other_may {x : Nt} {q : Plc} (h : mayP x q = true) : mayP x (otherP x q) = true ∧ otherP x (otherP x q) = q ∧ (leaveL x (otherP x q)).length = (leaveL x q).length ∧ ((leaveL x q).length = 2 → (nth (leaveL x q) 0).key = (nth (leaveL x (otherP x q)) 1).key ∧ (nth (leaveL x q) 1).key = (nth (leaveL x (otherP x q)) 0).key) := by
  obtain ⟨hb, hp⟩ := mayP_t h
  obtain ⟨p1, p2, p3, p4⟩ := hp
  have ho : otherP x q = ⟨q.e, (nth x.e.L q.e.toNat).w - q.o⟩ := by unfold otherP; rw [if_pos h]; rfl
  have h2 : placeP x ⟨q.e, (nth x.e.L q.e.toNat).w - q.o⟩ := ⟨p1, p2, by dsimp only; omega, by dsimp only; omega⟩
  have hm2 : mayP x (otherP x q) = true := by rw [ho, mayP_d hb]; exact decide_eq_true h2
  refine ⟨hm2, ?_, ?_⟩
  · unfold otherP at hm2 ⊢
    rw [if_pos h] at hm2 ⊢
    rw [if_pos hm2]
    obtain ⟨qe, qo⟩ := q
    show (⟨qe, (nth x.e.L qe.toNat).w - ((nth x.e.L qe.toNat).w - qo)⟩ : Plc) = ⟨qe, qo⟩
    congr 1
    omega
  · have e1 : leaveL x q = bothL (nth x.e.L q.e.toNat) q.e ((nth x.e.L q.e.toNat).w - q.o) q.o := by unfold leaveL; rw [if_pos h]; rfl
    have e2 : leaveL x (otherP x q) = bothL (nth x.e.L q.e.toNat) q.e ((nth x.e.L q.e.toNat).w - ((nth x.e.L q.e.toNat).w - q.o)) ((nth x.e.L q.e.toNat).w - q.o) := by
      unfold leaveL
      rw [if_pos hm2, ho]
      rfl
    rw [e1, e2]
    refine ⟨both_len _ _ _ _ _ _, fun hl => ?_⟩
    obtain ⟨a1, a2⟩ := both_two hl
    obtain ⟨b1, b2⟩ := both_two ((both_len (nth x.e.L q.e.toNat) q.e ((nth x.e.L q.e.toNat).w - ((nth x.e.L q.e.toNat).w - q.o)) ((nth x.e.L q.e.toNat).w - q.o) _ _).trans hl)
    rw [a1, a2, b1, b2]
    refine ⟨rfl, ?_⟩
    show q.o = (nth x.e.L q.e.toNat).w - ((nth x.e.L q.e.toNat).w - q.o)
    omega
set_option maxHeartbeats 4000000 in
theorem placeOthers_any (x : Nt) (q : Plc) (w : World) (hG : GNt w x) : Calls Try.prog 6 #[.agg (cNt x).toArray, .agg (cPlc q).toArray] w fun e w' => e = .returned (.bool true) ∧ Below w.heap.size w w' := by
  have hM := R.Own.start [] w
  have hL := hG.lasts
  obtain ⟨_, ⟨h1, h2, h3, _⟩, _⟩ := hG
  cases hm : mayP x q with
  | false =>
    refine R.calls_of_WC (fn := Try.f6) Try.func6 rfl Try.ntmps6 (Nat.le_of_ble_eq_true rfl) ?_
    (refine R.stepU ?_; (repeat' (first | (with_reducible refine And.intro ?_ ?_) | (with_reducible intro _))); all_goals refine R.Lft.mk ?_)
    all_goals first
      | exact ⟨rfl, R.Own.below (by assumption)⟩
      | exact nbw_f hm (by assumption)
  | true =>
    obtain ⟨m1, m2, m3, m4⟩ := other_may hm
    refine R.calls_of_WC (fn := Try.f6) Try.func6 rfl Try.ntmps6 (Nat.le_of_ble_eq_true rfl) ?_
    (refine R.stepU ?_; (repeat' (first | (with_reducible refine And.intro ?_ ?_) | (with_reducible intro _))); all_goals refine R.Lft.mk ?_)
    all_goals first
      | exact ⟨rfl, R.Own.below (by assumption)⟩
      | exact nbw_t hm (by assumption)
      | skip
    refine R.WC_planO [(0, false), (1, false), (3, false), (4, false), (2, true), (5, true), (6, false), (7, false)] R.mixed (by decide +kernel) R.ohm ?_
    (refine R.stepU ?_; (repeat' (first | (with_reducible refine And.intro ?_ ?_) | (with_reducible intro _))); all_goals refine R.Lft.mk ?_)
    all_goals first
      | exact ⟨rfl, R.Own.below (by assumption)⟩
      | exact nbw_t m1 (by assumption)
      | exact absurd m2 (by assumption)
      | (exfalso; omega)
      | (exfalso
         have hl : (leaveL x q).length = 2 := by omega
         obtain ⟨k1, k2⟩ := m4 hl
         omega)
      | (exfalso
         have hl : (leaveL x q).length = 2 := by omega
         obtain ⟨k1, k2⟩ := m4 hl
         first
         | exact absurd k1 (by assumption)
         | exact absurd k2 (by assumption))
end Go.Proofs.Ytoainfnhmdcpoaa
