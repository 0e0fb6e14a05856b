/- Package place and snicketref34: trips along one way; the laws' own example. -/
import Derived.Test.YtoainfnhmdcpoaaPl
namespace Go.Proofs.Ytoainfnhmdcpoaa
open Go.RowKit
open R (In64 InU64 lo64 nth)
/-- What a trip along one way costs; -1: it does not go. -/
def directV (x : Nt) (q r : Plc) (v : Int) : Int := if leaveV x q v < 0 ∨ leaveV x r v < 0 ∨ leaveV x q v < leaveV x r v then -1 else leaveV x q v - leaveV x r v
instance con_rdirect (x : Nt) (q r : Plc) (v : Int) : R.ConB Try.prog 29 #[.agg (cNt x).toArray, .agg (cPlc q).toArray, .agg (cPlc r).toArray, .int .i64 v] Unit (fun _ w => GNt w x ∧ netB x = true ∧ placeP x q ∧ placeP x r ∧ 0 ≤ v ∧ v ≤ 1000000) (fun _ => .int .i64 (directV x q r v)) := ⟨fun _ w ⟨hG, hb, hp, hr, v0, v1⟩ => by
  have hM := R.Own.start [] w
  have hL := hG.lasts
  obtain ⟨w1, w2, w3⟩ := place_w hb hp
  obtain ⟨u1, u2, u3⟩ := place_w hb hr
  have l1 : -1 ≤ leaveV x q v ∧ leaveV x q v ≤ 2147483648 := by
    obtain ⟨p1, p2, p3, p4⟩ := hp
    unfold leaveV edAt
    split
    · split <;> omega
    · omega
  have l2 : -1 ≤ leaveV x r v ∧ leaveV x r v ≤ 2147483648 := by
    obtain ⟨p1, p2, p3, p4⟩ := hr
    unfold leaveV edAt
    split
    · split <;> omega
    · omega
  unfold directV
  refine R.calls_of_WC (fn := Try.f29) Try.func29 rfl Try.ntmps29 (Nat.le_of_ble_eq_true rfl) ?_
  (refine R.stepU ?_; (repeat' (first | (with_reducible refine And.intro ?_ ?_) | (with_reducible intro _))); all_goals refine R.Lft.mk ?_)
  refine R.WC_planO [(0, false), (1, false), (2, false), (4, false), (5, false), (6, false), (3, true), (7, true), (8, false), (9, false)] R.mixed (by decide +kernel) R.ohm ?_
  (refine R.stepU ?_; (repeat' (first | (with_reducible refine And.intro ?_ ?_) | (with_reducible intro _))); all_goals refine R.Lft.mk ?_)
  all_goals
    refine ⟨?_, R.Own.below (by assumption)⟩
    first
    | rw [if_pos (by omega)]
    | rw [if_neg (by omega)]⟩
/-- A trip along one way: its cost and the way. -/
def dirV (e : Ed) (q r : Plc) : Option (Int × Int) := if e.f = true ∧ q.o ≤ r.o then some (r.o - q.o, 2 * q.e) else if e.k = true ∧ r.o ≤ q.o then some (q.o - r.o, 2 * q.e + 1) else none
theorem dirV1 {e : Ed} {q r : Plc} (h1 : e.f = true) (h2 : q.o ≤ r.o) : dirV e q r = some (r.o - q.o, 2 * q.e) := if_pos ⟨h1, h2⟩
theorem dirVn {e : Ed} {q r : Plc} (h : e.f = false ∨ ¬ q.o ≤ r.o) : ¬ (e.f = true ∧ q.o ≤ r.o) := fun g => by
  rcases h with h | h
  · rw [g.1] at h; cases h
  · exact h g.2
theorem dirV2 {e : Ed} {q r : Plc} (h : e.f = false ∨ ¬ q.o ≤ r.o) (h1 : e.k = true) (h2 : r.o ≤ q.o) : dirV e q r = some (q.o - r.o, 2 * q.e + 1) := by unfold dirV; rw [if_neg (dirVn h), if_pos ⟨h1, h2⟩]
theorem dirV0 {e : Ed} {q r : Plc} (h : e.f = false ∨ ¬ q.o ≤ r.o) (h1 : e.k = false ∨ ¬ r.o ≤ q.o) : dirV e q r = none := by
  unfold dirV
  rw [if_neg (dirVn h), if_neg fun g => ?_]
  rcases h1 with h | h
  · rw [g.1] at h; cases h
  · exact h g.2
noncomputable def tripV (x : Nt) (q r : Plc) : Option (Int × Int) :=
  if netB x = true ∧ q.e = r.e ∧ placeP x q ∧ placeP x r then
    dirV (nth x.e.L q.e.toNat) q r
  else none
def tripC (t : Option (Int × Int)) : Int := match t with
  | some (c, _) => c
  | none => 0
def tripW (t : Option (Int × Int)) : List Int := match t with
  | some (_, v) => [v]
  | none => []
set_option maxHeartbeats 4000000 in
theorem pdirect_any (x : Nt) (q r : Plc) (w : World) (hG : GNt w x) : Calls Try.prog 27 #[.agg (cNt x).toArray, .agg (cPlc q).toArray, .agg (cPlc r).toArray] w fun e w' => ∃ A c, e = .returned (.tuple #[.agg #[.int .i64 (tripC (tripV x q r)), .slice A (tripW (tripV x q r)).length c], .bool (tripV x q r).isSome]) ∧ R.Gives w w' A (tripW (tripV x q r)).length c 3 1 ((tripW (tripV x q r)).flatMap R.cI) := by
  have hM := R.Own.start [] w
  have hL := hG.lasts
  obtain ⟨_, ⟨h1, h2, h3, _⟩, _⟩ := hG
  unfold tripV
  by_cases ha : netB x = true ∧ q.e = r.e ∧ placeP x q ∧ placeP x r
  · rw [if_pos ha]
    obtain ⟨hb, he, hp, hr⟩ := ha
    have dp := decide_eq_true hp
    have dr := decide_eq_true hr
    obtain ⟨w1, w2, w3⟩ := place_w hb hp
    obtain ⟨p1, p2, p3, p4⟩ := hp
    obtain ⟨r1, r2, r3, r4⟩ := hr
    rw [← he] at r4
    refine R.calls_of_WC (fn := Try.f27) Try.func27 rfl Try.ntmps27 (Nat.le_of_ble_eq_true rfl) ?_
    (refine R.stepV ?_; (repeat' (first | (with_reducible refine And.intro ?_ ?_) | (with_reducible intro _))); all_goals refine R.Lft.mk ?_)
    all_goals first
      | exact nbw_t hb (by assumption)
      | exact nbw_t dp (by assumption)
      | exact nbw_t dr (by assumption)
      | exact absurd he (by assumption)
      | (rw [dirV1 (by assumption) (by omega)]; exact ⟨_, _, rfl, R.Own.gives (by assumption)⟩)
      | (rw [dirV2 (by first | exact .inl (by assumption) | exact .inr (by omega)) (by assumption) (by omega)]; exact ⟨_, _, rfl, R.Own.gives (by assumption)⟩)
      | (rw [dirV0 (by first | exact .inl (by assumption) | exact .inr (by omega)) (by first | exact .inl (by assumption) | exact .inr (by omega))]; exact ⟨none, 0, rfl, (R.Own.nil (by assumption) _ _).gives⟩)
  · rw [if_neg ha]
    refine R.calls_of_WC (fn := Try.f27) Try.func27 rfl Try.ntmps27 (Nat.le_of_ble_eq_true rfl) ?_
    (refine R.stepV ?_; (repeat' (first | (with_reducible refine And.intro ?_ ?_) | (with_reducible intro _))); all_goals refine R.Lft.mk ?_)
    all_goals first
      | exact ⟨none, 0, rfl, (R.Own.nil (by assumption) _ _).gives⟩
      | exact absurd ⟨nbf_ (by assumption), by first | assumption | exact Decidable.not_not.1 (by assumption), of_decide_eq_true (nbf_ (by assumption)), of_decide_eq_true (nbf_ (by assumption))⟩ ha
instance con_light (x : Nt) (r : Rl) : R.ConB Try.prog 25 #[.agg (cNt x).toArray, .agg (cRl r).toArray] Unit (fun _ _ => True) (fun _ => .bool (decide (x.s.n ≤ 30 ∧ x.e.n ≤ 40 ∧ x.p.n ≤ 20 ∧ r.b.n ≤ 60))) := ⟨fun _ w _ => by
  have hM := R.Own.start [] w
  refine R.calls_of_WC (fn := Try.f25) Try.func25 rfl Try.ntmps25 (Nat.le_of_ble_eq_true rfl) ?_
  (refine R.stepV ?_; (repeat' (first | (with_reducible refine And.intro ?_ ?_) | (with_reducible intro _))); all_goals refine R.Lft.mk ?_)
  all_goals
    refine ⟨?_, R.Own.below (by assumption)⟩
    first
    | rw [show decide (x.s.n ≤ 30 ∧ x.e.n ≤ 40 ∧ x.p.n ≤ 20 ∧ r.b.n ≤ 60) = decide ((r.b.n : Int) ≤ 60) from decide_eq_decide.2 (by omega)]
    | rw [show decide (x.s.n ≤ 30 ∧ x.e.n ≤ 40 ∧ x.p.n ≤ 20 ∧ r.b.n ≤ 60) = false from decide_eq_false (by omega)]⟩
theorem R.Own.giveN {F : List Nat} {W w w' : World} {l lc : List R.Res} (h : R.Own F W w l) (hc : R.Own [] w w' lc) : R.Own F W w' (l ++ lc) := R.Own.callF (l := l) (lc := []) (by rw [List.append_nil]; exact h) hc
end Go.Proofs.Ytoainfnhmdcpoaa
