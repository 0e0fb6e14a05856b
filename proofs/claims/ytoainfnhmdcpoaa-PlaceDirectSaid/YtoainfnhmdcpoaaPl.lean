/- Package place and snicketref34: places on edges. -/
import Derived.Test.YtoainfnhmdcpoaaCx
namespace Go.Proofs.Ytoainfnhmdcpoaa
open Go.RowKit
open R (In64 InU64 lo64 nth)

/-- May a place be, of a net that may. -/
def placeP (x : Nt) (q : Plc) : Prop := 0 ≤ q.e ∧ q.e < x.e.n ∧ 0 ≤ q.o ∧ q.o ≤ (nth x.e.L q.e.toNat).w
instance decPlaceP (x : Nt) (q : Plc) : Decidable (placeP x q) := by unfold placeP; infer_instance
noncomputable def mayP (x : Nt) (q : Plc) : Bool := netB x && decide (placeP x q)
/-- An edge's ways, with a key each. -/
def bothL (e : Ed) (t forth back : Int) : List Item := (if e.f then [⟨forth, 2 * t⟩] else []) ++ (if e.k then [⟨back, 2 * t + 1⟩] else [])
def edAt (x : Nt) (q : Plc) : Ed := nth x.e.L q.e.toNat
noncomputable def leaveL (x : Nt) (q : Plc) : List Item := if mayP x q then bothL (edAt x q) q.e ((edAt x q).w - q.o) q.o else []
noncomputable def reachL (x : Nt) (q : Plc) : List Item := if mayP x q then bothL (edAt x q) q.e q.o ((edAt x q).w - q.o) else []
noncomputable def otherP (x : Nt) (q : Plc) : Plc := if mayP x q then ⟨q.e, (edAt x q).w - q.o⟩ else ⟨0, 0⟩
def GPl (q : Plc) : Prop := In64 q.e ∧ In64 q.o
theorem mayP_t {x : Nt} {q : Plc} (h : mayP x q = true) : netB x = true ∧ placeP x q := by
  unfold mayP at h
  rw [Bool.and_eq_true] at h
  exact ⟨h.1, of_decide_eq_true h.2⟩
theorem mayP_n {x : Nt} {q : Plc} (h : netB x = false) : mayP x q = false := by unfold mayP; rw [h]; rfl
theorem mayP_d {x : Nt} {q : Plc} (h : netB x = true) : mayP x q = decide (placeP x q) := by unfold mayP; rw [h]; rfl
theorem edge_w {x : Nt} {i : Nat} (h : netB x = true) (hi : i < x.e.n) : 0 ≤ (nth x.e.L i).w ∧ (nth x.e.L i).w ≤ 2147483648 := ((netB_iff.1 h).2.2.2.2.1 i hi).2.2.2.1
theorem place_w {x : Nt} {q : Plc} (h : netB x = true) (hp : placeP x q) : 0 ≤ (nth x.e.L q.e.toNat).w ∧ (nth x.e.L q.e.toNat).w ≤ 2147483648 ∧ q.e ≤ 200000 := by
  obtain ⟨h1, h2, _⟩ := hp
  have := edge_w h (i := q.e.toNat) (by omega)
  have := netB_e h
  omega
theorem place_iff {x : Nt} {q : Plc} (h1 : 0 ≤ q.e) (h2 : q.e < x.e.n) (h3 : 0 ≤ q.o) : decide (placeP x q) = decide (q.o ≤ (nth x.e.L q.e.toNat).w) := decide_eq_decide.2 ⟨fun h => h.2.2.2, fun h => ⟨h1, h2, h3, h⟩⟩
instance con_pmay (x : Nt) (q : Plc) : R.ConB Try.prog 96 #[.agg (cNt x).toArray, .agg (cPlc q).toArray] Unit (fun _ w => GNt w x) (fun _ => .bool (decide (placeP x q))) := ⟨fun _ w ⟨_, ⟨h1, h2, h3, _⟩, _⟩ => by
  have hM := R.Own.start [] w
  refine R.calls_of_WC (fn := Try.f96) Try.func96 rfl Try.ntmps96 (Nat.le_of_ble_eq_true rfl) ?_
  (refine R.stepV ?_; (repeat' (first | (with_reducible refine And.intro ?_ ?_) | (with_reducible intro _))); all_goals refine R.Lft.mk ?_)
  all_goals
    refine ⟨?_, R.Own.below (by assumption)⟩
    first
    | rw [place_iff (by assumption) (by assumption) (by assumption)]
    | rw [decide_eq_false (by unfold placeP; omega : ¬ placeP x q)]⟩
instance con_pMay (x : Nt) (q : Plc) : R.ConB Try.prog 33 #[.agg (cNt x).toArray, .agg (cPlc q).toArray] Unit (fun _ w => GNt w x) (fun _ => .bool (mayP x q)) := ⟨fun _ w hG => by
  have hM := R.Own.start [] w
  have hL := hG.lasts
  cases hn : netB x with
  | false =>
    rw [mayP_n hn]
    refine R.calls_of_WC (fn := Try.f33) Try.func33 rfl Try.ntmps33 (Nat.le_of_ble_eq_true rfl) ?_
    (refine R.stepV ?_; (repeat' (first | (with_reducible refine And.intro ?_ ?_) | (with_reducible intro _))); all_goals refine R.Lft.mk ?_)
    all_goals first
      | exact ⟨rfl, R.Own.below (by assumption)⟩
      | exact bbw_t (by assumption) hn
  | true =>
    rw [mayP_d hn]
    refine R.calls_of_WC (fn := Try.f33) Try.func33 rfl Try.ntmps33 (Nat.le_of_ble_eq_true rfl) ?_
    (refine R.stepV ?_; (repeat' (first | (with_reducible refine And.intro ?_ ?_) | (with_reducible intro _))); all_goals refine R.Lft.mk ?_)
    all_goals first
      | exact ⟨rfl, R.Own.below (by assumption)⟩
      | exact bbw_t hn (by assumption)⟩
instance con_rpMay (x : Nt) (q : Plc) : R.ConB Try.prog 28 #[.agg (cNt x).toArray, .agg (cPlc q).toArray] Unit (fun _ w => GNt w x) (fun _ => .bool (mayP x q)) := ⟨fun _ w hG => by
  have hM := R.Own.start [] w
  have hL := hG.lasts
  obtain ⟨_, ⟨h1, h2, h3, _⟩, _⟩ := hG
  cases hn : netB x with
  | false =>
    rw [mayP_n hn]
    refine R.calls_of_WC (fn := Try.f28) Try.func28 rfl Try.ntmps28 (Nat.le_of_ble_eq_true rfl) ?_
    (refine R.stepU ?_; (repeat' (first | (with_reducible refine And.intro ?_ ?_) | (with_reducible intro _))); all_goals refine R.Lft.mk ?_)
    refine R.WC_planO [(0, false), (1, true), (2, false), (3, false), (4, false), (5, false), (6, false), (7, false), (8, false), (9, false), (10, false), (11, false), (12, false), (13, false), (14, false), (15, false), (16, false), (17, false), (18, false), (19, false), (20, false), (21, false), (22, false), (23, false), (24, false), (25, false), (26, false), (27, false), (28, false), (29, false), (30, false), (31, false), (32, false)] R.mixed (by decide +kernel) R.ohm ?_
    (refine R.stepU ?_; (repeat' (first | (with_reducible refine And.intro ?_ ?_) | (with_reducible intro _))); all_goals refine R.Lft.mk ?_)
    all_goals first
      | exact ⟨rfl, R.Own.below (by assumption)⟩
      | exact bbw_t (by assumption) hn
  | true =>
    rw [mayP_d hn]
    refine R.calls_of_WC (fn := Try.f28) Try.func28 rfl Try.ntmps28 (Nat.le_of_ble_eq_true rfl) ?_
    (refine R.stepU ?_; (repeat' (first | (with_reducible refine And.intro ?_ ?_) | (with_reducible intro _))); all_goals refine R.Lft.mk ?_)
    refine R.WC_planO [(0, false), (1, true), (2, false), (3, false), (4, false), (5, false), (6, false), (7, false), (8, false), (9, false), (10, false), (11, false), (12, false), (13, false), (14, false), (15, false), (16, false), (17, false), (18, false), (19, false), (20, false), (21, false), (22, false), (23, false), (24, false), (25, false), (26, false), (27, false), (28, false), (29, false), (30, false), (31, false), (32, false)] R.mixed (by decide +kernel) R.ohm ?_
    (refine R.stepU ?_; (repeat' (first | (with_reducible refine And.intro ?_ ?_) | (with_reducible intro _))); all_goals refine R.Lft.mk ?_)
    all_goals first
      | exact bbw_t hn (by assumption)
      | (refine ⟨?_, R.Own.below (by assumption)⟩
         first
         | rw [place_iff (by assumption) (by assumption) (by assumption)]
         | rw [decide_eq_false (by unfold placeP; omega : ¬ placeP x q)])⟩
instance con_both (e : Ed) (t fo ba : Int) : R.ConR Try.prog 97 #[.agg (cEd e).toArray, .int .i64 t, .int .i64 fo, .int .i64 ba] Unit (fun _ _ => 0 ≤ t ∧ t ≤ 200000) 63 2 (fun _ => (bothL e t fo ba).length) (fun _ => (bothL e t fo ba).flatMap cItem) := ⟨fun _ w ht => by
  have hM := R.Own.start [] w
  unfold bothL
  obtain ⟨ea, eb, ew, ef, ek⟩ := e
  cases ef <;> cases ek
  all_goals
    refine R.calls_of_WC (fn := Try.f97) Try.func97 rfl Try.ntmps97 (Nat.le_of_ble_eq_true rfl) ?_
    (refine R.stepV ?_; (repeat' (first | (with_reducible refine And.intro ?_ ?_) | (with_reducible intro _))); all_goals refine R.Lft.mk ?_)
  · exact ⟨none, 0, rfl, (R.Own.nil (by assumption) _ _).gives⟩
  · exact ⟨_, _, rfl, R.Own.gives (by assumption)⟩
  · exact ⟨_, _, rfl, R.Own.gives (by assumption)⟩
  · exact ⟨_, _, rfl, R.Own.gives (by assumption)⟩⟩
instance con_leave (x : Nt) (q : Plc) : R.ConR Try.prog 31 #[.agg (cNt x).toArray, .agg (cPlc q).toArray] Unit (fun _ w => GNt w x) 63 2 (fun _ => (leaveL x q).length) (fun _ => (leaveL x q).flatMap cItem) := ⟨fun _ w hG => by
  have hM := R.Own.start [] w
  have hL := hG.lasts
  obtain ⟨_, ⟨h1, h2, h3, _⟩, _⟩ := hG
  unfold leaveL
  cases hn : mayP x q with
  | false =>
    refine R.calls_of_WC (fn := Try.f31) Try.func31 rfl Try.ntmps31 (Nat.le_of_ble_eq_true rfl) ?_
    (refine R.stepV ?_; (repeat' (first | (with_reducible refine And.intro ?_ ?_) | (with_reducible intro _))); all_goals refine R.Lft.mk ?_)
    all_goals first
      | exact ⟨none, 0, rfl, (R.Own.nil (by assumption) _ _).gives⟩
      | exact nbw_f hn (by assumption)
  | true =>
    obtain ⟨hb, hp⟩ := mayP_t hn
    obtain ⟨w1, w2, w3⟩ := place_w hb hp
    obtain ⟨p1, p2, p3, p4⟩ := hp
    refine R.calls_of_WC (fn := Try.f31) Try.func31 rfl Try.ntmps31 (Nat.le_of_ble_eq_true rfl) ?_
    (refine R.stepV ?_; (repeat' (first | (with_reducible refine And.intro ?_ ?_) | (with_reducible intro _))); all_goals refine R.Lft.mk ?_)
    · exact nbw_t hn (by assumption)
    · exact ⟨_, _, rfl, R.Own.gives (by assumption)⟩⟩
instance con_reach (x : Nt) (q : Plc) : R.ConR Try.prog 32 #[.agg (cNt x).toArray, .agg (cPlc q).toArray] Unit (fun _ w => GNt w x) 63 2 (fun _ => (reachL x q).length) (fun _ => (reachL x q).flatMap cItem) := ⟨fun _ w hG => by
  have hM := R.Own.start [] w
  have hL := hG.lasts
  obtain ⟨_, ⟨h1, h2, h3, _⟩, _⟩ := hG
  unfold reachL
  cases hn : mayP x q with
  | false =>
    refine R.calls_of_WC (fn := Try.f32) Try.func32 rfl Try.ntmps32 (Nat.le_of_ble_eq_true rfl) ?_
    (refine R.stepV ?_; (repeat' (first | (with_reducible refine And.intro ?_ ?_) | (with_reducible intro _))); all_goals refine R.Lft.mk ?_)
    all_goals first
      | exact ⟨none, 0, rfl, (R.Own.nil (by assumption) _ _).gives⟩
      | exact nbw_f hn (by assumption)
  | true =>
    obtain ⟨hb, hp⟩ := mayP_t hn
    obtain ⟨w1, w2, w3⟩ := place_w hb hp
    obtain ⟨p1, p2, p3, p4⟩ := hp
    refine R.calls_of_WC (fn := Try.f32) Try.func32 rfl Try.ntmps32 (Nat.le_of_ble_eq_true rfl) ?_
    (refine R.stepV ?_; (repeat' (first | (with_reducible refine And.intro ?_ ?_) | (with_reducible intro _))); all_goals refine R.Lft.mk ?_)
    · exact nbw_t hn (by assumption)
    · exact ⟨_, _, rfl, R.Own.gives (by assumption)⟩⟩
instance con_pother (x : Nt) (q : Plc) : R.ConB Try.prog 30 #[.agg (cNt x).toArray, .agg (cPlc q).toArray] Unit (fun _ w => GNt w x) (fun _ => .tuple #[.agg (cPlc (otherP x q)).toArray, .bool (mayP x q)]) := ⟨fun _ w hG => by
  have hM := R.Own.start [] w
  have hL := hG.lasts
  obtain ⟨_, ⟨h1, h2, h3, _⟩, _⟩ := hG
  unfold otherP
  cases hn : mayP x q with
  | false =>
    refine R.calls_of_WC (fn := Try.f30) Try.func30 rfl Try.ntmps30 (Nat.le_of_ble_eq_true rfl) ?_
    (refine R.stepU ?_; (repeat' (first | (with_reducible refine And.intro ?_ ?_) | (with_reducible intro _))); all_goals refine R.Lft.mk ?_)
    all_goals first
      | exact ⟨rfl, R.Own.below (by assumption)⟩
      | exact nbw_f hn (by assumption)
  | true =>
    obtain ⟨hb, hp⟩ := mayP_t hn
    obtain ⟨w1, w2, w3⟩ := place_w hb hp
    obtain ⟨p1, p2, p3, p4⟩ := hp
    refine R.calls_of_WC (fn := Try.f30) Try.func30 rfl Try.ntmps30 (Nat.le_of_ble_eq_true rfl) ?_
    (refine R.stepU ?_; (repeat' (first | (with_reducible refine And.intro ?_ ?_) | (with_reducible intro _))); all_goals refine R.Lft.mk ?_)
    · exact nbw_t hn (by assumption)
    · exact ⟨rfl, R.Own.below (by assumption)⟩⟩
/-- What it costs to leave a place along a way; -1: there is none such. -/
def leaveV (x : Nt) (q : Plc) (v : Int) : Int := if v / 2 = q.e ∧ wayB x v = true then (if v % 2 = 0 then (edAt x q).w - q.o else q.o) else -1
instance con_rleave (x : Nt) (q : Plc) (v : Int) : R.ConB Try.prog 34 #[.agg (cNt x).toArray, .agg (cPlc q).toArray, .int .i64 v] Unit (fun _ w => GNt w x ∧ netB x = true ∧ placeP x q ∧ 0 ≤ v ∧ v ≤ 1000000) (fun _ => .int .i64 (leaveV x q v)) := ⟨fun _ w ⟨hG, hb, hp, v0, v1⟩ => by
  have hM := R.Own.start [] w
  have hL := hG.lasts
  obtain ⟨_, ⟨h1, h2, h3, _⟩, _⟩ := hG
  obtain ⟨w1, w2, w3⟩ := place_w hb hp
  obtain ⟨p1, p2, p3, p4⟩ := hp
  have hk := netB_e hb
  have hv : In64 v := by unfold In64; omega
  unfold leaveV
  by_cases hd : v / 2 = q.e
  · cases hw : wayB x v with
    | false =>
      rw [if_neg (by simp)]
      refine R.calls_of_WC (fn := Try.f34) Try.func34 rfl Try.ntmps34 (Nat.le_of_ble_eq_true rfl) ?_
      (refine R.stepV ?_; (repeat' (first | (with_reducible refine And.intro ?_ ?_) | (with_reducible intro _))); all_goals refine R.Lft.mk ?_)
      all_goals first
        | exact ⟨rfl, R.Own.below (by assumption)⟩
        | exact nbw_f hw (by assumption)
    | true =>
      rw [if_pos ⟨hd, rfl⟩]
      refine R.calls_of_WC (fn := Try.f34) Try.func34 rfl Try.ntmps34 (Nat.le_of_ble_eq_true rfl) ?_
      (refine R.stepV ?_; (repeat' (first | (with_reducible refine And.intro ?_ ?_) | (with_reducible intro _))); all_goals refine R.Lft.mk ?_)
      all_goals first
        | exact nbw_t hw (by assumption)
        | (refine ⟨?_, R.Own.below (by assumption)⟩
           first
           | rw [if_pos (by assumption)]; rfl
           | rw [if_neg (by assumption)])
  · rw [if_neg fun h => hd h.1]
    refine R.calls_of_WC (fn := Try.f34) Try.func34 rfl Try.ntmps34 (Nat.le_of_ble_eq_true rfl) ?_
    (refine R.stepV ?_; (repeat' (first | (with_reducible refine And.intro ?_ ?_) | (with_reducible intro _))); all_goals refine R.Lft.mk ?_; (all_goals (try (exact ⟨rfl, R.Own.below (by assumption)⟩))))
    all_goals first
      | exact ⟨rfl, R.Own.below (by assumption)⟩
      | exact absurd (by assumption) hd⟩
end Go.Proofs.Ytoainfnhmdcpoaa
