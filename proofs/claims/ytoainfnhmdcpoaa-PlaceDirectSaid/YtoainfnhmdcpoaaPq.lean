/- The law PlaceDirect: the walk. -/
import Derived.Test.YtoainfnhmdcpoaaPo
namespace Go.Proofs.Ytoainfnhmdcpoaa
open Go.ChangeShapes Go.WideShapes Go.ChangeAt Go.RowKit
open R (In64 InU64 lo64 nth)
theorem leave_f {x : Nt} {q : Plc} (hp : placeP x q) : leaveV x q (2 * q.e) = if (nth x.e.L q.e.toNat).f = true then (nth x.e.L q.e.toNat).w - q.o else -1 := by
  obtain ⟨p1, p2, p3, p4⟩ := hp
  have e1 : 2 * q.e / 2 = q.e := by omega
  have e2 : 2 * q.e % 2 = 0 := by omega
  have hw : wayB x (2 * q.e) = (nth x.e.L q.e.toNat).f := by rw [wbf (by omega) (by omega) e2, e1]
  unfold leaveV
  rw [hw, e1, if_pos e2]
  cases (nth x.e.L q.e.toNat).f
  · rw [if_neg (by simp)]; rfl
  · rw [if_pos (by simp)]; rfl
theorem leave_k {x : Nt} {q : Plc} (hp : placeP x q) : leaveV x q (2 * q.e + 1) = if (nth x.e.L q.e.toNat).k = true then q.o else -1 := by
  obtain ⟨p1, p2, p3, p4⟩ := hp
  have e1 : (2 * q.e + 1) / 2 = q.e := by omega
  have e2 : ¬ (2 * q.e + 1) % 2 = 0 := by omega
  have hw : wayB x (2 * q.e + 1) = (nth x.e.L q.e.toNat).k := by rw [wbk (by omega) (by omega) e2, e1]
  unfold leaveV
  rw [hw, e1, if_neg e2]
  cases (nth x.e.L q.e.toNat).k
  · rw [if_neg (by simp)]; rfl
  · rw [if_pos (by simp)]; rfl
theorem leave_no {x : Nt} {r : Plc} {v : Int} (h : v / 2 ≠ r.e) : leaveV x r v = -1 := by
  unfold leaveV
  rw [if_neg fun g => h g.1]
section
variable {x : Nt} {q r : Plc} (hb : netB x = true) (hp : placeP x q) (hr : placeP x r)
include hb hp hr
theorem direct_0 (h : 0 ≤ directV x q r (2 * q.e)) : tripV x q r = some (directV x q r (2 * q.e), 2 * q.e) := by
  by_cases he : q.e = r.e
  · have a := leave_f hp
    have b := leave_f hr
    rw [← he] at b
    have hw := edge_w hb (i := q.e.toNat) (by obtain ⟨p1, p2, _⟩ := hp; omega)
    obtain ⟨p1, p2, p3, p4⟩ := hp
    obtain ⟨r1, r2, r3, r4⟩ := id hr
    rw [← he] at r4
    unfold tripV
    rw [if_pos ⟨hb, he, ⟨p1, p2, p3, p4⟩, hr⟩]
    unfold directV at h ⊢
    cases hf : (nth x.e.L q.e.toNat).f with
    | false =>
      rw [hf, if_neg (by simp)] at a b
      rw [if_pos (by omega)] at h
      omega
    | true =>
      rw [hf, if_pos rfl] at a b
      by_cases hc : q.o ≤ r.o
      · rw [dirV1 hf hc, if_neg (by omega), a, b]
        congr 2
        omega
      · rw [if_pos (by omega)] at h
        omega
  · have b := leave_no (x := x) (r := r) (v := 2 * q.e) (by omega)
    unfold directV at h
    rw [if_pos (by omega)] at h
    omega
theorem direct_1 (h0 : directV x q r (2 * q.e) < 0) (h : 0 ≤ directV x q r (2 * q.e + 1)) : tripV x q r = some (directV x q r (2 * q.e + 1), 2 * q.e + 1) := by
  by_cases he : q.e = r.e
  · have a := leave_k hp
    have b := leave_k hr
    have a0 := leave_f hp
    have b0 := leave_f hr
    rw [← he] at b b0
    have hw := edge_w hb (i := q.e.toNat) (by obtain ⟨p1, p2, _⟩ := hp; omega)
    obtain ⟨p1, p2, p3, p4⟩ := hp
    obtain ⟨r1, r2, r3, r4⟩ := id hr
    rw [← he] at r4
    unfold tripV
    rw [if_pos ⟨hb, he, ⟨p1, p2, p3, p4⟩, hr⟩]
    unfold directV at h h0 ⊢
    have hnf : (nth x.e.L q.e.toNat).f = false ∨ ¬ q.o ≤ r.o := by
      cases hf : (nth x.e.L q.e.toNat).f with
      | false => exact .inl rfl
      | true =>
        rw [hf, if_pos rfl] at a0 b0
        refine .inr fun hc => ?_
        rw [if_neg (by omega)] at h0
        omega
    cases hk : (nth x.e.L q.e.toNat).k with
    | false =>
      rw [hk, if_neg (by simp)] at a b
      rw [if_pos (by omega)] at h
      omega
    | true =>
      rw [hk, if_pos rfl] at a b
      by_cases hc : r.o ≤ q.o
      · rw [dirV2 hnf hk hc, if_neg (by omega), a, b]
      · rw [if_pos (by omega)] at h
        omega
  · have b := leave_no (x := x) (r := r) (v := 2 * q.e + 1) (by omega)
    unfold directV at h
    rw [if_pos (by omega)] at h
    omega
theorem direct_2 (h0 : directV x q r (2 * q.e) < 0) (h : directV x q r (2 * q.e + 1) < 0) : tripV x q r = none := by
  unfold tripV
  by_cases he : q.e = r.e
  · have a := leave_k hp
    have b := leave_k hr
    have a0 := leave_f hp
    have b0 := leave_f hr
    rw [← he] at b b0
    have hw := edge_w hb (i := q.e.toNat) (by obtain ⟨p1, p2, _⟩ := hp; omega)
    obtain ⟨p1, p2, p3, p4⟩ := hp
    obtain ⟨r1, r2, r3, r4⟩ := id hr
    rw [← he] at r4
    rw [if_pos ⟨hb, he, ⟨p1, p2, p3, p4⟩, hr⟩]
    unfold directV at h h0
    refine dirV0 ?_ ?_
    · cases hf : (nth x.e.L q.e.toNat).f with
      | false => exact .inl rfl
      | true =>
        rw [hf, if_pos rfl] at a0 b0
        refine .inr fun hc => ?_
        rw [if_neg (by omega)] at h0
        omega
    · cases hk : (nth x.e.L q.e.toNat).k with
      | false => exact .inl rfl
      | true =>
        rw [hk, if_pos rfl] at a b
        refine .inr fun hc => ?_
        rw [if_neg (by omega)] at h
        omega
  · rw [if_neg fun g => he g.2.1]
end
theorem trip_not {x : Nt} {q r : Plc} (h : ¬ (mayP x q = true ∧ mayP x r = true)) : tripV x q r = none := by
  unfold tripV
  rw [if_neg fun g => h ⟨by rw [mayP_d g.1]; exact decide_eq_true g.2.2.1, by rw [mayP_d g.1]; exact decide_eq_true g.2.2.2⟩]
set_option maxHeartbeats 4000000 in
theorem placeDirect_any (x : Nt) (q r : Plc) (w : World) (hG : GNt w x) : Calls Try.prog 5 #[.agg (cNt x).toArray, .agg (cPlc q).toArray, .agg (cPlc r).toArray] w fun e w' => e = .returned (.bool true) ∧ Below w.heap.size w w' := by
  have hM := R.Own.start [] w
  have hL := hG.lasts
  refine R.calls_of_WC (fn := Try.f5) Try.func5 rfl Try.ntmps5 (Nat.le_of_ble_eq_true rfl) ?_
  (refine R.stepV ?_; (repeat' (first | (with_reducible refine And.intro ?_ ?_) | (with_reducible intro _))); all_goals refine R.Lft.mk ?_)
  · exact ⟨rfl, R.Own.below (by assumption)⟩
  refine R.WO_call3 rfl rfl R.vv R.vv R.vv ?_
  refine (pdirect_any x q r _ (GNt.now R.ohm hG)).mono ?_
  rintro _ w3 ⟨A, c, rfl, hG3⟩
  have hM := R.Own.give R.ohm hG3
  refine ⟨_, rfl, ?_⟩
  by_cases hm : mayP x q = true ∧ mayP x r = true
  · obtain ⟨m1, m2⟩ := hm
    obtain ⟨hb, hp⟩ := mayP_t m1
    obtain ⟨-, hr⟩ := mayP_t m2
    obtain ⟨w1, w2, u3⟩ := place_w hb hp
    have hp0 := hp.1
    obtain ⟨T, hT⟩ : ∃ T, tripV x q r = T := ⟨_, rfl⟩
    rw [hT] at hG3 hM ⊢
    (refine R.stepV ?_; (repeat' (first | (with_reducible refine And.intro ?_ ?_) | (with_reducible intro _))); all_goals refine R.Lft.mk ?_)
    all_goals first
      | exact bbw_t m1 (by assumption)
      | exact bbw_t m2 (by assumption)
      | skip
    rename_i gn _ _ gq _ _ gr _ _ _ _ _ gt _ _ _ _ _ _ _ _ hM _
    refine R.WC_loop (fun i : Nat => [(3, .pointer (some ⟨gn, 0, none⟩)), (4, .pointer (some ⟨gq, 0, none⟩)), (5, .pointer (some ⟨gr, 0, none⟩)), (6, .bool false), (7, .pointer (some ⟨gt, 0, none⟩)), (8, .bool T.isSome), (9, .int .i64 (2 * q.e + ((i : Nat) : Int)))])
      (fun i w2 => i ≤ 2 ∧ (0 < i → directV x q r (2 * q.e) < 0) ∧ (1 < i → directV x q r (2 * q.e + 1) < 0) ∧ R.Own [] w w2 [.blk gt 52 [.int .i64 (tripC T), .slice A (tripW T).length c], .row A (tripW T).length c 3 1 ((tripW T).flatMap R.cI), .blk gr 46 (cPlc r), .blk gq 46 (cPlc q), .blk gn 44 (cNt x)]) (fun i => 2 - i)
      ⟨0, ⟨rfl, rfl, rfl, rfl, rfl, rfl, R.viaI rfl (by omega), trivial⟩, by omega, fun h => by omega, fun h => by omega, hM⟩ ?_
    clear hM hG3
    rintro i f w4 ⟨hi, n0, n1, hM⟩
    rcases (show i = 0 ∨ i = 1 ∨ i = 2 by omega) with rfl | rfl | rfl
    · rw [show 2 * q.e + ((0 : Nat) : Int) = 2 * q.e by omega]
      · by_cases hd : 0 ≤ directV x q r (2 * q.e)
        · have hT2 : T = some (directV x q r (2 * q.e), 2 * q.e) := by rw [← hT]; exact direct_0 hb hp hr hd
          subst hT2
          rw [show tripW (some (directV x q r (2 * q.e), 2 * q.e)) = [2 * q.e] from rfl, show ([2 * q.e] : List Int).length = 1 from rfl, show tripC (some (directV x q r (2 * q.e), 2 * q.e)) = directV x q r (2 * q.e) from rfl] at hM
          have e0 : nth [2 * q.e] (Int.toNat 0) = 2 * q.e := rfl
          rw [show (some (directV x q r (2 * q.e), 2 * q.e)).isSome = true from rfl, show tripW (some (directV x q r (2 * q.e), 2 * q.e)) = [2 * q.e] from rfl, show ([2 * q.e] : List Int).length = 1 from rfl]
          (refine R.stepV ?_; (repeat' (first | (with_reducible refine And.intro ?_ ?_) | (with_reducible intro _))); all_goals refine R.Lft.mk ?_)
          all_goals first
            | exact ⟨rfl, R.Own.below (by assumption)⟩
            | exact absurd rfl (by assumption)
            | exact absurd e0 (by assumption)
            | (exfalso; omega)
        · have hd' : directV x q r (2 * q.e) < 0 := by omega
          (refine R.stepV ?_; (repeat' (first | (with_reducible refine And.intro ?_ ?_) | (with_reducible intro _))); all_goals refine R.Lft.mk ?_)
          refine ⟨1, ⟨rfl, rfl, rfl, rfl, rfl, rfl, R.viaI rfl (by omega), trivial⟩, ⟨by omega, fun _ => hd', fun h => by omega, R.ohm⟩, by omega⟩
    · rw [show 2 * q.e + ((1 : Nat) : Int) = 2 * q.e + 1 by omega]
      have n0 := n0 (by omega)
      · by_cases hd : 0 ≤ directV x q r (2 * q.e + 1)
        · have hT2 : T = some (directV x q r (2 * q.e + 1), 2 * q.e + 1) := by rw [← hT]; exact direct_1 hb hp hr n0 hd
          subst hT2
          rw [show tripW (some (directV x q r (2 * q.e + 1), 2 * q.e + 1)) = [2 * q.e + 1] from rfl, show ([2 * q.e + 1] : List Int).length = 1 from rfl, show tripC (some (directV x q r (2 * q.e + 1), 2 * q.e + 1)) = directV x q r (2 * q.e + 1) from rfl] at hM
          have e0 : nth [2 * q.e + 1] (Int.toNat 0) = 2 * q.e + 1 := rfl
          rw [show (some (directV x q r (2 * q.e + 1), 2 * q.e + 1)).isSome = true from rfl, show tripW (some (directV x q r (2 * q.e + 1), 2 * q.e + 1)) = [2 * q.e + 1] from rfl, show ([2 * q.e + 1] : List Int).length = 1 from rfl]
          (refine R.stepV ?_; (repeat' (first | (with_reducible refine And.intro ?_ ?_) | (with_reducible intro _))); all_goals refine R.Lft.mk ?_)
          all_goals first
            | exact ⟨rfl, R.Own.below (by assumption)⟩
            | exact absurd rfl (by assumption)
            | exact absurd e0 (by assumption)
            | (exfalso; omega)
        · have hd' : directV x q r (2 * q.e + 1) < 0 := by omega
          (refine R.stepV ?_; (repeat' (first | (with_reducible refine And.intro ?_ ?_) | (with_reducible intro _))); all_goals refine R.Lft.mk ?_)
          refine ⟨2, ⟨rfl, rfl, rfl, rfl, rfl, rfl, R.viaI rfl (by omega), trivial⟩, ⟨by omega, fun _ => n0, fun _ => hd', R.ohm⟩, by omega⟩
    · have n0 := n0 (by omega)
      have n1 := n1 (by omega)
      have hT2 : T = none := by rw [← hT]; exact direct_2 hb hp hr n0 n1
      subst hT2
      rw [show tripW none = [] from rfl, show tripC none = 0 from rfl, show ([] : List Int).length = 0 from rfl] at hM
      rw [show (2 * q.e + ((2 : Nat) : Int)) = 2 * q.e + 2 by omega]
      (refine R.stepV ?_; (repeat' (first | (with_reducible refine And.intro ?_ ?_) | (with_reducible intro _))); all_goals refine R.Lft.mk ?_)
      exact ⟨rfl, R.Own.below (by assumption)⟩
  · rw [trip_not hm] at hM hG3 ⊢
    rw [show tripW none = [] from rfl, show tripC none = 0 from rfl, show ([] : List Int).length = 0 from rfl] at *
    (refine R.stepV ?_; (repeat' (first | (with_reducible refine And.intro ?_ ?_) | (with_reducible intro _))); all_goals refine R.Lft.mk ?_)
    all_goals first
      | exact ⟨rfl, R.Own.below (by assumption)⟩
      | exact absurd ⟨by assumption, by assumption⟩ hm
end Go.Proofs.Ytoainfnhmdcpoaa
