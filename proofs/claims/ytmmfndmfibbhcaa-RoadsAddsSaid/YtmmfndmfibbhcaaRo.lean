/- Package roads: Drop, Find. -/
import Derived.Test.YtmmfndmfibbhcaaRn
import Derived.Test.YtmmfndmfibbhcaaRl
namespace Go.Proofs.Ytmmfndmfibbhcaa
open Go.RowKit
open R (In64 InU64 lo64 nth)
def dropL (L : List Road) (t : Int) : List Road := L.filter fun z => decide (z.rank ≠ t)
theorem del_pos {L : List Road} {t : Int} (hs : (ids L).Pairwise (· < ·)) (ht : t ∈ ids L) : posOf (ids L) t < L.length ∧ L.take (posOf (ids L) t) ++ L.drop (posOf (ids L) t + 1) = dropL L t ∧ (nth L (posOf (ids L) t)).rank = t := by
  induction L with
  | nil => cases ht
  | cons z l ih =>
    have hs2 : (∀ b ∈ ids l, z.rank < b) ∧ (ids l).Pairwise (· < ·) := List.pairwise_cons.1 hs
    have ht2 : t = z.rank ∨ t ∈ ids l := List.mem_cons.1 ht
    by_cases hz : z.rank < t
    · have ht3 : t ∈ ids l := by
        rcases ht2 with h | h
        · omega
        · exact h
      obtain ⟨i1, i2, i3⟩ := ih hs2.2 ht3
      have e1 : posOf (ids (z :: l)) t = posOf (ids l) t + 1 := by
        unfold posOf ids
        rw [List.map_cons, List.filter_cons_of_pos (by simpa using hz), List.length_cons]
      rw [e1]
      refine ⟨by rw [List.length_cons]; omega, ?_, ?_⟩
      · rw [List.take_succ_cons, List.drop_succ_cons, List.cons_append, i2]
        unfold dropL
        rw [List.filter_cons_of_pos (by simp; omega)]
      · rw [nth_consS, i3]
    · have hzt : z.rank = t := by
        rcases ht2 with h | h
        · exact h.symm
        · have := hs2.1 t h
          omega
      have hgt : ∀ y ∈ l, t < y.rank := fun y hy => by
        have := hs2.1 y.rank (List.mem_map_of_mem hy)
        omega
      have e0 : posOf (ids (z :: l)) t = 0 := by
        unfold posOf ids
        rw [List.length_eq_zero_iff, List.filter_eq_nil_iff]
        intro a ha
        obtain ⟨y, hy, rfl⟩ := List.mem_map.1 ha
        rcases List.mem_cons.1 hy with rfl | hy
        · simpa using hz
        · have := hgt y hy
          simp
          omega
      rw [e0]
      refine ⟨Nat.succ_pos _, ?_, hzt⟩
      rw [List.take_zero, List.nil_append, Nat.zero_add, List.drop_succ_cons, List.drop_zero]
      unfold dropL
      rw [List.filter_cons_of_neg (by simpa using hzt)]
      symm
      rw [List.filter_eq_self]
      intro y hy
      have := hgt y hy
      simp
      omega
noncomputable def errDrop (L : List Road) (t : Int) : Int := if errAll L ≠ 0 then errAll L else if t ∈ ids L then 0 else 3
theorem map_del {M L : List Road} (p : Nat) (h : M.map vR = L.map vR) : (M.take p ++ M.drop (p + 1)).map vR = (L.take p ++ L.drop (p + 1)).map vR := by
  rw [List.map_append, List.map_append, List.map_take, List.map_drop, List.map_take, List.map_drop, h]
theorem nests_del {M : List Road} (p : Nat) : List.Sublist (nests (M.take p ++ M.drop (p + 1))) (nests M) := by
  have e : nests M = nests (M.take p) ++ nests (M.drop p) := by rw [← nests_app, List.take_append_drop]
  rw [e, nests_app]
  refine List.Sublist.append_left ?_ _
  rw [show M.drop (p + 1) = (M.drop p).drop 1 by rw [List.drop_drop]]
  cases M.drop p with
  | nil => exact List.Sublist.refl _
  | cons y m =>
    rw [List.drop_succ_cons, List.drop_zero, show y :: m = [y] ++ m from rfl, nests_app]
    exact List.sublist_append_right _ _
section
variable (A : Option Addr) (n c : Nat) (L : List Road) (t : Int) (w : World) (hA : R.Inp [] w A n 4 (L.flatMap cRoad)) (hn : n = L.length) (hb : n ≤ 100000) (hG : ∀ x ∈ L, GRoad w x) (hs : ∀ x ∈ L, x.p.n ≤ 1000000000 ∧ x.q.n ≤ 1000000000)
include hA hn hb hG hs
set_option maxHeartbeats 4000000 in
theorem drop_any : Calls Try.prog 67 #[.slice A n c, .int .i64 t] w fun e w' => ∃ A1 c1 M, M.map vR = (if errDrop L t = 0 then dropL L t else []).map vR ∧ okL M ∧ e = .returned (.tuple #[.slice A1 M.length c1, .int .i64 (errDrop L t)]) ∧ R.Own [] w w' (.row A1 M.length c1 101 4 (M.flatMap cRoad) :: nests M) := by
  have hM := R.Own.start [] w
  refine R.calls_of_WC (fn := Try.f67) Try.func67 rfl Try.ntmps67 (Nat.le_of_ble_eq_true rfl) ?_
  (refine R.stepH ?_; (repeat' (first | (with_reducible refine And.intro ?_ ?_) | (with_reducible intro _))); all_goals refine R.Lft.mk ?_)
  refine R.WO_call1 rfl rfl R.vv ?_
  refine (all_any A n c L _ (R.Own.inpIn R.ohm hA) hn (by omega) fun z hz => GRoad.now R.ohm (hG z hz)).mono ?_
  rintro _ w3 ⟨rfl, hb3⟩
  have hM := R.Own.call R.ohm hb3
  refine ⟨_, rfl, ?_⟩
  by_cases h1 : errAll L ≠ 0
  · have ha : errDrop L t = errAll L := by unfold errDrop; rw [if_pos h1]
    rw [ha]
    (refine R.stepH ?_; (repeat' (first | (with_reducible refine And.intro ?_ ?_) | (with_reducible intro _))); all_goals refine R.Lft.mk ?_)
    exact ⟨none, 0, [], by rw [if_neg h1], fun z hz => (by cases hz), rfl, R.Own.nil (R.Own.nul R.ohm) _ _⟩
  have h1 := Decidable.not_not.1 h1
  obtain ⟨h200, hall, hr, h400⟩ := errAll_ok h1
  rw [h1]
  (refine R.stepH ?_; (repeat' (first | (with_reducible refine And.intro ?_ ?_) | (with_reducible intro _))); all_goals refine R.Lft.mk ?_)
  refine R.WO_call2 rfl rfl R.vv R.vv ?_
  refine (at_any A n c L t _ (R.Own.inpIn R.ohm hA) hn (by omega) hr).mono ?_
  rintro _ w6 ⟨rfl, hb6⟩
  have hM := R.Own.call R.ohm hb6
  refine ⟨_, rfl, ?_⟩
  by_cases h3 : t ∉ ids L
  · have ha : errDrop L t = 3 := by unfold errDrop; rw [if_neg (by omega), if_neg h3]
    rw [decide_eq_false h3, ha]
    (refine R.stepH ?_; (repeat' (first | (with_reducible refine And.intro ?_ ?_) | (with_reducible intro _))); all_goals refine R.Lft.mk ?_)
    exact ⟨none, 0, [], by rw [if_neg (by decide)], fun z hz => (by cases hz), rfl, R.Own.nil (R.Own.nul R.ohm) _ _⟩
  have h3 := Decidable.not_not.1 h3
  have ha : errDrop L t = 0 := by unfold errDrop; rw [if_neg (by omega), if_pos h3]
  obtain ⟨hp1, hp2, hp3⟩ := del_pos (ids_sorted hr) h3
  obtain ⟨p, hp⟩ : ∃ p, posOf (ids L) t = p := ⟨_, rfl⟩
  rw [decide_eq_true h3]
  rw [hp] at hp1 hp2 hp3 ⊢
  (refine R.stepH ?_; (repeat' (first | (with_reducible refine And.intro ?_ ?_) | (with_reducible intro _))); all_goals refine R.Lft.mk ?_)
  refine R.WO_call1 rfl rfl R.vv ?_
  refine (allc_any A n c L _ (R.Own.inpIn R.ohm hA) hn (by omega) (fun z hz => GRoad.now R.ohm (hG z hz)) hs).mono ?_
  rintro _ w7 ⟨A1, c1, M, rfl, hMl, hMv, hMw, hO⟩
  have hM := R.Own.giveN R.ohm hO
  simp only [List.nil_append] at hM
  refine ⟨_, rfl, ?_⟩
  (refine R.stepH ?_; (repeat' (first | (with_reducible refine And.intro ?_ ?_) | (with_reducible intro _))); all_goals refine R.Lft.mk ?_)
  refine R.WO_call3 rfl rfl R.vv R.vv R.vv ?_
  refine (deleteR_any (i := p) (by omega) hMl.symm (by omega) hM).mono ?_
  rintro _ w8 ⟨rfl, hM⟩
  obtain ⟨M2, hM2⟩ : ∃ M2, M.take p ++ M.drop (p + 1) = M2 := ⟨_, rfl⟩
  rw [hM2] at hM
  have hsub : List.Sublist (nests M2) (nests M) := by rw [← hM2]; exact nests_del p
  have hM := R.Own.sub hM (List.Sublist.cons_cons _ hsub)
  have hl2 : M2.length = n - 1 := by rw [← hM2, List.length_append, List.length_take, List.length_drop]; omega
  refine ⟨_, rfl, ?_⟩
  rw [ha]
  (refine R.stepH ?_; (repeat' (first | (with_reducible refine And.intro ?_ ?_) | (with_reducible intro _))); all_goals refine R.Lft.mk ?_)
  refine ⟨A1, c1, M2, by rw [if_pos rfl, ← hM2, ← hp2]; exact map_del p hMv, ?_, by rw [hl2], by rw [hl2]; exact R.ohm⟩
  intro z hz
  rw [← hM2] at hz
  rcases List.mem_append.1 hz with h | h
  · exact hMw z (List.mem_of_mem_take h)
  · exact hMw z (List.mem_of_mem_drop h)
set_option maxHeartbeats 4000000 in
theorem find_any : Calls Try.prog 70 #[.slice A n c, .int .i64 t] w fun e w' => ∃ y, ∃ b : Bool, e = .returned (.tuple #[.agg (cRoad y).toArray, .bool b]) ∧ WL y ∧ b = decide (errAll L = 0 ∧ t ∈ ids L) ∧ (b = true → ∃ z ∈ L, z.rank = t ∧ vR y = vR z) ∧ (b = false → y = ⟨0, ⟨none, 0, 0, []⟩, ⟨none, 0, 0, []⟩, false⟩) ∧ R.Own [] w w' (nest y) := by
  have hM := R.Own.start [] w
  have hz : ∀ w', R.Own [] w w' [] → R.Own [] w w' (nest ⟨0, ⟨none, 0, 0, []⟩, ⟨none, 0, 0, []⟩, false⟩) := fun w' hM => R.Own.nil (R.Own.nil hM _ _) _ _
  refine R.calls_of_WC (fn := Try.f70) Try.func70 rfl Try.ntmps70 (Nat.le_of_ble_eq_true rfl) ?_
  (refine R.stepH ?_; (repeat' (first | (with_reducible refine And.intro ?_ ?_) | (with_reducible intro _))); all_goals refine R.Lft.mk ?_)
  refine R.WO_call1 rfl rfl R.vv ?_
  refine (all_any A n c L _ (R.Own.inpIn R.ohm hA) hn (by omega) fun z hz => GRoad.now R.ohm (hG z hz)).mono ?_
  rintro _ w3 ⟨rfl, hb3⟩
  have hM := R.Own.call R.ohm hb3
  refine ⟨_, rfl, ?_⟩
  by_cases h1 : errAll L ≠ 0
  · (refine R.stepH ?_; (repeat' (first | (with_reducible refine And.intro ?_ ?_) | (with_reducible intro _))); all_goals refine R.Lft.mk ?_)
    exact ⟨⟨0, ⟨none, 0, 0, []⟩, ⟨none, 0, 0, []⟩, false⟩, false, rfl, ⟨rfl, rfl⟩, (decide_eq_false fun h => h1 h.1).symm, fun h => (by cases h), fun _ => rfl, hz _ (R.Own.nul R.ohm)⟩
  have h1 := Decidable.not_not.1 h1
  obtain ⟨h200, hall, hr, h400⟩ := errAll_ok h1
  rw [h1]
  (refine R.stepH ?_; (repeat' (first | (with_reducible refine And.intro ?_ ?_) | (with_reducible intro _))); all_goals refine R.Lft.mk ?_)
  refine R.WO_call2 rfl rfl R.vv R.vv ?_
  refine (at_any A n c L t _ (R.Own.inpIn R.ohm hA) hn (by omega) hr).mono ?_
  rintro _ w6 ⟨rfl, hb6⟩
  have hM := R.Own.call R.ohm hb6
  refine ⟨_, rfl, ?_⟩
  by_cases h3 : t ∉ ids L
  · rw [decide_eq_false h3]
    (refine R.stepH ?_; (repeat' (first | (with_reducible refine And.intro ?_ ?_) | (with_reducible intro _))); all_goals refine R.Lft.mk ?_)
    exact ⟨⟨0, ⟨none, 0, 0, []⟩, ⟨none, 0, 0, []⟩, false⟩, false, rfl, ⟨rfl, rfl⟩, (decide_eq_false fun h => h3 h.2).symm, fun h => (by cases h), fun _ => rfl, hz _ (R.Own.nul R.ohm)⟩
  have h3 := Decidable.not_not.1 h3
  obtain ⟨hp1, hp2, hp3⟩ := del_pos (ids_sorted hr) h3
  obtain ⟨p, hp⟩ : ∃ p, posOf (ids L) t = p := ⟨_, rfl⟩
  rw [decide_eq_true h3]
  rw [hp] at hp1 hp2 hp3 ⊢
  have hmem := R.nth_mem (L := L) (i := p) hp1
  (refine R.stepH ?_; (repeat' (first | (with_reducible refine And.intro ?_ ?_) | (with_reducible intro _))); all_goals refine R.Lft.mk ?_)
  refine R.WO_call1 rfl rfl R.vv ?_
  refine (copied_any (nth L p) _ (GRoad.now R.ohm (hG _ hmem)) (hs _ hmem)).mono ?_
  rintro _ w7 ⟨y, hyv, hyw, rfl, hO⟩
  have hM := R.Own.giveN R.ohm hO
  simp only [List.cons_append, List.nil_append] at hM
  refine ⟨_, rfl, ?_⟩
  (refine R.stepH ?_; (repeat' (first | (with_reducible refine And.intro ?_ ?_) | (with_reducible intro _))); all_goals refine R.Lft.mk ?_)
  refine ⟨y, true, rfl, hyw, (decide_eq_true ⟨rfl, h3⟩).symm, fun _ => ⟨nth L p, hmem, hp3, hyv⟩, fun h => (by cases h), ?_⟩
  exact R.Own.tl R.ohm
end
end Go.Proofs.Ytmmfndmfibbhcaa
