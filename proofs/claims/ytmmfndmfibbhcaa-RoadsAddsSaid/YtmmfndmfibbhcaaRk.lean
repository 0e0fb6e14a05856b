/- Package roads: Add. -/
import Derived.Test.YtmmfndmfibbhcaaRj
namespace Go.Proofs.Ytmmfndmfibbhcaa
open Go.RowKit
open R (In64 InU64 lo64 nth)
theorem map_insert {M L : List Road} {x y : Road} (p : Nat) (h : M.map vR = L.map vR) (hy : vR y = vR x) : (M.take p ++ y :: M.drop p).map vR = (L.take p ++ x :: L.drop p).map vR := by
  rw [List.map_append, List.map_cons, List.map_append, List.map_cons, hy, List.map_take, List.map_drop, List.map_take, List.map_drop, h]
theorem nests_insert {M : List Road} {y : Road} (p : Nat) : List.Perm (nests M ++ nest y) (nests (M.take p ++ y :: M.drop p)) := by
  have e : nests M = nests (M.take p) ++ nests (M.drop p) := by rw [← nests_app, List.take_append_drop]
  rw [e, nests_app, show y :: M.drop p = [y] ++ M.drop p from rfl, nests_app, nests_one, List.append_assoc]
  exact List.Perm.append_left _ List.perm_append_comm
theorem okL_insert {M : List Road} {y : Road} (p : Nat) (h : okL M) (hy : WL y) : okL (M.take p ++ y :: M.drop p) := fun z hz => by
  rcases List.mem_append.1 hz with h1 | h1
  · exact h z (List.mem_of_mem_take h1)
  · rcases List.mem_cons.1 h1 with rfl | h1
    · exact hy
    · exact h z (List.mem_of_mem_drop h1)
theorem insR_len {L : List Road} {x : Road} (hs : Rises L L.length) (ht : x.rank ∉ ids L) : (insR L x).length = L.length + 1 := by
  obtain ⟨h1, h2⟩ := insR_at hs ht
  rw [← h2, List.length_append, List.length_cons, List.length_take, List.length_drop]
  omega
theorem insR_mem {L : List Road} {x z : Road} (h : z ∈ insR L x) : z = x ∨ z ∈ L := by
  unfold insR at h
  rcases List.mem_append.1 h with h | h
  · exact .inr (List.mem_filter.1 h).1
  · rcases List.mem_cons.1 h with h | h
    · exact .inl h
    · exact .inr (List.mem_filter.1 h).1
section
variable (A : Option Addr) (n c : Nat) (L : List Road) (x : Road) (w : World) (hA : R.Inp [] w A n 4 (L.flatMap cRoad)) (hn : n = L.length) (hb : n ≤ 100000) (hG : ∀ x ∈ L, GRoad w x) (hx : GRoad w x) (hs : ∀ x ∈ L, x.p.n ≤ 1000000000 ∧ x.q.n ≤ 1000000000)
include hA hn hb hG hx hs
set_option maxHeartbeats 4000000 in
theorem add_any : Calls Try.prog 61 #[.slice A n c, .agg (cRoad x).toArray] w fun e w' => ∃ A1 c1 M, M.map vR = (if errAdd L x = 0 then insR L x else []).map vR ∧ okL M ∧ e = .returned (.tuple #[.slice A1 M.length c1, .int .i64 (errAdd L x)]) ∧ R.Own [] w w' (.row A1 M.length c1 101 4 (M.flatMap cRoad) :: nests M) := by
  have hM := R.Own.start [] w
  refine R.calls_of_WC (fn := Try.f61) Try.func61 rfl Try.ntmps61 (Nat.le_of_ble_eq_true rfl) ?_
  (refine R.stepH ?_; (repeat' (first | (with_reducible refine And.intro ?_ ?_) | (with_reducible intro _))); all_goals refine R.Lft.mk ?_)
  refine R.WC_planX [(0, false), (2, false), (1, true), (3, true), (4, true), (5, true), (6, false)] R.mixed (by decide +kernel) R.ohm ?_
  (refine R.stepH ?_; (repeat' (first | (with_reducible refine And.intro ?_ ?_) | (with_reducible intro _))); all_goals refine R.Lft.mk ?_)
  refine R.WO_call1 rfl rfl R.vv ?_
  refine (all_any A n c L _ (R.Own.inpIn R.ohm hA) hn (by omega) fun z hz => GRoad.now R.ohm (hG z hz)).mono ?_
  rintro _ w3 ⟨rfl, hb3⟩
  have hM := R.Own.call R.ohm hb3
  refine ⟨_, rfl, hM, ?_⟩
  (refine R.stepH ?_; (repeat' (first | (with_reducible refine And.intro ?_ ?_) | (with_reducible intro _))); all_goals refine R.Lft.mk ?_)
  refine R.WO_call1 rfl rfl R.vv ?_
  refine (rcheck_any x _ (GRoad.now R.ohm hx)).mono ?_
  rintro _ w4 ⟨rfl, hb4⟩
  have hM := R.Own.call R.ohm hb4
  refine ⟨_, rfl, ?_⟩
  (refine R.stepH ?_; (repeat' (first | (with_reducible refine And.intro ?_ ?_) | (with_reducible intro _))); all_goals refine R.Lft.mk ?_)
  rename_i A9 c9 _ hM
  refine R.WO_call1 rfl rfl R.vv ?_
  refine (or_any A9 2 c9 [errAll L, errR x] _ (R.Own.inp hM (.head _)) rfl (by omega)).mono ?_
  rintro _ w5 ⟨rfl, hb5⟩
  have hM := R.Own.call hM hb5
  have hM := R.dr (.row A9 _ _ _ _ _) hM
  refine ⟨_, rfl, hM, ?_⟩
  rw [orI_two]
  by_cases h1 : errAll L ≠ 0
  · have ha : errAdd L x = errAll L := by unfold errAdd; rw [if_pos h1]
    rw [if_pos h1, ha]
    (refine R.stepH ?_; (repeat' (first | (with_reducible refine And.intro ?_ ?_) | (with_reducible intro _))); all_goals refine R.Lft.mk ?_)
    exact ⟨none, 0, [], by rw [if_neg h1], fun z hz => (by cases hz), rfl, R.Own.nil (R.Own.nul R.ohm) _ _⟩
  rw [if_neg h1]
  by_cases h2 : errR x ≠ 0
  · have ha : errAdd L x = errR x := by unfold errAdd; rw [if_neg h1, if_pos h2]
    rw [ha]
    (refine R.stepH ?_; (repeat' (first | (with_reducible refine And.intro ?_ ?_) | (with_reducible intro _))); all_goals refine R.Lft.mk ?_)
    exact ⟨none, 0, [], by rw [if_neg h2], fun z hz => (by cases hz), rfl, R.Own.nil (R.Own.nul R.ohm) _ _⟩
  have h1 := Decidable.not_not.1 h1
  have h2 := Decidable.not_not.1 h2
  obtain ⟨h200, hall, hr, h400⟩ := errAll_ok h1
  have hok := errR_ok h2
  (refine R.stepH ?_; (repeat' (first | (with_reducible refine And.intro ?_ ?_) | (with_reducible intro _))); all_goals refine R.Lft.mk ?_)
  refine R.WO_call2 rfl rfl R.vv R.vv ?_
  refine (at_any A n c L x.rank _ (R.Own.inpIn R.ohm hA) hn (by omega) hr).mono ?_
  rintro _ w6 ⟨rfl, hb6⟩
  have hM := R.Own.call R.ohm hb6
  refine ⟨_, rfl, ?_⟩
  by_cases h3 : x.rank ∈ ids L
  · have ha : errAdd L x = 7 := by unfold errAdd; rw [if_neg (by omega), if_neg (by omega), if_pos h3]
    rw [decide_eq_true h3, ha]
    (refine R.stepH ?_; (repeat' (first | (with_reducible refine And.intro ?_ ?_) | (with_reducible intro _))); all_goals refine R.Lft.mk ?_)
    exact ⟨none, 0, [], by rw [if_neg (by decide)], fun z hz => (by cases hz), rfl, R.Own.nil (R.Own.nul R.ohm) _ _⟩
  have ha : errAdd L x = errAll (insR L x) := by unfold errAdd; rw [if_neg (by omega), if_neg (by omega), if_neg h3]
  obtain ⟨hp1, hp2⟩ := insR_at hr h3
  obtain ⟨p, hp⟩ : ∃ p, posOf (ids L) x.rank = p := ⟨_, rfl⟩
  rw [decide_eq_false h3]
  rw [hp] at hp1 hp2 ⊢
  (refine R.stepH ?_; (repeat' (first | (with_reducible refine And.intro ?_ ?_) | (with_reducible intro _))); all_goals refine R.Lft.mk ?_)
  refine R.WC_planX [(0, false), (2, false), (3, false), (1, true), (4, true), (5, true), (6, true), (7, false)] R.mixed (by decide +kernel) R.ohm ?_
  (refine R.stepH ?_; (repeat' (first | (with_reducible refine And.intro ?_ ?_) | (with_reducible intro _))); all_goals refine R.Lft.mk ?_)
  refine R.WO_call1 rfl rfl R.vv ?_
  refine (allc_any A n c L _ (R.Own.inpIn R.ohm hA) hn (by omega) (fun z hz => GRoad.now R.ohm (hG z hz)) hs).mono ?_
  rintro _ w7 ⟨A1, c1, M, rfl, hMl, hMv, hMw, hO⟩
  have hM := R.Own.giveN R.ohm hO
  simp only [List.cons_append, List.nil_append] at hM
  refine ⟨_, rfl, R.Own.sub hM (List.Sublist.cons_cons _ (List.nil_sublist _)), ?_⟩
  (refine R.stepH ?_; (repeat' (first | (with_reducible refine And.intro ?_ ?_) | (with_reducible intro _))); all_goals refine R.Lft.mk ?_)
  refine R.WO_call1 rfl rfl R.vv ?_
  refine (copied_any x _ (GRoad.now R.ohm hx) ⟨by omega, by omega⟩).mono ?_
  rintro _ w8 ⟨y, hyv, hyw, rfl, hO2⟩
  have hM := R.Own.giveN R.ohm hO2
  simp only [List.cons_append] at hM
  refine ⟨_, rfl, ?_⟩
  (refine R.stepH ?_; (repeat' (first | (with_reducible refine And.intro ?_ ?_) | (with_reducible intro _))); all_goals refine R.Lft.mk ?_)
  rename_i B d _ hM
  have hM := R.pk (r := .row B 1 d _ _ _) (R.pk (r := .row A1 n _ _ _ _) hM)
  refine R.WO_call3 rfl rfl R.vv R.vv R.vv ?_
  refine (insertR_any (i := p) (by omega) hMl.symm (by omega) hM).mono ?_
  rintro _ w9 ⟨A2, c2, rfl, hM⟩
  obtain ⟨M2, hM2⟩ : ∃ M2, M.take p ++ y :: M.drop p = M2 := ⟨_, rfl⟩
  have hpm : List.Perm (nests M ++ nest y) (nests M2) := by rw [← hM2]; exact nests_insert p
  have hMv2 : M2.map vR = (insR L x).map vR := by rw [← hM2, ← hp2]; exact map_insert p hMv hyv
  have hok2 : okL M2 := by rw [← hM2]; exact okL_insert p hMw hyw
  rw [hM2] at hM
  have hM := R.Own.perm (R.Own.tl2 hM) (List.Perm.cons _ hpm.symm)
  have hl2 : M2.length = n + 1 := by rw [(nth_map hMv2).1, insR_len hr h3, hn]
  have hGI : ∀ z ∈ insR L x, GRoad w z := fun z hz => by
    rcases insR_mem hz with rfl | h
    · exact hx
    · exact hG z h
  have hGM := GRoads.of hGI hMv2 hok2 hM (fun r hr => .tail _ hr)
  have he2 : errAll M2 = errAll (insR L x) := errAll_v hMv2 hok2 (okL_of hGI)
  refine ⟨_, rfl, ?_⟩
  (refine R.stepH ?_; (repeat' (first | (with_reducible refine And.intro ?_ ?_) | (with_reducible intro _))); all_goals refine R.Lft.mk ?_)
  refine R.WO_call1 rfl rfl R.vv ?_
  refine (all_any A2 (n + 1) c2 M2 _ (R.Own.inp R.ohm (.head _)) hl2.symm (by omega) hGM).mono ?_
  rintro _ w10 ⟨rfl, hb10⟩
  have hM := R.Own.call R.ohm hb10
  refine ⟨_, rfl, ?_⟩
  rw [he2, ha]
  by_cases h4 : errAll (insR L x) ≠ 0
  · (refine R.stepH ?_; (repeat' (first | (with_reducible refine And.intro ?_ ?_) | (with_reducible intro _))); all_goals refine R.Lft.mk ?_)
    exact ⟨none, 0, [], by rw [if_neg h4], fun z hz => (by cases hz), rfl, R.Own.nil (R.Own.nul R.ohm) _ _⟩
  have h4 := Decidable.not_not.1 h4
  rw [h4]
  (refine R.stepH ?_; (repeat' (first | (with_reducible refine And.intro ?_ ?_) | (with_reducible intro _))); all_goals refine R.Lft.mk ?_)
  refine ⟨A2, c2, M2, by rw [if_pos rfl]; exact hMv2, hok2, by rw [hl2], ?_⟩
  rw [hl2]
  exact R.ohm
end
end Go.Proofs.Ytmmfndmfibbhcaa
