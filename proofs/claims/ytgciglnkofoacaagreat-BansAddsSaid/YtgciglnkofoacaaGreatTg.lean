/- The law BansAdds: its walk. -/
import Derived.Test.YtgciglnkofoacaaGreatTe
import Derived.Test.YtgciglnkofoacaaGreatTx
namespace Go.Proofs.YtgciglnkofoacaaGreat
open Go.ChangeShapes Go.WideShapes Go.ChangeAt Go.RowKit
open R (In64 InU64 lo64 nth)
/-- What rules there are behind a ban that is added, or dropped. -/
def AddM (x : Nt) (r : Rl) (b : Bn) (M : List Bn) (p : Int) : Prop := (addE x r b = 0 ∧ p = r.p ∧ ∃ i, placeB r.b.L b i ∧ M = insAt r.b.L i b) ∨ (addE x r b ≠ 0 ∧ p = 0 ∧ M = [])
def DropM (x : Nt) (r : Rl) (b : Bn) (M : List Bn) (p : Int) : Prop := (dropE x r b = 0 ∧ p = r.p ∧ M = outD r.b.L b r.b.n) ∨ (dropE x r b ≠ 0 ∧ p = 0 ∧ M = [])
theorem AddM.one {x : Nt} {r : Rl} {b : Bn} {M M' : List Bn} {p p' : Int} (h : AddM x r b M p) (g : AddM x r b M' p') : p = p' ∧ M = M' := by
  rcases h with ⟨h1, h2, i, h3, h4⟩ | ⟨h1, h2, h3⟩ <;> rcases g with ⟨g1, g2, j, g3, g4⟩ | ⟨g1, g2, g3⟩
  · obtain rfl := place_one h3 g3
    exact ⟨by rw [h2, g2], by rw [h4, g4]⟩
  · exact absurd h1 g1
  · exact absurd g1 h1
  · exact ⟨by rw [h2, g2], by rw [h3, g3]⟩
theorem DropM.one {x : Nt} {r : Rl} {b : Bn} {M M' : List Bn} {p p' : Int} (h : DropM x r b M p) (g : DropM x r b M' p') : p = p' ∧ M = M' := by
  rcases h with ⟨h1, h2, h4⟩ | ⟨h1, h2, h3⟩ <;> rcases g with ⟨g1, g2, g4⟩ | ⟨g1, g2, g3⟩
  · exact ⟨by rw [h2, g2], by rw [h4, g4]⟩
  · exact absurd h1 g1
  · exact absurd g1 h1
  · exact ⟨by rw [h2, g2], by rw [h3, g3]⟩
theorem AddM.ok {x : Nt} {r : Rl} {b : Bn} {M : List Bn} {p : Int} {w : World} (h : AddM x r b M p) (hR : GRl w r) (hb : GBn w b) : (∀ y ∈ M, GBn w y) ∧ (Lit.int .i64 p).wf = true := by
  rcases h with ⟨_, rfl, i, _, rfl⟩ | ⟨_, rfl, rfl⟩
  · refine ⟨fun y hy => ?_, hR.2⟩
    rcases insAt_mem.1 hy with h | h
    · rw [h]; exact hb
    · exact hR.1.2.2.2 y h
  · exact ⟨fun y hy => (by cases hy), rfl⟩
theorem DropM.ok {x : Nt} {r : Rl} {b : Bn} {M : List Bn} {p : Int} {w : World} (h : DropM x r b M p) (hR : GRl w r) : (∀ y ∈ M, GBn w y) ∧ (Lit.int .i64 p).wf = true := by
  rcases h with ⟨_, rfl, rfl⟩ | ⟨_, rfl, rfl⟩
  · refine ⟨fun y hy => ?_, hR.2⟩
    exact hR.1.2.2.2 y (List.mem_of_mem_take (List.mem_filter.1 hy).1)
  · exact ⟨fun y hy => (by cases hy), rfl⟩
theorem gives_nil {w w' : World} (h : Below w.heap.size w w') : R.Gives w w' none 0 0 50 3 (([] : List Bn).flatMap cBn) := (R.Own.nil ((R.Own.start [] w).call h).nul 50 3).gives
section
variable (x : Nt) (r : Rl) (b : Bn) (w : World)
theorem badd_any (hG : GNt w x) (hR : GRl w r) (hb : GBn w b) : Calls Tryz.prog 29 #[.agg (cNt x).toArray, .agg (cRl r).toArray, .agg (cBn b).toArray] w fun e w' => ∃ A c M p, AddM x r b M p ∧ e = .returned (.tuple #[.agg #[.slice A M.length c, .int .i64 p], .int .i64 (addE x r b)]) ∧ R.Gives w w' A M.length c 50 3 (M.flatMap cBn) := by
  by_cases hE : addE x r b = 0
  · refine (badd_ok x r b w hG hR hb hE).mono ?_
    rintro _ w' ⟨i, A, c, hi, rfl, hGv⟩
    have hl : (insAt r.b.L i b).length = r.b.n + 1 := by rw [insAt_len hi.1, hR.1.2.1]
    exact ⟨A, c, insAt r.b.L i b, r.p, .inl ⟨hE, rfl, i, hi, rfl⟩, by rw [hl, hE], by rw [hl]; exact hGv⟩
  · refine (badd_no x r b w hG hR hb hE).mono ?_
    rintro _ w' ⟨rfl, hb'⟩
    exact ⟨none, 0, [], 0, .inr ⟨hE, rfl, rfl⟩, rfl, gives_nil hb'⟩
theorem radd_any (hG : GNt w x) (hR : GRl w r) (hb : GBn w b) : Calls Tryz.prog 31 #[.agg (cNt x).toArray, .agg (cRl r).toArray, .agg (cBn b).toArray] w fun e w' => ∃ A c M p, AddM x r b M p ∧ e = .returned (.tuple #[.agg #[.slice A M.length c, .int .i64 p], .int .i64 (addE x r b)]) ∧ R.Gives w w' A M.length c 50 3 (M.flatMap cBn) := by
  cases hrf : rulesB x r && folB x b.frm b.to with
  | false =>
    have hE : addE x r b = 1 := by unfold addE; rw [hrf]; rfl
    refine (radd_early x r b w hG hR hb hrf).mono ?_
    rintro _ w' ⟨rfl, hb'⟩
    exact ⟨none, 0, [], 0, .inr ⟨by rw [hE]; decide, rfl, rfl⟩, by rw [hE]; rfl, gives_nil hb'⟩
  | true =>
    have hrf2 := hrf
    rw [Bool.and_eq_true] at hrf2
    obtain ⟨hr, hf⟩ := hrf2
    by_cases hm : b ∈ r.b.L
    · have hE : addE x r b = 7 := by unfold addE; rw [hrf, if_pos rfl, if_pos hm]
      refine (radd_there x r b w hG hR hb hr hf hm).mono ?_
      rintro _ w' ⟨rfl, hb'⟩
      exact ⟨none, 0, [], 0, .inr ⟨by rw [hE]; decide, rfl, rfl⟩, by rw [hE]; rfl, gives_nil hb'⟩
    · refine (radd_new x r b w hG hR hb hr hf hm).mono ?_
      rintro _ w' ⟨i, A, c, hi, h1, h2⟩
      have hl : (insAt r.b.L i b).length = r.b.n + 1 := by rw [insAt_len hi.1, hR.1.2.1]
      by_cases hn : r.b.n = 2000
      · have hE : addE x r b = 4 := by unfold addE; rw [hrf, if_pos rfl, if_neg hm, if_pos hn]
        obtain ⟨rfl, hb'⟩ := h2 hn
        exact ⟨none, 0, [], 0, .inr ⟨by rw [hE]; decide, rfl, rfl⟩, by rw [hE]; rfl, gives_nil hb'⟩
      · have hE : addE x r b = 0 := by unfold addE; rw [hrf, if_pos rfl, if_neg hm, if_neg hn]
        obtain ⟨rfl, hGv⟩ := h1 hn
        exact ⟨A, c, insAt r.b.L i b, r.p, .inl ⟨hE, rfl, i, hi, rfl⟩, by rw [hl, hE], by rw [hl]; exact hGv⟩
theorem bdrop_any (hG : GNt w x) (hR : GRl w r) : Calls Tryz.prog 30 #[.agg (cNt x).toArray, .agg (cRl r).toArray, .agg (cBn b).toArray] w fun e w' => ∃ A c M p, DropM x r b M p ∧ e = .returned (.tuple #[.agg #[.slice A M.length c, .int .i64 p], .int .i64 (dropE x r b)]) ∧ R.Gives w w' A M.length c 50 3 (M.flatMap cBn) := by
  by_cases hE : dropE x r b = 0
  · have hr : rulesB x r = true := by
      cases h : rulesB x r with
      | true => rfl
      | false => unfold dropE at hE; rw [h] at hE; cases hE
    have hm : b ∈ r.b.L := by
      by_cases h : b ∈ r.b.L
      · exact h
      · unfold dropE at hE; rw [hr, if_pos rfl, if_neg h] at hE; cases hE
    have hrise := riseB_rules hR.1.2.1 (rulesB_of hr)
    refine (bdrop_ok x r b w hG hR hr hm).mono ?_
    rintro _ w' ⟨i, A, c, h1, h2, rfl, hGv⟩
    have hs := outD_one hrise h1 h2
    rw [← hR.1.2.1] at hs
    have hl : (outD r.b.L b r.b.n).length = r.b.n - 1 := by
      rw [hs, List.length_append, List.length_take, List.length_drop, hR.1.2.1]
      omega
    exact ⟨A, c, outD r.b.L b r.b.n, r.p, .inl ⟨hE, rfl, rfl⟩, by rw [hl, hE], by rw [hl, hs]; exact hGv⟩
  · refine (bdrop_no x r b w hG hR hE).mono ?_
    rintro _ w' ⟨rfl, hb'⟩
    exact ⟨none, 0, [], 0, .inr ⟨hE, rfl, rfl⟩, rfl, gives_nil hb'⟩
theorem rdrop_all (hG : GNt w x) (hR : GRl w r) : Calls Tryz.prog 32 #[.agg (cNt x).toArray, .agg (cRl r).toArray, .agg (cBn b).toArray] w fun e w' => ∃ A c M p, DropM x r b M p ∧ e = .returned (.tuple #[.agg #[.slice A M.length c, .int .i64 p], .int .i64 (dropE x r b)]) ∧ R.Gives w w' A M.length c 50 3 (M.flatMap cBn) := by
  refine (rdrop_any x r b w hG hR).mono ?_
  rintro e w' ⟨A, c, h1, h2⟩
  by_cases hE : dropE x r b = 0
  · obtain ⟨rfl, hGv⟩ := h1 hE
    exact ⟨A, c, outD r.b.L b r.b.n, r.p, .inl ⟨hE, rfl, rfl⟩, by rw [hE], hGv⟩
  · obtain ⟨rfl, hb'⟩ := h2 hE
    exact ⟨none, 0, [], 0, .inr ⟨hE, rfl, rfl⟩, rfl, gives_nil hb'⟩
attribute [local irreducible] cS cR cSp cW folB ordB ltB wayB rulesB addE dropE in
set_option maxHeartbeats 4000000 in
theorem bansAdds_any (hG : GNt w x) (hR : GRl w r) (hb : GBn w b) : Calls Tryz.prog 7 #[.agg (cNt x).toArray, .agg (cRl r).toArray, .agg (cBn b).toArray] w fun e w' => e = .returned (.bool true) ∧ Below w.heap.size w w' := by
  have hM := R.Own.start [] w
  have hL := hG.lasts
  have hLR := hR.lasts
  by_cases hl : x.s.n ≤ 30 ∧ x.e.n ≤ 40 ∧ x.p.n ≤ 20 ∧ r.b.n ≤ 60
  · have hlt := decide_eq_true hl
    refine R.calls_of_WC (fn := Tryz.f7) Tryz.func7 rfl Tryz.ntmps7 (Nat.le_of_ble_eq_true rfl) ?_
    (refine R.stepV ?_; (repeat' (first | (with_reducible refine And.intro ?_ ?_) | (with_reducible intro _))); all_goals refine R.Lft.mk ?_)
    · exact nbw_t hlt (by assumption)
    rename_i hM _
    refine R.WO_call3 rfl rfl R.vv R.vv R.vv ?_
    refine (badd_any x r b _ (R.lasts hL hM) (R.lasts hLR hM) hb).mono ?_
    rintro _ w2 ⟨A1, c1, M1, p1, k1, rfl, hG1⟩
    have hM := R.Own.give hM hG1
    refine ⟨_, rfl, ?_⟩
    (refine R.stepV ?_; (repeat' (first | (with_reducible refine And.intro ?_ ?_) | (with_reducible intro _))); all_goals refine R.Lft.mk ?_)
    rename_i hM
    refine R.WO_call3 rfl rfl R.vv R.vv R.vv ?_
    refine (bdrop_any x r b _ (R.lasts hL hM) (R.lasts hLR hM)).mono ?_
    rintro _ w3 ⟨A2, c2, M2, p2, k2, rfl, hG2⟩
    have hM := R.Own.give hM hG2
    refine ⟨_, rfl, ?_⟩
    (refine R.stepV ?_; (repeat' (first | (with_reducible refine And.intro ?_ ?_) | (with_reducible intro _))); all_goals refine R.Lft.mk ?_)
    rename_i hM
    refine R.WO_call3 rfl rfl R.vv R.vv R.vv ?_
    refine (radd_any x r b _ (R.lasts hL hM) (R.lasts hLR hM) hb).mono ?_
    rintro _ w4 ⟨A3, c3, M3, p3, k3, rfl, hG3⟩
    obtain ⟨rfl, rfl⟩ := AddM.one k1 k3
    have hM := R.Own.give hM hG3
    refine ⟨_, rfl, ?_⟩
    (refine R.stepV ?_; (repeat' (first | (with_reducible refine And.intro ?_ ?_) | (with_reducible intro _))); all_goals refine R.Lft.mk ?_)
    rename_i hM
    refine R.WO_call3 rfl rfl R.vv R.vv R.vv ?_
    refine (rdrop_all x r b _ (R.lasts hL hM) (R.lasts hLR hM)).mono ?_
    rintro _ w5 ⟨A4, c4, M4, p4, k4, rfl, hG4⟩
    obtain ⟨rfl, rfl⟩ := DropM.one k2 k4
    have hM := R.Own.give hM hG4
    refine ⟨_, rfl, ?_⟩
    (refine R.stepU ?_; (repeat' (first | (with_reducible refine And.intro ?_ ?_) | (with_reducible intro _))); all_goals refine R.Lft.mk ?_)
    refine R.WC_planO [(0, false), (1, false), (3, false), (4, false), (2, true), (5, true), (6, false), (7, false), (8, false), (9, false), (10, false), (11, false), (12, false), (13, false), (14, false), (15, false), (16, false), (17, false), (18, false), (19, false), (20, true), (21, false), (22, false), (23, false), (24, false), (25, true), (26, false), (27, false), (28, true), (29, false), (30, false)] R.mixed (by decide +kernel) R.ohm ?_
    (refine R.stepU ?_; (repeat' (first | (with_reducible refine And.intro ?_ ?_) | (with_reducible intro _))); all_goals refine R.Lft.mk ?_)
    all_goals first
      | exact absurd rfl (by assumption)
      | skip
    rename_i hM _ _ _
    refine R.WO_call2 rfl rfl R.vv R.vv ?_
    refine (same17 ⟨⟨A1, M1.length, c1, M1⟩, p1⟩ ⟨⟨A3, M1.length, c3, M1⟩, p1⟩ _ (GRl_own (M := M1) (p := p1) hM (.tail _ (.tail _ (.tail _ (.tail _ (.tail _ (.tail _ (.tail _ (.head _)))))))) rfl (k1.ok hR hb).1 (k1.ok hR hb).2) (GRl_own (M := M1) (p := p1) hM (.tail _ (.tail _ (.tail _ (.head _)))) rfl (k1.ok hR hb).1 (k1.ok hR hb).2)).mono ?_
    rintro _ w6 ⟨rfl, hb6⟩
    have hM := hM.call hb6
    rw [decide_eq_true (show p1 = p1 ∧ M1 = M1 from ⟨rfl, rfl⟩)]
    refine ⟨_, rfl, ?_⟩
    (refine R.stepU ?_; (repeat' (first | (with_reducible refine And.intro ?_ ?_) | (with_reducible intro _))); all_goals refine R.Lft.mk ?_)
    rename_i hM
    refine R.WO_call2 rfl rfl R.vv R.vv ?_
    refine (same17 ⟨⟨A2, M2.length, c2, M2⟩, p2⟩ ⟨⟨A4, M2.length, c4, M2⟩, p2⟩ _ (GRl_own (M := M2) (p := p2) hM (.tail _ (.tail _ (.tail _ (.tail _ (.tail _ (.head _)))))) rfl (k2.ok hR).1 (k2.ok hR).2) (GRl_own (M := M2) (p := p2) hM (.tail _ (.head _)) rfl (k2.ok hR).1 (k2.ok hR).2)).mono ?_
    rintro _ w7 ⟨rfl, hb7⟩
    have hM := hM.call hb7
    rw [decide_eq_true (show p2 = p2 ∧ M2 = M2 from ⟨rfl, rfl⟩)]
    refine ⟨_, rfl, ?_⟩
    (refine R.stepU ?_; (repeat' (first | (with_reducible refine And.intro ?_ ?_) | (with_reducible intro _))); all_goals refine R.Lft.mk ?_)
    exact ⟨rfl, R.Own.below (by assumption)⟩
  · have hlt := decide_eq_false hl
    refine R.calls_of_WC (fn := Tryz.f7) Tryz.func7 rfl Tryz.ntmps7 (Nat.le_of_ble_eq_true rfl) ?_
    (refine R.stepV ?_; (repeat' (first | (with_reducible refine And.intro ?_ ?_) | (with_reducible intro _))); all_goals refine R.Lft.mk ?_)
    all_goals first
      | exact ⟨rfl, R.Own.below (by assumption)⟩
      | exact nbw_f hlt (by assumption)
end
set_option maxRecDepth 100000 in
theorem walk_BansAdds {H : Type} {enc : TypeId × Value → H} (W : World) (base : Nat) (args : Array Value) (ds : List (DataW H)) (ps : List MemPlace) (hA : DataW.TrodAll enc Tryz.prog W 0 (fun _ => true) true [26, 29, 50] args.toList ds ps)
    (hval : ∀ (j : Nat) t v, #[26, 29, 50][j]? = some t → args[j]? = some v → Value.okWide Tryz.prog W .any base t v) :
    Calls Tryz.prog 7 args W fun e W' => e = .returned (.bool true) ∧ Below W.heap.size W W' := by
  obtain ⟨v0, v1, v2, d0, d1, d2, p0, p1, p2, rfl, rfl, rfl, h0, h1, h2⟩ := trodAll_three hA
  obtain ⟨z0, q0, g0, a0, b0⟩ := R.open_arg (hval 0 26 v0 rfl rfl) h0
  obtain ⟨z1, q1, g1, a1, b1⟩ := R.open_arg (hval 1 29 v1 rfl rfl) h1
  obtain ⟨z2, q2, g2, a2, b2⟩ := R.open_arg (hval 2 50 v2 rfl rfl) h2
  obtain rfl := a0 (by kernel_rfl)
  obtain rfl := a1 (by kernel_rfl)
  obtain rfl := a2 (by kernel_rfl)
  exact bansAdds_any z0 z1 z2 W g0 g1 g2
end Go.Proofs.YtgciglnkofoacaaGreat
