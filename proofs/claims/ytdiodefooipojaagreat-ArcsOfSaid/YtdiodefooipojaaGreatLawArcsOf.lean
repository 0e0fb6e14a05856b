/- snicketref19.Of: the graph of a net by rules, as the document has it. The law ArcsOf: its walk. The law ArcsOf, out of its walk: for every input it returns true, and each argument reads behind the call as it read before. No condition. -/
import Derived.Test.YtdiodefooipojaaGreatAmd
import Derived.Test.YtdiodefooipojaaGreatTv
import Derived.Test.YtdiodefooipojaaGreatArt
import Derived.Test.YtdiodefooipojaaGreatCl
import Derived.Test.YtdiodefooipojaaGreatFrame
namespace Go.Proofs.YtdiodefooipojaaGreat
open Go.RowKit
open R (In64 InU64 lo64 nth)

theorem rowT_succ (x : Nt) (r : Rl) (v : Int) (k : Nat) : rowT x r v (k + 1) = if takeB x r v (k : Nat) = true then rowT x r v k ++ [⟨(nth x.e.L (k / 2)).w, (k : Nat)⟩] else rowT x r v k := by
  unfold rowT
  rw [upL_step]
  split
  · rw [List.map_append, List.map_singleton, show (((k : Nat) : Int) / 2).toNat = k / 2 by omega]
  · rw [List.append_nil]
set_option maxHeartbeats 4000000 in
attribute [local irreducible] takeB rulesB in
theorem rof_any (x : Nt) (r : Rl) (w : World) (hG : GNt w x) (hGr : GRl w r) (hr : rulesB x r = true) (he : x.e.n ≤ 40) : Calls Tryz.prog 9 #[.agg (cNt x).toArray, .agg (cRl r).toArray] w fun e w' => ∃ b, IsG (2 * x.e.n) (rowsT x r) b ∧ e = .returned (.agg (cGph b).toArray) ∧ R.Own [] w w' (bRows b) := by
  have hM := R.Own.start [] w
  have hL := hG.lasts
  have hLr := hGr.lasts
  have hb : netB x = true := (rulesB_of hr).1
  obtain ⟨⟨s1, s2, s3, -⟩, ⟨h1, h2, h3, -⟩, -⟩ := id hG
  obtain ⟨M, hMM⟩ : ∃ M, rowsT x r = M := ⟨_, rfl⟩
  have hML : M.length = 2 * x.e.n := by rw [← hMM, rowsT_len]
  have hMo : ∀ v, v ≤ 2 * x.e.n → off M v ≤ 6400 := fun v hv => by
    have := off_rowsT x r v hv
    rw [hMM] at this
    have h2 : 2 * x.e.n * v ≤ 80 * 80 := Nat.mul_le_mul (by omega) (by omega)
    omega
  rw [hMM]
  refine R.calls_of_WC (fn := Tryz.f9) Tryz.func9 rfl Tryz.ntmps9 (Nat.le_of_ble_eq_true rfl) ?_
  (refine R.stepN ?_; (repeat' (first | (with_reducible refine And.intro ?_ ?_) | (with_reducible intro _))); all_goals refine R.Lft.mk ?_)
  rename_i gn _ _ gc _ _ g2 _ _ sA sc _ _ bb _ _ _ hM
  have hM := R.Own.nil (R.Own.nil (R.pk (r := .row sA _ _ _ _ _) hM) 3 1) 3 1
  refine R.WC_loop (fun i : Nat × Option Addr × Option Addr × Option Addr × Nat × Nat × Nat => [(2, .pointer (some ⟨gn, 0, none⟩)), (3, .pointer (some ⟨gc, 0, none⟩)), (4, .pointer (some ⟨g2, 0, none⟩)), (5, .pointer (some ⟨bb, 0, none⟩)), (6, .int .i64 (i.1 : Nat))])
    (fun i w2 => i.1 ≤ 2 * x.e.n ∧ R.Own [] w w2 (gRes bb i.2.1 i.2.2.1 i.2.2.2.1 (stM M i.1) (hdM M i.1) (wtM M i.1) i.2.2.2.2.1 i.2.2.2.2.2.1 i.2.2.2.2.2.2 ++ [.blk g2 34 [.slice none 0 0, .slice none 0 0, .slice none 0 0], .blk gc 29 (cRl r), .blk gn 26 (cNt x)])) (fun i => 2 * x.e.n - i.1)
    ⟨(0, sA, none, none, sc, 0, 0), ⟨rfl, rfl, rfl, rfl, rfl, trivial⟩, Nat.zero_le _, hM⟩ ?_
  clear hM
  rintro ⟨k, sA, hA, wA, sc, hc, wc⟩ f w5 ⟨hk, hM⟩
  dsimp only at hk hM ⊢
  have hsl := stM_len M k
  have hhl := hdM_len (M := M) (k := k) (by omega)
  have hwl := wtM_len (M := M) (k := k) (by omega)
  have hMc : R.Own [] w w5 (.row hA (hdM M k).length hc 3 1 ((hdM M k).flatMap R.cI) :: .row wA (wtM M k).length wc 3 1 ((wtM M k).flatMap R.cI) :: .row sA (stM M k).length sc 3 1 ((stM M k).flatMap R.cI) :: .blk bb 34 [.slice sA (stM M k).length sc, .slice hA (hdM M k).length hc, .slice wA (wtM M k).length wc] :: [.blk g2 34 [.slice none 0 0, .slice none 0 0, .slice none 0 0], .blk gc 29 (cRl r), .blk gn 26 (cNt x)]) := hM
  by_cases hlt : k < 2 * x.e.n
  · have hof := hMo k (by omega)
    have hrow : nth M k = rowT x r (k : Nat) (2 * x.e.n) := by rw [← hMM]; exact rowsT_nth hlt
    clear hM
    (refine R.stepN ?_; (repeat' (first | (with_reducible refine And.intro ?_ ?_) | (with_reducible intro _))); all_goals refine R.Lft.mk ?_)
    refine R.WC_loop (fun i : Nat × Option Addr × Nat × List Int × Option Addr × Nat × List Int => [(2, .pointer (some ⟨gn, 0, none⟩)), (3, .pointer (some ⟨gc, 0, none⟩)), (4, .pointer (some ⟨g2, 0, none⟩)), (5, .pointer (some ⟨bb, 0, none⟩)), (6, .int .i64 (k : Nat)), (7, .int .i64 (i.1 : Nat))])
      (fun i w2 => i.1 ≤ 2 * x.e.n ∧ i.2.2.2.1 = hdM M k ++ (rowT x r (k : Nat) i.1).map Item.at_ ∧ i.2.2.2.2.2.2 = wtM M k ++ (rowT x r (k : Nat) i.1).map Item.key ∧ R.Own [] w w2 (.row i.2.1 i.2.2.2.1.length i.2.2.1 3 1 (i.2.2.2.1.flatMap R.cI) :: .row i.2.2.2.2.1 i.2.2.2.2.2.2.length i.2.2.2.2.2.1 3 1 (i.2.2.2.2.2.2.flatMap R.cI) :: .row sA (stM M k).length sc 3 1 ((stM M k).flatMap R.cI) :: .blk bb 34 [.slice sA (stM M k).length sc, .slice i.2.1 i.2.2.2.1.length i.2.2.1, .slice i.2.2.2.2.1 i.2.2.2.2.2.2.length i.2.2.2.2.2.1] :: [.blk g2 34 [.slice none 0 0, .slice none 0 0, .slice none 0 0], .blk gc 29 (cRl r), .blk gn 26 (cNt x)])) (fun i => 2 * x.e.n - i.1)
      ⟨(0, hA, hc, hdM M k, wA, wc, wtM M k), ⟨rfl, rfl, rfl, rfl, rfl, rfl, trivial⟩, Nat.zero_le _, (List.append_nil _).symm, (List.append_nil _).symm, R.ohm⟩ ?_
    clear hMc
    rintro ⟨v, hA, hc, H, wA, wc, W⟩ f w6 ⟨hv, e1, e2, hM⟩
    dsimp only at hv e1 e2 hM ⊢
    have hrl := rowT_le x r (k : Nat) v
    have hHl : H.length = off M k + (rowT x r (k : Nat) v).length := by rw [e1, List.length_append, List.length_map, hhl]
    have hWl : W.length = off M k + (rowT x r (k : Nat) v).length := by rw [e2, List.length_append, List.length_map, hwl]
    by_cases hvl : v < 2 * x.e.n
    · have hu := rowT_succ x r (k : Nat) v
      have hk64 : In64 ((k : Nat) : Int) := by unfold In64; omega
      have hv64 : In64 ((v : Nat) : Int) := by unfold In64; omega
      cases ht : takeB x r ((k : Nat) : Int) ((v : Nat) : Int) with
      | true =>
        have i1 : R.ConB Tryz.prog 13 #[.agg (cNt x).toArray, .agg (cRl r).toArray, .int .i64 (k : Nat), .int .i64 (v : Nat)] Unit (fun _ w => GNt w x ∧ GRl w r) (fun _ => .bool true) := ⟨fun s w h => by
          have q := (con_rtake x r (k : Nat) (v : Nat)).h s w ⟨h.1, h.2, hk64, hv64, hb⟩
          rw [ht] at q
          exact q⟩
        rw [ht, if_pos rfl] at hu
        (refine R.stepN ?_; (repeat' (first | (with_reducible refine And.intro ?_ ?_) | (with_reducible intro _))); all_goals refine R.Lft.mk ?_)
        rename_i hA2 hc2 _ _ _ hM
        have hAs : ∃ a, x.e.A = some a := (R.Own.rdIn hM h1).some_ (by omega) (by decide)
        have hM := R.pk (r := .row wA _ _ _ _ _) hM
        refine R.WC_planXD1 [(0, false), (1, false), (2, false), (3, false), (4, false), (5, false), (6, false), (7, false), (8, false), (9, true), (10, true), (11, false), (12, true)] R.mixed (by decide +kernel) R.ohm ?_
        (refine R.stepN ?_; (repeat' (first | (with_reducible refine And.intro ?_ ?_) | (with_reducible intro _))); all_goals refine R.Lft.mk ?_)
        rename_i wA2 wc2 _ _ _ hM
        rw [show H.length + 1 = (H ++ [((v : Nat) : Int)]).length by simp, show W.length + 1 = (W ++ [(nth x.e.L (v / 2)).w]).length by simp] at hM
        refine ⟨(v + 1, hA2, hc2, H ++ [((v : Nat) : Int)], wA2, wc2, W ++ [(nth x.e.L (v / 2)).w]), ⟨rfl, rfl, rfl, rfl, rfl, R.viaI rfl (by dsimp only; omega), trivial⟩, ⟨by dsimp only; omega, ?_, ?_, R.Own.swap hM⟩, by dsimp only; omega⟩
        · dsimp only
          rw [hu, e1, List.map_append, List.append_assoc]
          rfl
        · dsimp only
          rw [hu, e2, List.map_append, List.append_assoc]
          rfl
      | false =>
        have i1 : R.ConB Tryz.prog 13 #[.agg (cNt x).toArray, .agg (cRl r).toArray, .int .i64 (k : Nat), .int .i64 (v : Nat)] Unit (fun _ w => GNt w x ∧ GRl w r) (fun _ => .bool false) := ⟨fun s w h => by
          have q := (con_rtake x r (k : Nat) (v : Nat)).h s w ⟨h.1, h.2, hk64, hv64, hb⟩
          rw [ht] at q
          exact q⟩
        rw [ht, if_neg (by decide)] at hu
        (refine R.stepN ?_; (repeat' (first | (with_reducible refine And.intro ?_ ?_) | (with_reducible intro _))); all_goals refine R.Lft.mk ?_)
        exact ⟨(v + 1, hA, hc, H, wA, wc, W), ⟨rfl, rfl, rfl, rfl, rfl, R.viaI rfl (by dsimp only; omega), trivial⟩, ⟨by dsimp only; omega, by dsimp only; rw [hu]; exact e1, by dsimp only; rw [hu]; exact e2, R.ohm⟩, by dsimp only; omega⟩
    · obtain rfl : v = 2 * x.e.n := by omega
      rw [← hrow, ← hdM_succ (by omega)] at e1
      rw [← hrow, ← wtM_succ (by omega)] at e2
      (refine R.stepN ?_; (repeat' (first | (with_reducible refine And.intro ?_ ?_) | (with_reducible intro _))); all_goals refine R.Lft.mk ?_)
      rename_i sA2 sc2 _ _ _ hM
      have ho2 := off_succ (M := M) (j := k) (by omega)
      have hs2 := stM_succ M k
      rw [ho2, hrow, ← hHl] at hs2
      rw [show (stM M k).length + 1 = (stM M (k + 1)).length by rw [hs2]; simp, ← hs2] at hM
      subst e1
      subst e2
      exact ⟨(k + 1, sA2, hA, wA, sc2, hc, wc), ⟨rfl, rfl, rfl, rfl, R.viaI rfl (by dsimp only; omega), trivial⟩, ⟨by dsimp only; omega, hM⟩, by dsimp only; omega⟩
  · obtain rfl : k = 2 * x.e.n := by omega
    clear hM
    (refine R.stepN ?_; (repeat' (first | (with_reducible refine And.intro ?_ ?_) | (with_reducible intro _))); all_goals refine R.Lft.mk ?_)
    exact ⟨⟨⟨sA, (stM M (2 * x.e.n)).length, sc, stM M (2 * x.e.n)⟩, ⟨hA, (hdM M (2 * x.e.n)).length, hc, hdM M (2 * x.e.n)⟩, ⟨wA, (wtM M (2 * x.e.n)).length, wc, wtM M (2 * x.e.n)⟩⟩, ⟨hsl, hhl, hwl, rfl, rfl, rfl⟩, rfl, R.Own.sub R.ohm (List.Sublist.cons_cons _ (List.Sublist.cons_cons _ (List.Sublist.cons_cons _ (List.nil_sublist _))))⟩
end Go.Proofs.YtdiodefooipojaaGreat
namespace Go.Proofs.YtdiodefooipojaaGreat
open Go.ChangeShapes Go.WideShapes Go.ChangeAt Go.RowKit
open R (In64 InU64 lo64 nth)

theorem of_no (x : Nt) (r : Rl) (w : World) (hG : GNt w x) (hGr : GRl w r) (hr : rulesB x r = false) : Calls Tryz.prog 6 #[.agg (cNt x).toArray, .agg (cRl r).toArray] w fun e w' => e = .returned (.tuple #[.agg #[.slice none 0 0, .slice none 0 0, .slice none 0 0], .int .i64 1]) ∧ Below w.heap.size w w' := by
  have hM := R.Own.start [] w
  have hL := hG.lasts
  have hLr := hGr.lasts
  have i1 : R.ConB Tryz.prog 16 #[.agg (cNt x).toArray, .agg (cRl r).toArray] Unit (fun _ w => GNt w x ∧ GRl w r) (fun _ => .bool false) := ⟨fun s w h => by
    have q := (con_bmay x r).h s w h
    rw [hr] at q
    exact q⟩
  refine R.calls_of_WC (fn := Tryz.f6) Tryz.func6 rfl Tryz.ntmps6 (Nat.le_of_ble_eq_true rfl) ?_
  (refine R.stepN ?_; (repeat' (first | (with_reducible refine And.intro ?_ ?_) | (with_reducible intro _))); all_goals refine R.Lft.mk ?_; (all_goals (try (exact ⟨rfl, R.Own.below (by assumption)⟩))))
theorem nilH (w : World) : GGph w ⟨⟨none, 0, 0, []⟩, ⟨none, 0, 0, []⟩, ⟨none, 0, 0, []⟩⟩ :=
  have h : R.GSl R.cI 1 GI w ⟨none, 0, 0, []⟩ := ⟨R.Inp.nil _ _ _ _, rfl, ⟨Nat.le_refl _, by decide⟩, fun y hy => (by cases hy)⟩
  ⟨h, h, h⟩
section
variable (x : Nt) (r : Rl) (w : World) (hG : GNt w x) (hGr : GRl w r)
include hG hGr
omit hG hGr in
theorem arcsOf_heavy (hs : ¬ (x.s.n ≤ 30 ∧ x.e.n ≤ 40 ∧ x.p.n ≤ 20 ∧ r.b.n ≤ 60)) : Calls Tryz.prog 3 #[.agg (cNt x).toArray, .agg (cRl r).toArray] w fun e w' => e = .returned (.bool true) ∧ Below w.heap.size w w' := by
  have hM := R.Own.start [] w
  have i1 : R.ConB Tryz.prog 4 #[.agg (cNt x).toArray, .agg (cRl r).toArray] Unit (fun _ _ => True) (fun _ => .bool false) := ⟨fun s w h => by
    have q := (con_light17 x r).h s w h
    rw [decide_eq_false hs] at q
    exact q⟩
  refine R.calls_of_WC (fn := Tryz.f3) Tryz.func3 rfl Tryz.ntmps3 (Nat.le_of_ble_eq_true rfl) ?_
  (refine R.stepN ?_; (repeat' (first | (with_reducible refine And.intro ?_ ?_) | (with_reducible intro _))); all_goals refine R.Lft.mk ?_)
  exact ⟨rfl, R.Own.below R.ohm⟩
theorem arcsOf_no (hs : x.s.n ≤ 30 ∧ x.e.n ≤ 40 ∧ x.p.n ≤ 20 ∧ r.b.n ≤ 60) (hr : rulesB x r = false) : Calls Tryz.prog 3 #[.agg (cNt x).toArray, .agg (cRl r).toArray] w fun e w' => e = .returned (.bool true) ∧ Below w.heap.size w w' := by
  have hM := R.Own.start [] w
  have hL := hG.lasts
  have hLr := hGr.lasts
  have i1 : R.ConB Tryz.prog 4 #[.agg (cNt x).toArray, .agg (cRl r).toArray] Unit (fun _ _ => True) (fun _ => .bool true) := ⟨fun s w h => by
    have q := (con_light17 x r).h s w h
    rw [decide_eq_true hs] at q
    exact q⟩
  have j2 : R.ConB Tryz.prog 7 #[.agg (cNt x).toArray, .agg (cRl r).toArray] Unit (fun _ w => GNt w x ∧ GRl w r) (fun _ => .bool false) := ⟨fun s w h => by
    have q := (con_rmay17 x r).h s w h
    rw [hr] at q
    exact q⟩
  have j3 : R.ConB Tryz.prog 8 #[.agg #[.slice none 0 0, .slice none 0 0, .slice none 0 0], .agg #[.slice none 0 0, .slice none 0 0, .slice none 0 0]] Unit (fun _ _ => True) (fun _ => .bool true) := ⟨fun s w _ => rsame_any _ _ w (nilH w) (nilH w) ⟨Nat.zero_le _, Nat.zero_le _, Nat.zero_le _⟩⟩
  refine R.calls_of_WC (fn := Tryz.f3) Tryz.func3 rfl Tryz.ntmps3 (Nat.le_of_ble_eq_true rfl) ?_
  (refine R.stepN ?_; (repeat' (first | (with_reducible refine And.intro ?_ ?_) | (with_reducible intro _))); all_goals refine R.Lft.mk ?_)
  refine R.WO_call2 rfl rfl R.vv R.vv ?_
  refine (of_no x r _ (GNt.now R.ohm hG) (GRl.now R.ohm hGr) hr).mono ?_
  rintro _ w3 ⟨rfl, hb3⟩
  have hM := R.Own.call R.ohm hb3
  refine ⟨_, rfl, ?_⟩
  (refine R.stepN ?_; (repeat' (first | (with_reducible refine And.intro ?_ ?_) | (with_reducible intro _))); all_goals refine R.Lft.mk ?_)
  exact ⟨rfl, R.Own.below R.ohm⟩
set_option maxHeartbeats 4000000 in
attribute [local irreducible] takeB rulesB in
theorem arcsOf_in (hs : x.s.n ≤ 30 ∧ x.e.n ≤ 40 ∧ x.p.n ≤ 20 ∧ r.b.n ≤ 60) (hr : rulesB x r = true) : Calls Tryz.prog 3 #[.agg (cNt x).toArray, .agg (cRl r).toArray] w fun e w' => e = .returned (.bool true) ∧ Below w.heap.size w w' := by
  have hM := R.Own.start [] w
  have hL := hG.lasts
  have hLr := hGr.lasts
  have hb : netB x = true := (rulesB_of hr).1
  have i1 : R.ConB Tryz.prog 4 #[.agg (cNt x).toArray, .agg (cRl r).toArray] Unit (fun _ _ => True) (fun _ => .bool true) := ⟨fun s w h => by
    have q := (con_light17 x r).h s w h
    rw [decide_eq_true hs] at q
    exact q⟩
  have j2 : R.ConB Tryz.prog 7 #[.agg (cNt x).toArray, .agg (cRl r).toArray] Unit (fun _ w => GNt w x ∧ GRl w r) (fun _ => .bool true) := ⟨fun s w h => by
    have q := (con_rmay17 x r).h s w h
    rw [hr] at q
    exact q⟩
  obtain ⟨z1, z2, z3, z4⟩ := hs
  refine R.calls_of_WC (fn := Tryz.f3) Tryz.func3 rfl Tryz.ntmps3 (Nat.le_of_ble_eq_true rfl) ?_
  (refine R.stepN ?_; (repeat' (first | (with_reducible refine And.intro ?_ ?_) | (with_reducible intro _))); all_goals refine R.Lft.mk ?_)
  rename_i gn _ _ gc _ _ _ hM
  refine R.WO_call2 rfl rfl R.vv R.vv ?_
  refine (of_any x r _ (GNt.now R.ohm hG) (GRl.now R.ohm hGr) hr z2).mono ?_
  rintro _ w3 ⟨g, hg, rfl, hO⟩
  rw [rows_same hr] at hg
  have hBs := rowsT_bks hr
  have ho : off (rowsT x r) (2 * x.e.n) ≤ 6400 := by
    have := off_rowsT x r (2 * x.e.n) (Nat.le_refl _)
    have h2 : 2 * x.e.n * (2 * x.e.n) ≤ 80 * 80 := Nat.mul_le_mul (by omega) (by omega)
    omega
  have hMg : MayG g := hBs.may hg (by omega) (by omega)
  have hGB : ∀ w' l, R.Own [] w w' l → (∀ r ∈ bRows g, r ∈ l) → GGph w' g := fun w' l h1 h2 => hg.G hBs (by omega) (by omega) h1 h2
  have hM : R.Own [] w w3 (.row g.hd.A g.hd.n g.hd.c 3 1 (g.hd.L.flatMap R.cI) :: .row g.wt.A g.wt.n g.wt.c 3 1 (g.wt.L.flatMap R.cI) :: .row g.st.A g.st.n g.st.c 3 1 (g.st.L.flatMap R.cI) :: [.blk gc 29 (cRl r), .blk gn 26 (cNt x)]) := (R.Own.giveN hM hO).perm (List.perm_append_comm (l₁ := bRows g) (l₂ := [.blk gc 29 (cRl r), .blk gn 26 (cNt x)]))
  clear hO
  have hgn := hg.sn
  have hghn := hg.hn
  have hgwn := hg.wn
  refine ⟨_, rfl, ?_⟩
  (refine R.stepN ?_; (repeat' (first | (with_reducible refine And.intro ?_ ?_) | (with_reducible intro _))); all_goals refine R.Lft.mk ?_)
  rename_i gd _ _ _ _ _ hM
  refine R.WC_planO [(0, false), (1, false), (2, false), (3, false), (4, false), (5, false), (6, true), (7, true), (8, false), (9, false), (10, false), (11, false), (12, true), (13, false), (14, false), (15, false), (16, false), (18, false), (19, false), (20, false), (21, false), (17, true), (22, false), (23, false)] R.mixed (by decide +kernel) R.ohm ?_
  (refine R.stepN ?_; (repeat' (first | (with_reducible refine And.intro ?_ ?_) | (with_reducible intro _))); all_goals refine R.Lft.mk ?_)
  rename_i hM
  refine R.WO_call2 rfl rfl R.vv R.vv ?_
  refine (rof_any x r _ (GNt.now hM hG) (GRl.now hM hGr) hr z2).mono ?_
  rintro _ w5 ⟨q, hq, rfl, hO⟩
  have hGq := hq.G hBs (by omega) (by omega) hO (fun r hr => hr)
  have hM := (R.Own.giveN hM hO).perm (List.perm_append_comm (l₁ := bRows q))
  have hM := R.Own.tl (R.Own.tl (R.Own.tl hM))
  dsimp only [List.append] at hM
  refine ⟨_, rfl, hM, ?_⟩
  (refine R.stepN ?_; (repeat' (first | (with_reducible refine And.intro ?_ ?_) | (with_reducible intro _))); all_goals refine R.Lft.mk ?_)
  refine R.WO_call2 rfl rfl R.vv R.vv ?_
  refine (rsame_any g q _ (hGB _ _ hM fun r hr => by
    simp only [bRows, List.mem_cons, List.not_mem_nil, or_false] at hr
    rcases hr with rfl | rfl | rfl <;> exact R.memb) hGq ⟨by omega, by omega, by omega⟩).mono ?_
  rintro _ w6 ⟨rfl, hb6⟩
  rw [hg.eq hq]
  have hM := R.Own.call hM hb6
  refine ⟨_, rfl, hM, ?_⟩
  (refine R.stepN ?_; (repeat' (first | (with_reducible refine And.intro ?_ ?_) | (with_reducible intro _))); all_goals refine R.Lft.mk ?_)
  refine R.WO_call1 rfl rfl R.vv ?_
  refine (amay_any g _ (hGB _ _ hM fun r hr => by
    simp only [bRows, List.mem_cons, List.not_mem_nil, or_false] at hr
    rcases hr with rfl | rfl | rfl <;> exact R.memb)).mono ?_
  rintro _ w7 ⟨rfl, hb7⟩
  rw [mayG_t hMg]
  have hM := R.Own.call hM hb7
  refine ⟨_, rfl, hM, ?_⟩
  (refine R.stepN ?_; (repeat' (first | (with_reducible refine And.intro ?_ ?_) | (with_reducible intro _))); all_goals refine R.Lft.mk ?_)
  refine R.WO_call1 rfl rfl R.vv ?_
  refine (asize_any g _ (hGB _ _ hM fun r hr => by
    simp only [bRows, List.mem_cons, List.not_mem_nil, or_false] at hr
    rcases hr with rfl | rfl | rfl <;> exact R.memb) hMg).mono ?_
  rintro _ w8 ⟨rfl, hb8⟩
  have hM := R.Own.call hM hb8
  rw [show ((g.st.n : Nat) : Int) - 1 = 2 * ((x.e.n : Nat) : Int) by omega]
  refine ⟨_, rfl, hM, ?_⟩
  (refine R.stepN ?_; (repeat' (first | (with_reducible refine And.intro ?_ ?_) | (with_reducible intro _))); all_goals refine R.Lft.mk ?_)
  all_goals first
    | (exfalso; omega)
    | skip
  all_goals try exact absurd rfl (by assumption)
  refine R.WC_loop (fun v : Nat => [(2, .pointer (some ⟨gn, 0, none⟩)), (3, .pointer (some ⟨gc, 0, none⟩)), (4, .bool false), (5, .pointer (some ⟨gd, 0, none⟩)), (7, .int .i64 (v : Nat))]) (fun v w2 => v ≤ 6 ∧ R.Own [] w w2 [.blk gd 34 (cGph g), .row g.hd.A g.hd.n g.hd.c 3 1 (g.hd.L.flatMap R.cI), .row g.wt.A g.wt.n g.wt.c 3 1 (g.wt.L.flatMap R.cI), .row g.st.A g.st.n g.st.c 3 1 (g.st.L.flatMap R.cI), .blk gc 29 (cRl r), .blk gn 26 (cNt x)]) (fun v => 6 - v) ⟨0, ⟨rfl, rfl, rfl, rfl, rfl, trivial⟩, Nat.zero_le _, R.ohm⟩ ?_
  clear hM
  rintro v f w9 ⟨hv, hM⟩
  by_cases hlt : v < 2 * x.e.n ∧ v < 6
  · obtain ⟨l1, l2⟩ := hlt
    (refine R.stepN ?_; (repeat' (first | (with_reducible refine And.intro ?_ ?_) | (with_reducible intro _))); all_goals refine R.Lft.mk ?_)
    refine R.WC_loop (fun u : Nat => [(2, .pointer (some ⟨gn, 0, none⟩)), (3, .pointer (some ⟨gc, 0, none⟩)), (4, .bool false), (5, .pointer (some ⟨gd, 0, none⟩)), (7, .int .i64 (v : Nat)), (8, .int .i64 (u : Nat))]) (fun u w2 => u ≤ 6 ∧ R.Own [] w w2 [.blk gd 34 (cGph g), .row g.hd.A g.hd.n g.hd.c 3 1 (g.hd.L.flatMap R.cI), .row g.wt.A g.wt.n g.wt.c 3 1 (g.wt.L.flatMap R.cI), .row g.st.A g.st.n g.st.c 3 1 (g.st.L.flatMap R.cI), .blk gc 29 (cRl r), .blk gn 26 (cNt x)]) (fun u => 6 - u) ⟨0, ⟨rfl, rfl, rfl, rfl, rfl, rfl, trivial⟩, Nat.zero_le _, R.ohm⟩ ?_
    clear hM
    rintro u f w10 ⟨hu, hM⟩
    by_cases hltu : u < 2 * x.e.n ∧ u < 6
    · obtain ⟨m1, m2⟩ := hltu
      (refine R.stepN ?_; (repeat' (first | (with_reducible refine And.intro ?_ ?_) | (with_reducible intro _))); all_goals refine R.Lft.mk ?_)
      rename_i hM
      refine R.WO_call3 rfl rfl R.vv R.vv R.vv ?_
      refine (aarc_any g v (u : Nat) _ (hGB _ _ hM fun r hr => by
    simp only [bRows, List.mem_cons, List.not_mem_nil, or_false] at hr
    rcases hr with rfl | rfl | rfl <;> exact R.memb) hMg (by omega)).mono ?_
      rintro _ w11 ⟨rfl, hb11⟩
      have hM := R.Own.call hM hb11
      have et : decide (0 ≤ arcF (outT g v (degG g v)) ((u : Nat) : Int)) = takeB x r ((v : Nat) : Int) ((u : Nat) : Int) := by
        rw [hg.row (rowsT_len x r) l1, rowsT_nth l1, arc_take hr (by omega) (by omega)]
      rw [et]
      have hv64 : In64 ((v : Nat) : Int) := by unfold In64; omega
      have hu64 : In64 ((u : Nat) : Int) := by unfold In64; omega
      refine ⟨_, rfl, ?_⟩
      cases ht : takeB x r ((v : Nat) : Int) ((u : Nat) : Int) with
      | true =>
        have i3 : R.ConB Tryz.prog 13 #[.agg (cNt x).toArray, .agg (cRl r).toArray, .int .i64 (v : Nat), .int .i64 (u : Nat)] Unit (fun _ w => GNt w x ∧ GRl w r) (fun _ => .bool true) := ⟨fun s w h => by
          have q := (con_rtake x r (v : Nat) (u : Nat)).h s w ⟨h.1, h.2, hv64, hu64, hb⟩
          rw [ht] at q
          exact q⟩
        (refine R.stepN ?_; (repeat' (first | (with_reducible refine And.intro ?_ ?_) | (with_reducible intro _))); all_goals refine R.Lft.mk ?_)
        exact ⟨u + 1, ⟨rfl, rfl, rfl, rfl, rfl, R.viaI rfl (by omega), trivial⟩, ⟨by omega, R.ohm⟩, by omega⟩
      | false =>
        have i3 : R.ConB Tryz.prog 13 #[.agg (cNt x).toArray, .agg (cRl r).toArray, .int .i64 (v : Nat), .int .i64 (u : Nat)] Unit (fun _ w => GNt w x ∧ GRl w r) (fun _ => .bool false) := ⟨fun s w h => by
          have q := (con_rtake x r (v : Nat) (u : Nat)).h s w ⟨h.1, h.2, hv64, hu64, hb⟩
          rw [ht] at q
          exact q⟩
        (refine R.stepN ?_; (repeat' (first | (with_reducible refine And.intro ?_ ?_) | (with_reducible intro _))); all_goals refine R.Lft.mk ?_)
        exact ⟨u + 1, ⟨rfl, rfl, rfl, rfl, rfl, R.viaI rfl (by omega), trivial⟩, ⟨by omega, R.ohm⟩, by omega⟩
    · have hex : (2 * x.e.n ≤ u) ∨ (u < 2 * x.e.n ∧ 6 ≤ u) := by omega
      rcases hex with q1 | ⟨q1, q2⟩
      · (refine R.stepN ?_; (repeat' (first | (with_reducible refine And.intro ?_ ?_) | (with_reducible intro _))); all_goals refine R.Lft.mk ?_)
        exact ⟨v + 1, ⟨rfl, rfl, rfl, rfl, R.viaI rfl (by omega), trivial⟩, ⟨by omega, R.ohm⟩, by omega⟩
      · (refine R.stepN ?_; (repeat' (first | (with_reducible refine And.intro ?_ ?_) | (with_reducible intro _))); all_goals refine R.Lft.mk ?_)
        exact ⟨v + 1, ⟨rfl, rfl, rfl, rfl, R.viaI rfl (by omega), trivial⟩, ⟨by omega, R.ohm⟩, by omega⟩
  · have hex : (2 * x.e.n ≤ v) ∨ (v < 2 * x.e.n ∧ 6 ≤ v) := by omega
    rcases hex with q1 | ⟨q1, q2⟩
    · (refine R.stepN ?_; (repeat' (first | (with_reducible refine And.intro ?_ ?_) | (with_reducible intro _))); all_goals refine R.Lft.mk ?_)
      exact ⟨rfl, R.Own.below R.ohm⟩
    · (refine R.stepN ?_; (repeat' (first | (with_reducible refine And.intro ?_ ?_) | (with_reducible intro _))); all_goals refine R.Lft.mk ?_)
      exact ⟨rfl, R.Own.below R.ohm⟩
theorem arcsOf_any : Calls Tryz.prog 3 #[.agg (cNt x).toArray, .agg (cRl r).toArray] w fun e w' => e = .returned (.bool true) ∧ Below w.heap.size w w' := by
  by_cases hs : x.s.n ≤ 30 ∧ x.e.n ≤ 40 ∧ x.p.n ≤ 20 ∧ r.b.n ≤ 60
  · cases hr : rulesB x r with
    | true => exact arcsOf_in x r w hG hGr hs hr
    | false => exact arcsOf_no x r w hG hGr hs hr
  · exact arcsOf_heavy x r w hs
end
set_option maxRecDepth 100000 in
theorem walk_ArcsOf {H : Type} {enc : TypeId × Value → H} (W : World) (base : Nat) (args : Array Value) (ds : List (DataW H)) (ps : List MemPlace) (hA : DataW.TrodAll enc Tryz.prog W 0 (fun _ => true) true [26, 29] args.toList ds ps)
    (hval : ∀ (j : Nat) t v, #[26, 29][j]? = some t → args[j]? = some v → Value.okWide Tryz.prog W .any base t v) :
    Calls Tryz.prog 3 args W fun e W' => e = .returned (.bool true) ∧ Below W.heap.size W W' := by
  obtain ⟨v0, v1, d0, d1, p0, p1, rfl, rfl, rfl, h0, h1⟩ := trodAll_two hA
  obtain ⟨z0, q0, g0, a0, b0⟩ := R.open_arg (hval 0 26 v0 rfl rfl) h0
  obtain ⟨z1, q1, g1, a1, b1⟩ := R.open_arg (hval 1 29 v1 rfl rfl) h1
  obtain rfl := a0 (by kernel_rfl)
  obtain rfl := a1 (by kernel_rfl)
  exact arcsOf_any z0 z1 W g0 g1
end Go.Proofs.YtdiodefooipojaaGreat
namespace Go.Proofs.YtdiodefooipojaaGreat
open Go.ChangeShapes Go.WideShapes Go.ChangeAt Go.RowKit
set_option maxRecDepth 100000 in
theorem arcsOf_lifted (os : Os) (started : os.Started) (H : Type) (enc : TypeId × Value → H) :
    ReturnsInHanded {} Tryz.checked os 3 .any (Rows.arcsOfSpec.pre6 enc Tryz.prog Tryz.f3 Rows.arcsOfRow.domain false) (Rows.arcsOfSpec.post enc Tryz.prog Tryz.f3 false true false false) := by
  refine returnsInHanded_of_change (C := Tryz.checked) ownKnob_none started (by kernel_rfl) Tryz.func3
    (ChangeSpec.witness6 (enc := enc) (C := Tryz.checked) false ⟨#[], #[.agg #[.slice none 0 0, .slice none 0 0, .slice none 0 0], .agg #[.slice none 0 0, .int .i64 0]], []⟩ 8 (by kernel_rfl) (by kernel_rfl) (by kernel_rfl) (by kernel_rfl)) ?_
  intro W base args ds gs before hval0 hW _ _
  have hval : ∀ (j : Nat) t v, Tryz.f3.params[j]? = some t → args[j]? = some v → Value.okWide Tryz.prog W .any base t v := hval0
  have hW' := hW
  obtain ⟨p, q, hA0, hV, rfl, hfz, hnd⟩ := hW
  have hA : DataW.TrodAll enc Tryz.prog W 0 (fun _ => true) true Tryz.f3.params.toList args.toList ds p := hA0
  obtain ⟨rfl, rfl⟩ := trodVars_none hV
  have hA1 := hA
  rw [Tryz.params3] at hA1 hval
  simp only [List.append_nil] at hW'
  refine (walk_ArcsOf W base args ds p hA1 hval).mono fun e W' ⟨he, hb⟩ => ?_
  subst he
  refine ⟨_, rfl, law_post rfl laidOut hW' hA (by kernel_rfl) rfl (by kernel_rfl) ?_ hb⟩
  clear hb hW' hA hfz hnd hV hval hval0 hA0
  obtain ⟨v0, vs0, d0, ds0, p0, q0, e0, rfl, g0, h0, r0⟩ := trodAll_cons hA1
  obtain ⟨v1, vs1, d1, ds1, p1, q1, e1, rfl, g1, h1, r1⟩ := trodAll_cons r0
  obtain ⟨_, rfl, _⟩ := trodAll_nil r1
  rfl

theorem arcsOf_holds : Rows.ArcsOfSaid :=
  OpenClaim.holds_of_wide 3 Tryz.f3 rfl rfl rfl rfl rfl rfl rfl ⟨rfl, rfl, rfl, rfl, rfl⟩ rfl rfl rfl rfl rfl (by kernel_rfl) Tryz.func3 (by kernel_rfl)
    (of_decide_eq_true (by kernel_rfl)) (by unfold Func.isWrapper; first | (rw [if_pos (by decide +kernel)]; kernel_rfl) | (rw [if_neg (by decide +kernel)]; exact ⟨rfl, rfl⟩))
    (fun os started H enc _ => arcsOf_lifted os started H enc)
#print axioms arcsOf_holds
end Go.Proofs.YtdiodefooipojaaGreat
