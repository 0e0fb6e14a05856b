/- Package wit: Run. -/
import Derived.Test.YtegbidklcaccjaaVs
namespace Go.Proofs.Ytegbidklcaccjaa
open Go.RowKit
open R (In64 InU64 lo64 nth)
/-- A vertex's arcs, as items. -/
def outI (I : Ins) (v : Nat) : List Item := (List.range (I.S (v + 1) - I.S v)).map fun j => Item.mk (I.W (I.S v + j)) ((I.H (I.S v + j) : Nat) : Int)
theorem outI_len (I : Ins) (v : Nat) : (outI I v).length = I.S (v + 1) - I.S v := by simp [outI]
theorem outI_nth (I : Ins) (v : Nat) {j : Nat} (h : j < I.S (v + 1) - I.S v) : nth (outI I v) j = Item.mk (I.W (I.S v + j)) ((I.H (I.S v + j) : Nat) : Int) := by
  rw [R.nth_eq (by rw [outI_len]; exact h)]
  simp [outI]
def itemsQ (q : Int → Option (Int × Int)) (S : List Nat) : List Item := S.map fun u => Item.mk (csQ q u) ((u : Nat) : Int)
theorem itemsQ_len (q : Int → Option (Int × Int)) (S : List Nat) : (itemsQ q S).length = S.length := by simp [itemsQ]
theorem itemsQ_eq {q q' : Int → Option (Int × Int)} {S : List Nat} (h : ∀ u ∈ S, csQ q' u = csQ q u) : itemsQ q' S = itemsQ q S := List.map_congr_left fun u hu => by rw [h u hu]
section
variable {fid : FuncId} [R.HasBody Try.prog fid] (cap : List Value) (I : Ins) (hI : I.Ok) (hn : I.n ≤ 40) (hd : ∀ v, v < I.n → I.S (v + 1) - I.S v ≤ 300) (x : Wt) (hx : In64 x.frm ∧ In64 x.past ∧ In64 x.most ∧ In64 x.hops ∧ In64 x.cnt) (src : Nat) (hsrc : x.frm = ((src : Nat) : Int)) (hsn : src < I.n) (hop : ∀ u, u < I.n → (I.op u = true ↔ ((u : Nat) : Int) ≠ x.past)) (w : World)
  (hf : ∀ (v : Nat) w1, v < I.n → Below w.heap.size w w1 → Calls Try.prog fid ([Value.int .i64 ((v : Nat) : Int)] ++ cap).toArray w1 fun e w' => ∃ A c, e = .returned (.slice A (I.S (v + 1) - I.S v) c) ∧ R.Gives w1 w' A (I.S (v + 1) - I.S v) c 72 2 ((outI I v).flatMap cItem))
include hI hn hd hx hsrc hsn hop hf
set_option maxHeartbeats 16000000 in
theorem wrun_any : Calls Try.prog 37 #[.agg (cWt x).toArray, .func (.func fid) #[] cap.toArray] w fun e w' => ∃ A c S cs, e = .returned (.slice A S.length c) ∧ R.Gives w w' A S.length c 72 2 ((S.map fun u => Item.mk (cs u) ((u : Nat) : Int)).flatMap cItem) ∧
    ((S = [] ∧ (x.most < 0 ∨ x.hops < 1 ∨ x.cnt < 1 ∨ x.frm = x.past)) ∨ (0 ≤ x.most ∧ x.frm ≠ x.past ∧ S.length ≤ I.n ∧ S.Pairwise (fun a b => cs a ≤ cs b) ∧ ∀ C P T, Least I C P T → I.st = [(src, 0)] → Told I x.most x.hops x.cnt cs S C)) := by
  have hM := R.Own.start [] w
  obtain ⟨x1, x2, x3, x4, x5⟩ := hx
  refine R.calls_of_WC (fn := Try.f37) Try.func37 rfl Try.ntmps37 (Nat.le_of_ble_eq_true rfl) ?_
  by_cases he : x.most < 0 ∨ x.hops < 1 ∨ x.cnt < 1 ∨ x.frm = x.past
  · have hnil : ∀ w2, R.Own [] w w2 [] → ∃ A c S cs, Ending.returned (.slice none 0 0) = .returned (.slice A S.length c) ∧ R.Gives w w2 A S.length c 72 2 ((S.map fun u => Item.mk (cs u) ((u : Nat) : Int)).flatMap cItem) ∧
        ((S = [] ∧ (x.most < 0 ∨ x.hops < 1 ∨ x.cnt < 1 ∨ x.frm = x.past)) ∨ (0 ≤ x.most ∧ x.frm ≠ x.past ∧ S.length ≤ I.n ∧ S.Pairwise (fun a b => cs a ≤ cs b) ∧ ∀ C P T, Least I C P T → I.st = [(src, 0)] → Told I x.most x.hops x.cnt cs S C)) := fun w2 hM2 => ⟨none, 0, [], fun _ => 0, rfl, R.Own.gives (R.Own.nil hM2 _ _), .inl ⟨rfl, he⟩⟩
    by_cases e1 : x.most < 0
    · (refine R.stepH ?_; (repeat' (first | (with_reducible refine And.intro ?_ ?_) | (with_reducible intro _))); all_goals refine R.Lft.mk ?_)
      exact hnil _ (R.Own.nul R.ohm)
    by_cases e2 : x.hops < 1
    · (refine R.stepH ?_; (repeat' (first | (with_reducible refine And.intro ?_ ?_) | (with_reducible intro _))); all_goals refine R.Lft.mk ?_)
      exact hnil _ (R.Own.nul R.ohm)
    by_cases e3 : x.cnt < 1
    · (refine R.stepH ?_; (repeat' (first | (with_reducible refine And.intro ?_ ?_) | (with_reducible intro _))); all_goals refine R.Lft.mk ?_)
      exact hnil _ (R.Own.nul R.ohm)
    have e4 : x.frm = x.past := by
      rcases he with h | h | h | h
      · exact absurd h e1
      · exact absurd h e2
      · exact absurd h e3
      · exact h
    (refine R.stepH ?_; (repeat' (first | (with_reducible refine And.intro ?_ ?_) | (with_reducible intro _))); all_goals refine R.Lft.mk ?_)
    exact hnil _ (R.Own.nul R.ohm)
  have e1 : ¬ x.most < 0 := fun h => he (.inl h)
  have e2 : ¬ x.hops < 1 := fun h => he (.inr (.inl h))
  have e3 : ¬ x.cnt < 1 := fun h => he (.inr (.inr (.inl h)))
  have e4 : ¬ x.frm = x.past := fun h => he (.inr (.inr (.inr h)))
  (refine R.stepH ?_; (repeat' (first | (with_reducible refine And.intro ?_ ?_) | (with_reducible intro _))); all_goals refine R.Lft.mk ?_)
  rename_i gx _ hM0
  refine R.WC_cut2 (ι := Nat × Nat × Nat × Nat) (fun i => [(1, .func (.func fid) #[] cap.toArray), (2, .pointer (some ⟨gx, 0, none⟩)), (4, .slice none 0 0), (5, .pointer (some ⟨i.1, 0, none⟩))])
    (fun i w2 => Vsr [] w w2 [.blk gx 67 (cWt x)] x i.1 i.2.1 i.2.2.1 i.2.2.2 0 0 (fun _ => none) (fun _ => none)) ?h1 ?h2
  case h1 =>
    refine R.WC_planF (.q 0 (.f 1 2 (.e 2 (.q 3 (.e 4 (.q 5 .nil)))) (.e 1 (.q 3 (.e 4 (.q 5 .nil)))))) R.mixed (by decide +kernel) R.ohm ?_
    (refine R.stepT ?_; (repeat' (first | (with_reducible refine And.intro ?_ ?_) | (with_reducible intro _))); all_goals refine R.Lft.mk ?_)
    · refine R.WO_call0 rfl rfl  ?_
      refine (new_hp R.ohm).mono ?_
      rintro _ w3 ⟨h, b, rfl, A, c3, L, es, clk, m, h1, h2, h3, h4, hM⟩
      refine ⟨_, rfl, ?_⟩
      (refine R.stepT ?_; (repeat' (first | (with_reducible refine And.intro ?_ ?_) | (with_reducible intro _))); all_goals refine R.Lft.mk ?_)
      refine R.WO_mkMap rfl R.ohm (fun bq w4 hM => ?_)
      (refine R.stepT ?_; (repeat' (first | (with_reducible refine And.intro ?_ ?_) | (with_reducible intro _))); all_goals refine R.Lft.mk ?_)
      all_goals first
        | exact ⟨rfl, (_, h, b, bq), ⟨rfl, rfl, rfl, rfl, trivial⟩, _, _, R.isQ_empty _ _, _, _, _, _, _, _, h1, h2, h3, h4, vsr_pick R.ohm⟩
        | (refine ⟨R.Own.sub R.ohm R.subl, ?_⟩
           (refine R.stepT ?_; (repeat' (first | (with_reducible refine And.intro ?_ ?_) | (with_reducible intro _))); all_goals refine R.Lft.mk ?_)
           exact ⟨rfl, (_, h, b, bq), ⟨rfl, rfl, rfl, rfl, trivial⟩, _, _, R.isQ_empty _ _, _, _, _, _, _, _, h1, h2, h3, h4, vsr_pick R.ohm⟩)
    · refine R.WO_mkMap rfl R.ohm (fun bq w3 hM => ?_)
      (refine R.stepT ?_; (repeat' (first | (with_reducible refine And.intro ?_ ?_) | (with_reducible intro _))); all_goals refine R.Lft.mk ?_)
      refine R.WO_call0 rfl rfl  ?_
      refine (new_hp R.ohm).mono ?_
      rintro _ w4 ⟨h, b, rfl, A, c3, L, es, clk, m, h1, h2, h3, h4, hM⟩
      refine ⟨_, rfl, ?_⟩
      (refine R.stepT ?_; (repeat' (first | (with_reducible refine And.intro ?_ ?_) | (with_reducible intro _))); all_goals refine R.Lft.mk ?_)
      all_goals first
        | exact ⟨rfl, (_, h, b, bq), ⟨rfl, rfl, rfl, rfl, trivial⟩, _, _, R.isQ_empty _ _, _, _, _, _, _, _, h1, h2, h3, h4, vsr_pick R.ohm⟩
        | (refine ⟨R.Own.sub R.ohm R.subl, ?_⟩
           (refine R.stepT ?_; (repeat' (first | (with_reducible refine And.intro ?_ ?_) | (with_reducible intro _))); all_goals refine R.Lft.mk ?_)
           exact ⟨rfl, (_, h, b, bq), ⟨rfl, rfl, rfl, rfl, trivial⟩, _, _, R.isQ_empty _ _, _, _, _, _, _, _, h1, h2, h3, h4, vsr_pick R.ohm⟩)
  case h2 =>
    have hso : I.op src = true := (hop src hsn).2 (by rw [← hsrc]; exact e4)
    rintro ⟨gs, h, b, bq⟩ f w2 hV
    dsimp only at hV ⊢
    obtain ⟨es, clk, h0, A, c3, L, es2, clk2, m, h1, h2, h3, h4, hM⟩ := hV
    (refine R.stepH ?_; (repeat' (first | (with_reducible refine And.intro ?_ ?_) | (with_reducible intro _))); all_goals refine R.Lft.mk ?_)
    refine R.WO_call4 rfl rfl R.vv R.vv R.vv R.vv ?_
    rw [show Value.int .i64 x.frm = Value.int .i64 ((src : Nat) : Int) by rw [hsrc]]
    refine (reach_v (v := src) ⟨es, clk, h0, A, c3, L, es2, clk2, m, h1, h2, h3, h4, R.ohm⟩ (by omega) (by unfold maxLen; omega) (by omega) (by unfold In64; omega) (by omega)).mono ?_
    rintro _ w3 ⟨rfl, nn, N, n1, n2, hV⟩
    refine ⟨_, rfl, ?_⟩
    rw [show rchQ x.past x.most (fun _ => none) (fun _ => none) src 0 0 = (R.putM (fun _ => none) (src : Nat) 0, R.putQ (fun _ => none) (src : Nat) (0, 0)) from if_pos ⟨by rw [← hsrc]; exact e4, by omega, (show (0 : Int) < 4611686018427387904 by decide)⟩] at hV
    have hW := Wv.start (I := I) (most := x.most) (hop := x.hops) hsn hso (by omega)
    obtain ⟨es, clk, h0, A, c3, L, es2, clk2, m, h1, h2, h3, h4, hM⟩ := hV
    (refine R.stepH ?_; (repeat' (first | (with_reducible refine And.intro ?_ ?_) | (with_reducible intro _))); all_goals refine R.Lft.mk ?_)
    refine R.WC_loop (fun i : Nat × Nat × (Int → Option Int) × (Int → Option (Int × Int)) × List Nat × Int × Option Addr × Nat => [(1, .func (.func fid) #[] cap.toArray), (2, .pointer (some ⟨gx, 0, none⟩)), (4, .slice none 0 0), (5, .pointer (some ⟨gs, 0, none⟩)), (6, .slice i.2.2.2.2.2.2.1 i.2.2.2.2.1.length i.2.2.2.2.2.2.2)])
      (fun i w1 => i.1 ≤ 1 + 300 * i.2.2.2.2.1.length ∧ i.2.1 ≤ 1 + 300 * i.2.2.2.2.1.length ∧ Vsr [] w w1 [.row i.2.2.2.2.2.2.1 i.2.2.2.2.1.length i.2.2.2.2.2.2.2 72 2 ((itemsQ i.2.2.2.1 i.2.2.2.2.1).flatMap cItem), .blk gx 67 (cWt x)] x gs h b bq i.1 i.2.1 i.2.2.1 i.2.2.2.1 ∧ Wv I src x.most x.hops (csQ i.2.2.2.1) (hsQ i.2.2.2.1) i.2.2.1 i.2.2.2.2.1 i.2.2.2.2.2.1 I.n 0) (fun i => I.n - i.2.2.2.2.1.length)
      ⟨(nn, N, _, _, [], 0, none, 0), ⟨rfl, rfl, rfl, rfl, rfl, trivial⟩, by dsimp only; omega, by dsimp only; omega, ⟨es, clk, h0, A, c3, L, es2, clk2, m, h1, h2, h3, h4, vsr_pick (R.Own.nil R.ohm _ _)⟩, hW⟩ ?_
    clear hM hW h0 h1 h2 h3 h4 n1 n2
    rintro ⟨nn, N, κ, q, S, k, A6, c6⟩ fr w4 ⟨hnn, hNN, hV, hW⟩
    dsimp only at hnn hNN hV hW ⊢
    have hSl := hW.len
    have hfin : (∀ a, κ a = none) ∨ x.cnt ≤ (S.length : Nat) → ∀ w5, R.Own [] w w5 [.row A6 S.length c6 72 2 ((itemsQ q S).flatMap cItem)] → ∃ A c S' cs, Ending.returned (.slice A6 S.length c6) = .returned (.slice A (List.length S') c) ∧ R.Gives w w5 A (List.length S') c 72 2 ((List.map (fun u => Item.mk (cs u) ((u : Nat) : Int)) S').flatMap cItem) ∧
        ((S' = [] ∧ (x.most < 0 ∨ x.hops < 1 ∨ x.cnt < 1 ∨ x.frm = x.past)) ∨ (0 ≤ x.most ∧ x.frm ≠ x.past ∧ S'.length ≤ I.n ∧ S'.Pairwise (fun a b => cs a ≤ cs b) ∧ ∀ C P T, Least I C P T → I.st = [(src, 0)] → Told I x.most x.hops x.cnt cs S' C)) := fun hend w5 hM5 =>
      ⟨A6, c6, S, csQ q, rfl, R.Own.gives hM5, .inr ⟨by omega, e4, hSl, hW.so, fun C P T hL hst => hW.told hI hst hso hL hend⟩⟩
    obtain ⟨es, clk, h0, A, c3, L, es2, clk2, m, h1, h2, h3, h4, hM⟩ := hV
    by_cases hcnt : ((S.length : Nat) : Int) < x.cnt
    · cases nn with
      | zero =>
        (refine R.stepH ?_; (repeat' (first | (with_reducible refine And.intro ?_ ?_) | (with_reducible intro _))); all_goals refine R.Lft.mk ?_)
        refine R.WO_call1 rfl rfl R.vv ?_
        refine (pop_hp0 ⟨A, c3, L, es2, clk2, m, h1, h2, h3, h4, R.ohm⟩).mono ?_
        rintro _ w5 ⟨rfl, hH⟩
        have hκ := hp_none hH
        obtain ⟨A, c3, L, es2, clk2, m, h1, h2, h3, h4, hM⟩ := hH
        refine ⟨_, rfl, ?_⟩
        (refine R.stepH ?_; (repeat' (first | (with_reducible refine And.intro ?_ ?_) | (with_reducible intro _))); all_goals refine R.Lft.mk ?_)
        have hM := R.pk (r := .row A6 _ _ _ _ _) R.ohm
        exact hfin (.inl hκ) _ (R.Own.sub hM (List.Sublist.cons_cons _ (List.nil_sublist _)))
      | succ nn =>
        (refine R.stepH ?_; (repeat' (first | (with_reducible refine And.intro ?_ ?_) | (with_reducible intro _))); all_goals refine R.Lft.mk ?_)
        refine R.WO_call1 rfl rfl R.vv ?_
        refine (pop_hp ⟨A, c3, L, es2, clk2, m, h1, h2, h3, h4, R.ohm⟩ (by omega) (by unfold maxLen; omega)).mono ?_
        rintro _ w5 ⟨⟨k0, xa⟩, hmn, rfl, hH⟩
        obtain ⟨v, hv, hxa, hvS, hvD, hvf⟩ := (hW.ka xa k0).1 hmn.1
        subst hxa
        have hmin : ∀ w, w < I.n → w ∉ S → csQ q v ≤ csQ q w := fun w hw hwS => by
          rcases Classical.em (csQ q w < 4611686018427387904) with e | e
          · have := hmn.2 ⟨csQ q w, ((w : Nat) : Int)⟩ ((hW.ka _ _).2 ⟨w, hw, rfl, hwS, rfl, e⟩)
            unfold ltP at this
            dsimp only at this
            omega
          · omega
        obtain ⟨hW2, hb2⟩ := hW.pop hv hvS (by omega) hmin
        have hSl2 := hW2.len
        rw [List.length_append, List.length_singleton] at hSl2
        obtain ⟨A, c3, L, es2, clk2, m, h1, h2, h3, h4, hM⟩ := hH
        have hit : itemsQ q (S ++ [v]) = itemsQ q S ++ [Item.mk k0 ((v : Nat) : Int)] := by unfold itemsQ; rw [List.map_append, ← hvD]; rfl
        rw [show cItem ⟨k0, ((v : Nat) : Int)⟩ = [.int .i64 k0, .int .i64 ((v : Nat) : Int)] from rfl]
        refine ⟨_, rfl, ?_⟩
        rw [hvD] at hW2 hb2
        obtain ⟨p, hqv, hp1⟩ : ∃ p, q ((v : Nat) : Int) = some p ∧ p.1 = k0 := by
          have hvD2 := hvD
          unfold csQ at hvD2
          cases hq : q ((v : Nat) : Int) with
          | none => rw [hq] at hvD2; dsimp only at hvD2; omega
          | some p => rw [hq] at hvD2; exact ⟨p, rfl, hvD2⟩
        have hh0 : hsQ q v = p.2 := by unfold hsQ; rw [hqv]
        have hv64 : In64 ((v : Nat) : Int) := by unfold In64; omega
        have hlen : (S ++ [v]).length = S.length + 1 := by simp
        have hmem : v ∈ S ++ [v] := List.mem_append.2 (.inr (List.mem_singleton.2 rfl))
        have hsu := hW2.su v hv (by rw [hvD]; exact hvf)
        have hbv := hW2.bd v hv
        rw [hvD, hlen] at hbv
        have hidx := List.idxOf_lt_length_iff.2 hmem
        rw [hh0] at hsu
        have hp2 : 0 ≤ p.2 ∧ p.2 ≤ 41 := ⟨hsu.2.1, by have := hsu.2.2.1; omega⟩
        (refine R.stepH ?_; (repeat' (first | (with_reducible refine And.intro ?_ ?_) | (with_reducible intro _))); all_goals refine R.Lft.mk ?_)
        rename_i g7 _ _ _ _ _ _ _ _ A7 c7 _ _ _ hM
        refine R.WO_lkQ rfl rfl rfl hv64 R.ohm R.memb h0 ?_
        rw [hqv]
        simp only [Option.getD_some, R.pairV]
        refine ⟨trivial, ?_⟩
        by_cases hhop : p.2 = x.hops
        · (refine R.stepH ?_; (repeat' (first | (with_reducible refine And.intro ?_ ?_) | (with_reducible intro _))); all_goals refine R.Lft.mk ?_)
          refine ⟨(nn, N, _, q, S ++ [v], k0, A7, c7), ⟨rfl, rfl, rfl, rfl, R.viaS rfl (by dsimp only; rw [hlen]), trivial⟩, ⟨by dsimp only; rw [hlen]; omega, by dsimp only; rw [hlen]; omega, ?_, hW2.close (.inr (by rw [hh0]; exact hhop))⟩, by dsimp only; rw [hlen]; omega⟩
          dsimp only
          rw [hlen, hit]
          exact Vsr.sub ⟨es, clk, h0, A, c3, L, es2, clk2, m, h1, h2, h3, h4, vsr_pick R.ohm⟩ (.cons _ (List.Sublist.refl _))
        · (refine R.stepH ?_; (repeat' (first | (with_reducible refine And.intro ?_ ?_) | (with_reducible intro _))); all_goals refine R.Lft.mk ?_)
          refine R.WO_callc1 rfl rfl R.vv ?_
          refine (hf v _ hv (R.Own.below R.ohm)).mono ?_
          rintro _ w7 ⟨A8, c8, rfl, hG8⟩
          have hM := R.Own.give R.ohm hG8
          refine ⟨_, rfl, ?_⟩
          obtain ⟨deg, hdeg⟩ : ∃ deg, I.S (v + 1) - I.S v = deg := ⟨_, rfl⟩
          have hdg := hd v hv
          rw [hdeg] at hM hdg
          rw [hdeg]
          have hol := outI_len I v
          rw [hdeg] at hol
          obtain ⟨ITS, hITS⟩ : ∃ ITS, itemsQ q S ++ [Item.mk k0 ((v : Nat) : Int)] = ITS := ⟨_, rfl⟩
          rw [hITS] at hM hit
          have x3' := x3
          unfold In64 at x3'
          (refine R.stepH ?_; (repeat' (first | (with_reducible refine And.intro ?_ ?_) | (with_reducible intro _))); all_goals refine R.Lft.mk ?_)
          refine R.WC_loop (fun i : Nat × Nat × Nat × (Int → Option Int) × (Int → Option (Int × Int)) => [(1, .func (.func fid) #[] cap.toArray), (2, .pointer (some ⟨gx, 0, none⟩)), (4, .slice none 0 0), (5, .pointer (some ⟨gs, 0, none⟩)), (6, .slice A7 (S.length + 1) c7), (7, .pointer (some ⟨g7, 0, none⟩)), (9, .int .i64 p.2), (80, .slice A8 deg c8), (81, .int .i64 (deg : Nat)), (82, .int .i64 (i.1 : Nat))])
            (fun i w1 => i.1 ≤ deg ∧ i.2.1 ≤ 1 + 300 * S.length + i.1 ∧ i.2.2.1 ≤ 1 + 300 * S.length + i.1 ∧ Vsr [] w w1 [.row A8 deg c8 72 2 ((outI I v).flatMap cItem), .blk g7 72 [.int .i64 k0, .int .i64 ((v : Nat) : Int)], .row A7 (S.length + 1) c7 72 2 (ITS.flatMap cItem), .blk gx 67 (cWt x)] x gs h b bq i.2.1 i.2.2.1 i.2.2.2.1 i.2.2.2.2 ∧ Wv I src x.most x.hops (csQ i.2.2.2.2) (hsQ i.2.2.2.2) i.2.2.2.1 (S ++ [v]) k0 v (I.S v + i.1) ∧ csQ i.2.2.2.2 v = k0 ∧ hsQ i.2.2.2.2 v = p.2 ∧ itemsQ i.2.2.2.2 (S ++ [v]) = ITS) (fun i => deg - i.1)
            ⟨(0, nn, N, _, q), ⟨rfl, rfl, rfl, rfl, rfl, rfl, rfl, rfl, rfl, rfl, trivial⟩, Nat.zero_le _, by dsimp only; omega, by dsimp only; omega, ⟨es, clk, h0, A, c3, L, es2, clk2, m, h1, h2, h3, h4, vsr_pick R.ohm⟩, hW2, hvD, hh0, hit⟩ ?_
          clear hM hW2 h0 h1 h2 h3 h4 hG8 hW hmn hmin hqv hp1 hsu hfin
          rintro ⟨j, nn, N, κ, q⟩ fr w8 ⟨hj, hnn, hNN, hV, hW, hcv, hhv, hits⟩
          dsimp only at hj hnn hNN hV hW hcv hhv hits ⊢
          obtain ⟨es, clk, h0, A, c3, L, es2, clk2, m, h1, h2, h3, h4, hM⟩ := hV
          by_cases hlt : j < deg
          · have hon := outI_nth I v (j := j) (by rw [hdeg]; exact hlt)
            have hol2 : j < (outI I v).length := by rw [hol]; exact hlt
            obtain ⟨a1, a2, a3⟩ := hI.hd v (I.S v + j) hv (by omega) (by omega)
            have hrel := hW.relax hI hop hmem hcv hb2 (by omega) (by omega)
            obtain ⟨u, hu⟩ : ∃ u, I.H (I.S v + j) = u := ⟨_, rfl⟩
            obtain ⟨wt, hwt⟩ : ∃ wt, I.W (I.S v + j) = wt := ⟨_, rfl⟩
            rw [hu] at a1 hon hrel
            rw [hwt] at a2 a3 hon hrel
            rw [hhv, show I.S v + j + 1 = I.S v + (j + 1) by omega] at hrel
            have hkey : (nth (outI I v) j).key = wt := by rw [hon]
            have hat : (nth (outI I v) j).at_ = ((u : Nat) : Int) := by rw [hon]
            by_cases hle : wt ≤ x.most - k0
            · have hle' : (nth (outI I v) j).key ≤ x.most - k0 := by rw [hkey]; exact hle
              (refine R.stepH ?_; (repeat' (first | (with_reducible refine And.intro ?_ ?_) | (with_reducible intro _))); all_goals refine R.Lft.mk ?_)
              refine R.WO_call4 rfl rfl R.vv R.vv R.vv R.vv ?_
              rw [hat]
              refine (reach_v (v := u) (c := k0 + (nth (outI I v) j).key) (e := p.2 + 1) ⟨es, clk, h0, A, c3, L, es2, clk2, m, h1, h2, h3, h4, vsr_pick R.ohm⟩ (by omega) (by unfold maxLen; omega) (by omega) (by rw [hkey]; unfold In64; omega) (by rw [hkey]; omega)).mono ?_
              rintro _ w9 ⟨rfl, nn', N', e5, e6, hV⟩
              rw [hkey] at hV
              refine ⟨_, rfl, ?_⟩
              obtain ⟨r, hr⟩ : ∃ r, rchQ x.past x.most κ q u (k0 + wt) (p.2 + 1) = r := ⟨_, rfl⟩
              rw [hr] at hV hrel
              (refine R.stepH ?_; (repeat' (first | (with_reducible refine And.intro ?_ ?_) | (with_reducible intro _))); all_goals refine R.Lft.mk ?_)
              refine ⟨(j + 1, nn', N', r.1, r.2), ⟨rfl, rfl, rfl, rfl, rfl, rfl, rfl, rfl, rfl, R.viaI rfl (by dsimp only; omega), trivial⟩, ⟨by dsimp only; omega, by dsimp only; omega, by dsimp only; omega, hV.sub (.cons _ (List.Sublist.refl _)), hrel.1, ?_, ?_, ?_⟩, by dsimp only; omega⟩
              · dsimp only; rw [(hrel.2 v hmem).1]; exact hcv
              · dsimp only; rw [(hrel.2 v hmem).2]; exact hhv
              · dsimp only; rw [itemsQ_eq fun z hz => (hrel.2 z hz).1]; exact hits
            · have hle' : ¬ (nth (outI I v) j).key ≤ x.most - k0 := by rw [hkey]; exact hle
              rw [show rchQ x.past x.most κ q u (k0 + wt) (p.2 + 1) = (κ, q) from if_neg fun h => by omega] at hrel
              (refine R.stepH ?_; (repeat' (first | (with_reducible refine And.intro ?_ ?_) | (with_reducible intro _))); all_goals refine R.Lft.mk ?_)
              exact ⟨(j + 1, nn, N, κ, q), ⟨rfl, rfl, rfl, rfl, rfl, rfl, rfl, rfl, rfl, R.viaI rfl (by dsimp only; omega), trivial⟩, ⟨by dsimp only; omega, by dsimp only; omega, by dsimp only; omega, Vsr.sub ⟨es, clk, h0, A, c3, L, es2, clk2, m, h1, h2, h3, h4, vsr_pick R.ohm⟩ (.cons _ (List.Sublist.refl _)), hrel.1, hcv, hhv, hits⟩, by dsimp only; omega⟩
          · (refine R.stepH ?_; (repeat' (first | (with_reducible refine And.intro ?_ ?_) | (with_reducible intro _))); all_goals refine R.Lft.mk ?_)
            refine ⟨(nn, N, κ, q, S ++ [v], k0, A7, c7), ⟨rfl, rfl, rfl, rfl, R.viaS rfl (by dsimp only; rw [hlen]), trivial⟩, ⟨by dsimp only; rw [hlen]; omega, by dsimp only; rw [hlen]; omega, ?_, hW.close (.inl (by omega))⟩, by dsimp only; rw [hlen]; omega⟩
            dsimp only
            rw [hlen, hits]
            exact Vsr.sub ⟨es, clk, h0, A, c3, L, es2, clk2, m, h1, h2, h3, h4, vsr_pick hM⟩ (.cons _ (.cons _ (List.Sublist.refl _)))
    · (refine R.stepH ?_; (repeat' (first | (with_reducible refine And.intro ?_ ?_) | (with_reducible intro _))); all_goals refine R.Lft.mk ?_)
      have hM := R.pk (r := .row A6 _ _ _ _ _) R.ohm
      exact hfin (.inr (by omega)) _ (R.Own.sub hM (List.Sublist.cons_cons _ (List.nil_sublist _)))
end
end Go.Proofs.Ytegbidklcaccjaa
