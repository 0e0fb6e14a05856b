/- Package arcs: a vertex with its arcs added; a graph the other way round. -/
import Derived.Test.YtegbidklcaccjaaNr
import Derived.Test.YtegbidklcaccjaaKk
import Derived.Test.YtegbidklcaccjaaKr
namespace Go.Proofs.Ytegbidklcaccjaa
open Go.RowKit
open R (In64 InU64 lo64 nth)
/-- A graph that is being laid: its rows, and itself. -/
def gRes (gb : Nat) (sA hA wA : Option Addr) (S H Wt : List Int) (sc hc wc : Nat) : List R.Res := [.row hA H.length hc 3 1 (H.flatMap R.cI), .row wA Wt.length wc 3 1 (Wt.flatMap R.cI), .row sA S.length sc 3 1 (S.flatMap R.cI), .blk gb 24 [.slice sA S.length sc, .slice hA H.length hc, .slice wA Wt.length wc]]
theorem map_takeI {L : List Item} {k : Nat} (h : k < L.length) (f : Item → Int) : (L.take (k + 1)).map f = (L.take k).map f ++ [f (nth L k)] := by
  rw [List.take_succ_eq_append_getElem h, List.map_append, R.nth_eq h]
  rfl
set_option maxHeartbeats 2000000 in
theorem aadd_any (gb : Nat) (sA hA wA : Option Addr) (S H Wt : List Int) (sc hc wc : Nat) (l : R.Sl Item) (w : World) (hR : R.Has w (gRes gb sA hA wA S H Wt sc hc wc)) (hl : R.Inp (R.keysOf (gRes gb sA hA wA S H Wt sc hc wc)) w l.A l.n 2 (l.L.flatMap cItem)) (hn : l.n = l.L.length) (h1 : S.length ≤ 10000) (h2 : H.length ≤ 200000) (h3 : Wt.length ≤ 200000) (h4 : l.n ≤ 200000) :
    Calls Try.prog 51 #[.pointer (some ⟨gb, 0, none⟩), .slice l.A l.n l.c] w fun e w' => e = .returned (.tuple #[]) ∧ ∃ sA' hA' wA' sc' hc' wc', R.Own (R.keysOf (gRes gb sA hA wA S H Wt sc hc wc)) w w' (gRes gb sA' hA' wA' (S ++ [((H.length + l.L.length : Nat) : Int)]) (H ++ l.L.map Item.at_) (Wt ++ l.L.map Item.key) sc' hc' wc') := by
  have hM := R.Own.startF hR
  obtain ⟨F, hF⟩ : ∃ F, R.keysOf (gRes gb sA hA wA S H Wt sc hc wc) = F := ⟨_, rfl⟩
  rw [hF] at hM hl ⊢
  clear hF hR
  unfold gRes at hM ⊢
  refine R.calls_of_WC (fn := Try.f51) Try.func51 rfl Try.ntmps51 (Nat.le_of_ble_eq_true rfl) ?_
  (refine R.stepH ?_; (repeat' (first | (with_reducible refine And.intro ?_ ?_) | (with_reducible intro _))); all_goals refine R.Lft.mk ?_)
  refine R.WC_loop (fun i : Nat × Option Addr × Nat × List Int × Option Addr × Nat × List Int => [(0, .pointer (some ⟨gb, 0, none⟩)), (6, .slice l.A l.n l.c), (7, .int .i64 (l.n : Nat)), (8, .int .i64 (i.1 : Nat))])
    (fun i w2 => i.1 ≤ l.n ∧ i.2.2.2.1 = H ++ (l.L.take i.1).map Item.at_ ∧ i.2.2.2.2.2.2 = Wt ++ (l.L.take i.1).map Item.key ∧ R.Own F w w2 [.row i.2.1 i.2.2.2.1.length i.2.2.1 3 1 (i.2.2.2.1.flatMap R.cI), .row i.2.2.2.2.1 i.2.2.2.2.2.2.length i.2.2.2.2.2.1 3 1 (i.2.2.2.2.2.2.flatMap R.cI), .row sA S.length sc 3 1 (S.flatMap R.cI), .blk gb 24 [.slice sA S.length sc, .slice i.2.1 i.2.2.2.1.length i.2.2.1, .slice i.2.2.2.2.1 i.2.2.2.2.2.2.length i.2.2.2.2.2.1]]) (fun i => l.n - i.1)
    ⟨(0, hA, hc, H, wA, wc, Wt), ⟨rfl, rfl, rfl, rfl, trivial⟩, Nat.zero_le _, by simp, by simp, hM⟩ ?_
  clear hM
  rintro ⟨k, hA, hc, H2, wA, wc, W2⟩ f w2 ⟨hk, e1, e2, hM⟩
  dsimp only at hk e1 e2 hM ⊢
  have hl2 : H2.length = H.length + k := by rw [e1]; simp; omega
  have hl3 : W2.length = Wt.length + k := by rw [e2]; simp; omega
  by_cases hlt : k < l.n
  · (refine R.stepH ?_; (repeat' (first | (with_reducible refine And.intro ?_ ?_) | (with_reducible intro _))); all_goals refine R.Lft.mk ?_)
    rename_i gx _ _ _ hM
    have hM := R.pk (r := .row hA _ _ _ _ _) hM
    refine R.WC_planXD1 [(0, false), (1, false), (2, false), (3, false), (4, false), (5, false), (6, false), (7, true), (8, true), (9, false), (10, false), (11, true)] R.mixed (by decide +kernel) R.ohm ?_
    (refine R.stepH ?_; (repeat' (first | (with_reducible refine And.intro ?_ ?_) | (with_reducible intro _))); all_goals refine R.Lft.mk ?_)
    rename_i hA3 hc3 _ _ _ hM
    have hM := R.pk (r := .row wA _ _ _ _ _) hM
    refine R.WC_planXD1 [(0, false), (1, false), (2, false), (3, false), (4, false), (5, false), (6, false), (7, true), (8, true), (9, false), (10, false), (11, true)] R.mixed (by decide +kernel) R.ohm ?_
    (refine R.stepH ?_; (repeat' (first | (with_reducible refine And.intro ?_ ?_) | (with_reducible intro _))); all_goals refine R.Lft.mk ?_)
    rename_i wA3 wc3 _ _ _ hM
    rw [show H2.length + 1 = (H2 ++ [(nth l.L k).at_]).length by simp, show W2.length + 1 = (W2 ++ [(nth l.L k).key]).length by simp] at hM
    refine ⟨(k + 1, hA3, hc3, H2 ++ [(nth l.L k).at_], wA3, wc3, W2 ++ [(nth l.L k).key]), ⟨rfl, rfl, rfl, R.viaI rfl (by dsimp only; omega), trivial⟩, ⟨by dsimp only; omega, ?_, ?_, R.Own.swap (R.dr (.blk gx _ _) hM)⟩, by dsimp only; omega⟩
    · dsimp only
      rw [e1, map_takeI (by omega), List.append_assoc]
    · dsimp only
      rw [e2, map_takeI (by omega), List.append_assoc]
  · obtain rfl : k = l.n := by omega
    rw [hn, List.take_length] at e1 e2
    (refine R.stepH ?_; (repeat' (first | (with_reducible refine And.intro ?_ ?_) | (with_reducible intro _))); all_goals refine R.Lft.mk ?_)
    have hM := R.pk (r := .row sA _ _ _ _ _) hM
    refine R.WC_planXD1 [(0, false), (1, false), (2, false), (3, false), (4, false), (5, false), (6, false), (7, false), (8, false), (9, false), (10, true), (11, true), (12, false), (13, false), (14, true)] R.mixed (by decide +kernel) R.ohm ?_
    (refine R.stepH ?_; (repeat' (first | (with_reducible refine And.intro ?_ ?_) | (with_reducible intro _))); all_goals refine R.Lft.mk ?_)
    rename_i sA3 sc3 _ _ _ hM
    rw [show S.length + 1 = (S ++ [((H2.length : Nat) : Int)]).length by simp] at hM
    have hM := R.pk (r := .row hA _ _ _ _ _) (R.pk (r := .row wA _ _ _ _ _) hM)
    have e3 : H2.length = H.length + l.L.length := by rw [e1]; simp
    rw [← e1, ← e2, ← e3]
    exact ⟨rfl, sA3, hA, wA, sc3, hc, wc, hM⟩
def bRows (b : Gph) : List R.Res := [.row b.hd.A b.hd.n b.hd.c 3 1 (b.hd.L.flatMap R.cI), .row b.wt.A b.wt.n b.wt.c 3 1 (b.wt.L.flatMap R.cI), .row b.st.A b.st.n b.st.c 3 1 (b.st.L.flatMap R.cI)]
set_option maxHeartbeats 4000000 in
theorem aback_any (g : Gph) (w : World) (hG : GGph w g) (hm : MayG g) : Calls Try.prog 18 #[.agg (cGph g).toArray] w fun e w' => ∃ b M, IsG (g.st.n - 1) M b ∧ BkI g (g.st.n - 1) g.hd.n M ∧ e = .returned (.tuple #[.agg (cGph b).toArray, .int .i64 0]) ∧ R.Own [] w w' (bRows b) := by
  have hM := R.Own.start [] w
  have hI := acG_ok hm
  have n1 := hm.n1
  have n2 := hm.n2
  have n3 := hm.n3
  obtain ⟨n, hn⟩ : ∃ n, g.st.n - 1 = n := ⟨_, rfl⟩
  have hgn : (g.st.n : Int) - 1 = (n : Nat) := by omega
  have hIn : (acG g).n = n := hn
  rw [hn]
  have ek : ((g.st.n : Int) - 1).toNat = n := by omega
  refine R.calls_of_WC (fn := Try.f18) Try.func18 rfl Try.ntmps18 (Nat.le_of_ble_eq_true rfl) ?_
  (refine R.stepH ?_; (repeat' (first | (with_reducible refine And.intro ?_ ?_) | (with_reducible intro _))); all_goals refine R.Lft.mk ?_)
  refine R.WO_call1 rfl rfl R.vv ?_
  refine (amay_any g _ (GGph.now R.ohm hG)).mono ?_
  rintro _ w3 ⟨rfl, hb3⟩
  have hM := R.Own.call R.ohm hb3
  refine ⟨_, rfl, ?_⟩
  rw [mayG_t hm]
  (refine R.stepH ?_; (repeat' (first | (with_reducible refine And.intro ?_ ?_) | (with_reducible intro _))); all_goals refine R.Lft.mk ?_)
  refine R.WO_makeO (T := R.Sl Item) (enc := R.cSl) (z0 := default) rfl (by rfl) rfl rfl (by omega) (by omega) (by omega) R.ohm (fun A w4 hM => ?_)
  rw [ek] at hM ⊢
  rename_i gb _ _ gr _ _ _
  (refine R.stepH ?_; (repeat' (first | (with_reducible refine And.intro ?_ ?_) | (with_reducible intro _))); all_goals refine R.Lft.mk ?_)
  have hs0 : (acG g).S 0 = 0 := hI.s0
  refine R.WC_loop (fun i : Nat × List (R.Sl Item) => [(1, .pointer (some ⟨gb, 0, none⟩)), (2, .pointer (some ⟨gr, 0, none⟩)), (3, .int .i64 0), (4, .slice A n n), (21, .int .i64 (n : Nat)), (22, .int .i64 (i.1 : Nat))])
    (fun i w2 => i.1 ≤ n ∧ i.2.length = n ∧ (∀ x ∈ i.2, x.n = x.L.length) ∧ BkI g n ((acG g).S i.1) (i.2.map R.Sl.L) ∧ R.Own [] w w2 (.row A n n 56 1 (i.2.flatMap R.cSl) :: .blk gr 24 [.slice none 0 0, .slice none 0 0, .slice none 0 0] :: .blk gb 24 (cGph g) :: nst 72 2 cItem i.2)) (fun i => n - i.1)
    ⟨(0, List.replicate n default), ⟨rfl, rfl, rfl, rfl, rfl, rfl, trivial⟩, Nat.zero_le _, by simp, fun x hx => by rw [List.eq_of_mem_replicate hx]; rfl, by dsimp only; rw [hs0, List.map_replicate]; exact BkI.nil g n, (own_nils hM 72 2 cItem n).perm (List.perm_append_comm (l₁ := [_, _, _]))⟩ ?_
  clear hM
  rintro ⟨v, Ms⟩ f w5 ⟨hv, hMl, hMn, hBk, hM⟩
  dsimp only at hv hMl hMn hBk hM ⊢
  by_cases hlt : v < n
  · have hlo := hm.lo (v := v) (by omega)
    have hup := hm.up v (by omega)
    have hhi := hm.hi (v := v + 1) (by omega)
    have hS : (acG g).S v = (nth g.st.L v).toNat := rfl
    have hS1 : (acG g).S (v + 1) = (nth g.st.L (v + 1)).toNat := rfl
    have hdg : degG g v = (nth g.st.L (v + 1)).toNat - (nth g.st.L v).toNat := rfl
    obtain ⟨dg, hd⟩ : ∃ dg, degG g v = dg := ⟨_, rfl⟩
    (refine R.stepH ?_; (repeat' (first | (with_reducible refine And.intro ?_ ?_) | (with_reducible intro _))); all_goals refine R.Lft.mk ?_)
    refine R.WO_call2 rfl rfl R.vv R.vv ?_
    refine (aout_any g v _ (GGph.now R.ohm hG) hm (by omega)).mono ?_
    rintro _ w6 ⟨Al, cl, rfl, hGo⟩
    rw [hd] at hGo ⊢
    have hM := R.Own.give R.ohm hGo
    refine ⟨_, rfl, ?_⟩
    (refine R.stepH ?_; (repeat' (first | (with_reducible refine And.intro ?_ ?_) | (with_reducible intro _))); all_goals refine R.Lft.mk ?_)
    refine R.WC_loop (fun i : Nat × List (R.Sl Item) => [(1, .pointer (some ⟨gb, 0, none⟩)), (2, .pointer (some ⟨gr, 0, none⟩)), (3, .int .i64 0), (4, .slice A n n), (5, .int .i64 (v : Nat)), (21, .int .i64 (n : Nat)), (22, .int .i64 (v : Nat)), (27, .slice Al dg cl), (28, .int .i64 (dg : Nat)), (29, .int .i64 (i.1 : Nat))])
      (fun i w2 => i.1 ≤ dg ∧ i.2.length = n ∧ (∀ x ∈ i.2, x.n = x.L.length) ∧ BkI g n ((acG g).S v + i.1) (i.2.map R.Sl.L) ∧ R.Own [] w w2 (.row Al dg cl 72 2 ((outT g v dg).flatMap cItem) :: .row A n n 56 1 (i.2.flatMap R.cSl) :: .blk gr 24 [.slice none 0 0, .slice none 0 0, .slice none 0 0] :: .blk gb 24 (cGph g) :: nst 72 2 cItem i.2)) (fun i => dg - i.1)
      ⟨(0, Ms), ⟨rfl, rfl, rfl, rfl, rfl, rfl, rfl, rfl, rfl, rfl, trivial⟩, Nat.zero_le _, hMl, hMn, hBk, R.ohm⟩ ?_
    clear hM hMl hMn hBk hGo
    rintro ⟨k, Ms⟩ f w7 ⟨hk, hMl, hMn, hBk, hM⟩
    dsimp only at hk hMl hMn hBk hM ⊢
    by_cases hkl : k < dg
    · obtain ⟨s, hs⟩ : ∃ s, (acG g).S v = s := ⟨_, rfl⟩
      obtain ⟨j, hj⟩ : ∃ j, (acG g).H (s + k) = j := ⟨_, rfl⟩
      have hof : (acG g).of v (s + k) := ⟨by omega, by omega⟩
      have hjn : j < n := by
        have := hI.hd (s + k) (hI.lt (by rw [hIn]; exact hlt) hof)
        omega
      have ha := (hm.arc v (s + k) (by omega) (by omega) (by omega))
      have a1 := ha.1
      have hj1 : (nth g.hd.L (s + k)).toNat = j := hj
      have hol := outT_len g v dg
      have hxe : nth (outT g v dg) k = ⟨nth g.wt.L (s + k), ((j : Nat) : Int)⟩ := by
        rw [outT_nth g v hkl, ← hS, hs]
        congr 1
        omega
      obtain ⟨gA, curA, rfl, _⟩ := row_form (R.Own.ok hM _ (.tail _ (.head _))) (by omega)
      (refine R.stepH ?_; (repeat' (first | (with_reducible refine And.intro ?_ ?_) | (with_reducible intro _))); all_goals refine R.Lft.mk ?_)
      rename_i gx _ _ _ hM
      rw [hxe] at hM
      have hM := R.pk (r := .row (some ⟨gA, 0, none⟩) _ _ _ _ _) hM
      have hM := nst_focus (pre := [_, _, _, _, _]) hM (j := j) (by omega)
      have hjM : j < Ms.length := by omega
      have hxn := hMn _ (R.nth_mem hjM)
      have hxl : (nth Ms j).L.length ≤ 200000 := by
        have q := len_off (M := Ms.map R.Sl.L) (j := j) (k := n) hjn (by rw [List.length_map]; omega)
        rw [hBk.cnt, nth_mapF hjM] at q
        omega
      have hM : R.Own [] w _ (.row (nth Ms j).A (nth Ms j).n (nth Ms j).c 72 2 ((nth Ms j).L.flatMap cItem) :: .row (some ⟨gA, 0, none⟩) n n 56 1 (Ms.flatMap R.cSl) :: .blk gx 72 [.int .i64 (nth g.wt.L (s + k)), .int .i64 ((j : Nat) : Int)] :: .row Al dg cl 72 2 ((outT g v dg).flatMap cItem) :: .blk gr 24 [.slice none 0 0, .slice none 0 0, .slice none 0 0] :: .blk gb 24 (cGph g) :: (nst 72 2 cItem (Ms.take j) ++ nst 72 2 cItem (Ms.drop (j + 1)))) := hM
      refine R.WC_planXD1 [(0, false), (1, false), (2, false), (3, false), (4, false), (5, false), (6, false), (7, false), (8, false), (9, false), (10, false), (11, false), (12, true), (13, true), (14, false), (15, true)] R.mixed (by decide +kernel) R.ohm ?_
      (refine R.stepH ?_; (repeat' (first | (with_reducible refine And.intro ?_ ?_) | (with_reducible intro _))); all_goals refine R.Lft.mk ?_)
      rename_i A2 c2 _ hM
      refine R.WO_stP (T := R.Sl Item) (enc := R.cSl) (L := Ms) (z := ⟨A2, (nth Ms j).n + 1, c2, (nth Ms j).L ++ [⟨nth g.wt.L (s + k), ((v : Nat) : Int)⟩]⟩) rfl rfl rfl rfl R.ohm R.upds (by omega) (by decide) rfl (fun w8 hM => ?_)
      (refine R.stepH ?_; (repeat' (first | (with_reducible refine And.intro ?_ ?_) | (with_reducible intro _))); all_goals refine R.Lft.mk ?_)
      have hbk : BkI g n (s + k) (Ms.map R.Sl.L) := by rw [← hs]; exact hBk
      have hb2 := hbk.add hm hn hlt hof hj hjn
      rw [nth_mapF hjM] at hb2
      have hM : R.Own [] w w8 (nst1 72 2 cItem ⟨A2, (nth Ms j).n + 1, c2, (nth Ms j).L ++ [⟨nth g.wt.L (s + k), ((v : Nat) : Int)⟩]⟩ :: ([.row (some ⟨gA, 0, none⟩) n n 56 1 ((Ms.set j ⟨A2, (nth Ms j).n + 1, c2, (nth Ms j).L ++ [⟨nth g.wt.L (s + k), ((v : Nat) : Int)⟩]⟩).flatMap R.cSl), .blk gx 72 [.int .i64 (nth g.wt.L (s + k)), .int .i64 ((j : Nat) : Int)], .row Al dg cl 72 2 ((outT g v dg).flatMap cItem), .blk gr 24 [.slice none 0 0, .slice none 0 0, .slice none 0 0], .blk gb 24 (cGph g)] ++ (nst 72 2 cItem (Ms.take j) ++ nst 72 2 cItem (Ms.drop (j + 1))))) := R.ohm
      have hM := nst_back hM hjM
      refine ⟨(k + 1, Ms.set j ⟨A2, (nth Ms j).n + 1, c2, (nth Ms j).L ++ [⟨nth g.wt.L (s + k), ((v : Nat) : Int)⟩]⟩), ⟨rfl, rfl, rfl, rfl, rfl, rfl, rfl, rfl, rfl, R.viaI rfl (by dsimp only; omega), trivial⟩, ⟨by dsimp only; omega, by dsimp only; rw [List.length_set]; exact hMl, fun x hx => ?_, ?_, R.pk (r := .row Al _ _ _ _ _) (R.dr (.blk gx _ _) hM)⟩, by dsimp only; omega⟩
      · rcases List.mem_or_eq_of_mem_set hx with c | c
        · exact hMn x c
        · rw [c]
          dsimp only
          rw [List.length_append, List.length_singleton, hxn]
      · dsimp only
        rw [List.map_set, ← Nat.add_assoc, hs]
        exact hb2
    · obtain rfl : k = dg := by omega
      (refine R.stepH ?_; (repeat' (first | (with_reducible refine And.intro ?_ ?_) | (with_reducible intro _))); all_goals refine R.Lft.mk ?_)
      refine ⟨(v + 1, Ms), ⟨rfl, rfl, rfl, rfl, rfl, R.viaI rfl (by dsimp only; omega), trivial⟩, ⟨by dsimp only; omega, hMl, hMn, by dsimp only; rw [show (acG g).S (v + 1) = (acG g).S v + k by omega]; exact hBk, R.Own.tl hM⟩, by dsimp only; omega⟩
  · obtain rfl : v = n := by omega
    rw [show (acG g).S v = g.hd.n by rw [← hIn]; exact hI.s1] at hBk
    obtain ⟨M, hMM⟩ : ∃ M, Ms.map R.Sl.L = M := ⟨_, rfl⟩
    have hML : M.length = v := by rw [← hMM, List.length_map]; exact hMl
    rw [hMM] at hBk
    (refine R.stepH ?_; (repeat' (first | (with_reducible refine And.intro ?_ ?_) | (with_reducible intro _))); all_goals refine R.Lft.mk ?_)
    rename_i sA sc _ _ bb _ _ _ hM
    have hM := R.Own.nil (R.Own.nil (R.pk (r := .row sA _ _ _ _ _) hM) 3 1) 3 1
    refine R.WC_loop (fun i : Nat × Option Addr × Option Addr × Option Addr × Nat × Nat × Nat => [(2, .pointer (some ⟨gr, 0, none⟩)), (3, .int .i64 0), (8, .pointer (some ⟨bb, 0, none⟩)), (52, .slice A v v), (53, .int .i64 (v : Nat)), (54, .int .i64 (i.1 : Nat))])
      (fun i w2 => i.1 ≤ v ∧ R.Own [] w w2 (gRes bb i.2.1 i.2.2.1 i.2.2.2.1 (stM M i.1) (hdM M i.1) (wtM M i.1) i.2.2.2.2.1 i.2.2.2.2.2.1 i.2.2.2.2.2.2 ++ (.row A v v 56 1 (Ms.flatMap R.cSl) :: .blk gr 24 [.slice none 0 0, .slice none 0 0, .slice none 0 0] :: nst 72 2 cItem Ms))) (fun i => v - i.1)
      ⟨(0, sA, none, none, sc, 0, 0), ⟨rfl, rfl, rfl, rfl, rfl, rfl, trivial⟩, Nat.zero_le _, R.dr (.blk gb _ _) hM⟩ ?_
    clear hM
    rintro ⟨k, sA, hA, wA, sc, hc, wc⟩ f w6 ⟨hk, hM⟩
    dsimp only at hk hM ⊢
    have hsl := stM_len M k
    have hhl := hdM_len (M := M) (k := k) (by omega)
    have hwl := wtM_len (M := M) (k := k) (by omega)
    have hof := off_mono (M := M) (j := k) (k := v) (by omega) (by omega)
    rw [hBk.cnt] at hof
    have hMc : R.Own [] w w6 (.row hA (hdM M k).length hc 3 1 ((hdM M k).flatMap R.cI) :: .row wA (wtM M k).length wc 3 1 ((wtM M k).flatMap R.cI) :: .row sA (stM M k).length sc 3 1 ((stM M k).flatMap R.cI) :: .blk bb 24 [.slice sA (stM M k).length sc, .slice hA (hdM M k).length hc, .slice wA (wtM M k).length wc] :: .row A v v 56 1 (Ms.flatMap R.cSl) :: .blk gr 24 [.slice none 0 0, .slice none 0 0, .slice none 0 0] :: nst 72 2 cItem Ms) := hM
    by_cases hkl : k < v
    · have hkM : k < Ms.length := by omega
      have hxn := hMn _ (R.nth_mem hkM)
      have hxM : nth M k = (nth Ms k).L := by rw [← hMM]; exact nth_mapF hkM
      have hxl := len_off (M := M) (j := k) (k := v) hkl (by omega)
      rw [hBk.cnt, hxM] at hxl
      clear hM
      (refine R.stepH ?_; (repeat' (first | (with_reducible refine And.intro ?_ ?_) | (with_reducible intro _))); all_goals refine R.Lft.mk ?_)
      refine R.WO_call2 rfl rfl R.vv R.vv ?_
      have hP := (show R.Own [] w _ (gRes bb sA hA wA (stM M k) (hdM M k) (wtM M k) sc hc wc ++ (.row A v v 56 1 (Ms.flatMap R.cSl) :: .blk gr 24 [.slice none 0 0, .slice none 0 0, .slice none 0 0] :: nst 72 2 cItem Ms)) from R.ohm).perm List.perm_append_comm
      refine (aadd_any bb sA hA wA _ _ _ sc hc wc (nth Ms k) _ (R.Own.has hP) (R.Own.inpF hP (.tail _ (.tail _ (nst_mem hkM)))) hxn (by omega) (by omega) (by omega) (by omega)).mono ?_
      rintro _ w8 ⟨rfl, sA2, hA2, wA2, sc2, hc2, wc2, hO⟩
      have hM := R.Own.callF hP hO
      have hs2 := stM_succ M k
      have ho2 := off_succ (M := M) (j := k) (by omega)
      rw [ho2, hxM, ← hhl] at hs2
      rw [← hs2, ← hxM, ← hdM_succ (by omega), ← wtM_succ (by omega)] at hM
      refine ⟨_, rfl, ?_⟩
      (refine R.stepH ?_; (repeat' (first | (with_reducible refine And.intro ?_ ?_) | (with_reducible intro _))); all_goals refine R.Lft.mk ?_)
      exact ⟨(k + 1, sA2, hA2, wA2, sc2, hc2, wc2), ⟨rfl, rfl, rfl, rfl, rfl, R.viaI rfl (by dsimp only; omega), trivial⟩, ⟨by dsimp only; omega, (R.ohm : R.Own [] w _ _).perm List.perm_append_comm⟩, by dsimp only; omega⟩
    · obtain rfl : k = v := by omega
      clear hM
      (refine R.stepH ?_; (repeat' (first | (with_reducible refine And.intro ?_ ?_) | (with_reducible intro _))); all_goals refine R.Lft.mk ?_)
      refine ⟨⟨⟨sA, (stM M k).length, sc, stM M k⟩, ⟨hA, (hdM M k).length, hc, hdM M k⟩, ⟨wA, (wtM M k).length, wc, wtM M k⟩⟩, M, ⟨hsl, hhl, hwl, rfl, rfl, rfl⟩, hBk, rfl, ?_⟩
      exact R.Own.sub R.ohm (List.Sublist.cons_cons _ (List.Sublist.cons_cons _ (List.Sublist.cons_cons _ (List.nil_sublist _))))
end Go.Proofs.Ytegbidklcaccjaa
