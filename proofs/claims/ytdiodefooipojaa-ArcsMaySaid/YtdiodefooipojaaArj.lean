/- arcs.add: a vertex with its arcs. arcs.Back: a graph the other way round. arcs.leaves: the ways that leave each node. arcs.Of without bans, where no turn about may be taken: what it answers; its walk. -/
import Derived.Test.YtdiodefooipojaaArm
import Derived.Test.YtdiodefooipojaaArn
namespace Go.Proofs.Ytdiodefooipojaa
open Go.RowKit
open R (In64 InU64 lo64 nth)
/-- A graph that is being laid: its rows, and itself. -/
def gRes (gb : Nat) (sA hA wA : Option Addr) (S H Wt : List Int) (sc hc wc : Nat) : List R.Res := [.row hA H.length hc 3 1 (H.flatMap R.cI), .row wA Wt.length wc 3 1 (Wt.flatMap R.cI), .row sA S.length sc 3 1 (S.flatMap R.cI), .blk gb 24 [.slice sA S.length sc, .slice hA H.length hc, .slice wA Wt.length wc]]
theorem map_takeI {L : List Item} {k : Nat} (h : k < L.length) (f : Item → Int) : (L.take (k + 1)).map f = (L.take k).map f ++ [f (nth L k)] := by
  rw [List.take_succ_eq_append_getElem h, List.map_append, R.nth_eq h]
  rfl
set_option maxHeartbeats 2000000 in
theorem aadd_any (gb : Nat) (sA hA wA : Option Addr) (S H Wt : List Int) (sc hc wc : Nat) (l : R.Sl Item) (w : World) (hR : R.Has w (gRes gb sA hA wA S H Wt sc hc wc)) (hl : R.Inp (R.keysOf (gRes gb sA hA wA S H Wt sc hc wc)) w l.A l.n 2 (l.L.flatMap cItem)) (hn : l.n = l.L.length) (h1 : S.length ≤ 10000) (h2 : H.length ≤ 200000) (h3 : Wt.length ≤ 200000) (h4 : l.n ≤ 200000) :
    Calls Try.prog 27 #[.pointer (some ⟨gb, 0, none⟩), .slice l.A l.n l.c] w fun e w' => e = .returned (.tuple #[]) ∧ ∃ sA' hA' wA' sc' hc' wc', R.Own (R.keysOf (gRes gb sA hA wA S H Wt sc hc wc)) w w' (gRes gb sA' hA' wA' (S ++ [((H.length + l.L.length : Nat) : Int)]) (H ++ l.L.map Item.at_) (Wt ++ l.L.map Item.key) sc' hc' wc') := by
  have hM := R.Own.startF hR
  obtain ⟨F, hF⟩ : ∃ F, R.keysOf (gRes gb sA hA wA S H Wt sc hc wc) = F := ⟨_, rfl⟩
  rw [hF] at hM hl ⊢
  clear hF hR
  unfold gRes at hM ⊢
  refine R.calls_of_WC (fn := Try.f27) Try.func27 rfl Try.ntmps27 (Nat.le_of_ble_eq_true rfl) ?_
  (refine R.stepN ?_; (repeat' (first | (with_reducible refine And.intro ?_ ?_) | (with_reducible intro _))); all_goals refine R.Lft.mk ?_)
  refine R.WC_loop (fun i : Nat × Option Addr × Nat × List Int × Option Addr × Nat × List Int => [(0, .pointer (some ⟨gb, 0, none⟩)), (6, .slice l.A l.n l.c), (7, .int .i64 (l.n : Nat)), (8, .int .i64 (i.1 : Nat))])
    (fun i w2 => i.1 ≤ l.n ∧ i.2.2.2.1 = H ++ (l.L.take i.1).map Item.at_ ∧ i.2.2.2.2.2.2 = Wt ++ (l.L.take i.1).map Item.key ∧ R.Own F w w2 [.row i.2.1 i.2.2.2.1.length i.2.2.1 3 1 (i.2.2.2.1.flatMap R.cI), .row i.2.2.2.2.1 i.2.2.2.2.2.2.length i.2.2.2.2.2.1 3 1 (i.2.2.2.2.2.2.flatMap R.cI), .row sA S.length sc 3 1 (S.flatMap R.cI), .blk gb 24 [.slice sA S.length sc, .slice i.2.1 i.2.2.2.1.length i.2.2.1, .slice i.2.2.2.2.1 i.2.2.2.2.2.2.length i.2.2.2.2.2.1]]) (fun i => l.n - i.1)
    ⟨(0, hA, hc, H, wA, wc, Wt), ⟨rfl, rfl, rfl, rfl, trivial⟩, Nat.zero_le _, by simp, by simp, hM⟩ ?_
  clear hM
  rintro ⟨k, hA, hc, H2, wA, wc, W2⟩ f w2 ⟨hk, e1, e2, hM⟩
  dsimp only at hk e1 e2 hM ⊢
  have hl2 : H2.length = H.length + k := by rw [e1]; simp; omega
  have hl3 : W2.length = Wt.length + k := by rw [e2]; simp; omega
  by_cases hlt : k < l.n
  · (refine R.stepN ?_; (repeat' (first | (with_reducible refine And.intro ?_ ?_) | (with_reducible intro _))); all_goals refine R.Lft.mk ?_)
    rename_i gx _ _ _ hM
    have hM := R.pk (r := .row hA _ _ _ _ _) hM
    refine R.WC_planXD1 [(0, false), (1, false), (2, false), (3, false), (4, false), (5, false), (6, false), (7, true), (8, true), (9, false), (10, false), (11, true)] R.mixed (by decide +kernel) R.ohm ?_
    (refine R.stepN ?_; (repeat' (first | (with_reducible refine And.intro ?_ ?_) | (with_reducible intro _))); all_goals refine R.Lft.mk ?_)
    rename_i hA3 hc3 _ _ _ hM
    have hM := R.pk (r := .row wA _ _ _ _ _) hM
    refine R.WC_planXD1 [(0, false), (1, false), (2, false), (3, false), (4, false), (5, false), (6, false), (7, true), (8, true), (9, false), (10, false), (11, true)] R.mixed (by decide +kernel) R.ohm ?_
    (refine R.stepN ?_; (repeat' (first | (with_reducible refine And.intro ?_ ?_) | (with_reducible intro _))); all_goals refine R.Lft.mk ?_)
    rename_i wA3 wc3 _ _ _ hM
    rw [show H2.length + 1 = (H2 ++ [(nth l.L k).at_]).length by simp, show W2.length + 1 = (W2 ++ [(nth l.L k).key]).length by simp] at hM
    refine ⟨(k + 1, hA3, hc3, H2 ++ [(nth l.L k).at_], wA3, wc3, W2 ++ [(nth l.L k).key]), ⟨rfl, rfl, rfl, R.viaI rfl (by dsimp only; omega), trivial⟩, ⟨by dsimp only; omega, ?_, ?_, R.Own.swap (R.dr (.blk gx _ _) hM)⟩, by dsimp only; omega⟩
    · dsimp only
      rw [e1, map_takeI (by omega), List.append_assoc]
    · dsimp only
      rw [e2, map_takeI (by omega), List.append_assoc]
  · obtain rfl : k = l.n := by omega
    rw [hn, List.take_length] at e1 e2
    (refine R.stepN ?_; (repeat' (first | (with_reducible refine And.intro ?_ ?_) | (with_reducible intro _))); all_goals refine R.Lft.mk ?_)
    have hM := R.pk (r := .row sA _ _ _ _ _) hM
    refine R.WC_planXD1 [(0, false), (1, false), (2, false), (3, false), (4, false), (5, false), (6, false), (7, false), (8, false), (9, false), (10, true), (11, true), (12, false), (13, false), (14, true)] R.mixed (by decide +kernel) R.ohm ?_
    (refine R.stepN ?_; (repeat' (first | (with_reducible refine And.intro ?_ ?_) | (with_reducible intro _))); all_goals refine R.Lft.mk ?_)
    rename_i sA3 sc3 _ _ _ hM
    rw [show S.length + 1 = (S ++ [((H2.length : Nat) : Int)]).length by simp] at hM
    have hM := R.pk (r := .row hA _ _ _ _ _) (R.pk (r := .row wA _ _ _ _ _) hM)
    have e3 : H2.length = H.length + l.L.length := by rw [e1]; simp
    rw [← e1, ← e2, ← e3]
    exact ⟨rfl, sA3, hA, wA, sc3, hc, wc, hM⟩
end Go.Proofs.Ytdiodefooipojaa
namespace Go.Proofs.Ytdiodefooipojaa
open Go.RowKit
open R (In64 InU64 lo64 nth)
def bRows (b : Gph) : List R.Res := [.row b.hd.A b.hd.n b.hd.c 3 1 (b.hd.L.flatMap R.cI), .row b.wt.A b.wt.n b.wt.c 3 1 (b.wt.L.flatMap R.cI), .row b.st.A b.st.n b.st.c 3 1 (b.st.L.flatMap R.cI)]
set_option maxHeartbeats 4000000 in
theorem aback_any (g : Gph) (w : World) (hG : GGph w g) (hm : MayG g) : Calls Try.prog 16 #[.agg (cGph g).toArray] w fun e w' => ∃ b M, IsG (g.st.n - 1) M b ∧ BkI g (g.st.n - 1) g.hd.n M ∧ e = .returned (.tuple #[.agg (cGph b).toArray, .int .i64 0]) ∧ R.Own [] w w' (bRows b) := by
  have hM := R.Own.start [] w
  have hI := acG_ok hm
  have n1 := hm.n1
  have n2 := hm.n2
  have n3 := hm.n3
  obtain ⟨n, hn⟩ : ∃ n, g.st.n - 1 = n := ⟨_, rfl⟩
  have hgn : (g.st.n : Int) - 1 = (n : Nat) := by omega
  have hIn : (acG g).n = n := hn
  rw [hn]
  have ek : ((g.st.n : Int) - 1).toNat = n := by omega
  refine R.calls_of_WC (fn := Try.f16) Try.func16 rfl Try.ntmps16 (Nat.le_of_ble_eq_true rfl) ?_
  (refine R.stepN ?_; (repeat' (first | (with_reducible refine And.intro ?_ ?_) | (with_reducible intro _))); all_goals refine R.Lft.mk ?_)
  refine R.WO_call1 rfl rfl R.vv ?_
  refine (amay_any g _ (GGph.now R.ohm hG)).mono ?_
  rintro _ w3 ⟨rfl, hb3⟩
  have hM := R.Own.call R.ohm hb3
  refine ⟨_, rfl, ?_⟩
  rw [mayG_t hm]
  (refine R.stepN ?_; (repeat' (first | (with_reducible refine And.intro ?_ ?_) | (with_reducible intro _))); all_goals refine R.Lft.mk ?_)
  refine R.WO_makeO (T := R.Sl Item) (enc := R.cSl) (z0 := default) rfl (by rfl) rfl rfl (by omega) (by omega) (by omega) R.ohm (fun A w4 hM => ?_)
  rw [ek] at hM ⊢
  rename_i gb _ _ gr _ _ _
  (refine R.stepN ?_; (repeat' (first | (with_reducible refine And.intro ?_ ?_) | (with_reducible intro _))); all_goals refine R.Lft.mk ?_)
  have hs0 : (acG g).S 0 = 0 := hI.s0
  refine R.WC_loop (fun i : Nat × List (R.Sl Item) => [(1, .pointer (some ⟨gb, 0, none⟩)), (2, .pointer (some ⟨gr, 0, none⟩)), (3, .int .i64 0), (4, .slice A n n), (21, .int .i64 (n : Nat)), (22, .int .i64 (i.1 : Nat))])
    (fun i w2 => i.1 ≤ n ∧ i.2.length = n ∧ (∀ x ∈ i.2, x.n = x.L.length) ∧ BkI g n ((acG g).S i.1) (i.2.map R.Sl.L) ∧ R.Own [] w w2 (.row A n n 28 1 (i.2.flatMap R.cSl) :: .blk gr 24 [.slice none 0 0, .slice none 0 0, .slice none 0 0] :: .blk gb 24 (cGph g) :: nst 35 2 cItem i.2)) (fun i => n - i.1)
    ⟨(0, List.replicate n default), ⟨rfl, rfl, rfl, rfl, rfl, rfl, trivial⟩, Nat.zero_le _, by simp, fun x hx => by rw [List.eq_of_mem_replicate hx]; rfl, by dsimp only; rw [hs0, List.map_replicate]; exact BkI.nil g n, (own_nils hM 35 2 cItem n).perm (List.perm_append_comm (l₁ := [_, _, _]))⟩ ?_
  clear hM
  rintro ⟨v, Ms⟩ f w5 ⟨hv, hMl, hMn, hBk, hM⟩
  dsimp only at hv hMl hMn hBk hM ⊢
  by_cases hlt : v < n
  · have hlo := hm.lo (v := v) (by omega)
    have hup := hm.up v (by omega)
    have hhi := hm.hi (v := v + 1) (by omega)
    have hS : (acG g).S v = (nth g.st.L v).toNat := rfl
    have hS1 : (acG g).S (v + 1) = (nth g.st.L (v + 1)).toNat := rfl
    have hdg : degG g v = (nth g.st.L (v + 1)).toNat - (nth g.st.L v).toNat := rfl
    obtain ⟨dg, hd⟩ : ∃ dg, degG g v = dg := ⟨_, rfl⟩
    (refine R.stepN ?_; (repeat' (first | (with_reducible refine And.intro ?_ ?_) | (with_reducible intro _))); all_goals refine R.Lft.mk ?_)
    refine R.WO_call2 rfl rfl R.vv R.vv ?_
    refine (aout_any g v _ (GGph.now R.ohm hG) hm (by omega)).mono ?_
    rintro _ w6 ⟨Al, cl, rfl, hGo⟩
    rw [hd] at hGo ⊢
    have hM := R.Own.give R.ohm hGo
    refine ⟨_, rfl, ?_⟩
    (refine R.stepN ?_; (repeat' (first | (with_reducible refine And.intro ?_ ?_) | (with_reducible intro _))); all_goals refine R.Lft.mk ?_)
    refine R.WC_loop (fun i : Nat × List (R.Sl Item) => [(1, .pointer (some ⟨gb, 0, none⟩)), (2, .pointer (some ⟨gr, 0, none⟩)), (3, .int .i64 0), (4, .slice A n n), (5, .int .i64 (v : Nat)), (21, .int .i64 (n : Nat)), (22, .int .i64 (v : Nat)), (27, .slice Al dg cl), (28, .int .i64 (dg : Nat)), (29, .int .i64 (i.1 : Nat))])
      (fun i w2 => i.1 ≤ dg ∧ i.2.length = n ∧ (∀ x ∈ i.2, x.n = x.L.length) ∧ BkI g n ((acG g).S v + i.1) (i.2.map R.Sl.L) ∧ R.Own [] w w2 (.row Al dg cl 35 2 ((outT g v dg).flatMap cItem) :: .row A n n 28 1 (i.2.flatMap R.cSl) :: .blk gr 24 [.slice none 0 0, .slice none 0 0, .slice none 0 0] :: .blk gb 24 (cGph g) :: nst 35 2 cItem i.2)) (fun i => dg - i.1)
      ⟨(0, Ms), ⟨rfl, rfl, rfl, rfl, rfl, rfl, rfl, rfl, rfl, rfl, trivial⟩, Nat.zero_le _, hMl, hMn, hBk, R.ohm⟩ ?_
    clear hM hMl hMn hBk hGo
    rintro ⟨k, Ms⟩ f w7 ⟨hk, hMl, hMn, hBk, hM⟩
    dsimp only at hk hMl hMn hBk hM ⊢
    by_cases hkl : k < dg
    · obtain ⟨s, hs⟩ : ∃ s, (acG g).S v = s := ⟨_, rfl⟩
      obtain ⟨j, hj⟩ : ∃ j, (acG g).H (s + k) = j := ⟨_, rfl⟩
      have hof : (acG g).of v (s + k) := ⟨by omega, by omega⟩
      have hjn : j < n := by
        have := hI.hd (s + k) (hI.lt (by rw [hIn]; exact hlt) hof)
        omega
      have ha := (hm.arc v (s + k) (by omega) (by omega) (by omega))
      have a1 := ha.1
      have hj1 : (nth g.hd.L (s + k)).toNat = j := hj
      have hol := outT_len g v dg
      have hxe : nth (outT g v dg) k = ⟨nth g.wt.L (s + k), ((j : Nat) : Int)⟩ := by
        rw [outT_nth g v hkl, ← hS, hs]
        congr 1
        omega
      obtain ⟨gA, rfl⟩ := row_form (R.Own.ok hM _ (.tail _ (.head _))) (by omega)
      (refine R.stepN ?_; (repeat' (first | (with_reducible refine And.intro ?_ ?_) | (with_reducible intro _))); all_goals refine R.Lft.mk ?_)
      rename_i gx _ _ _ hM
      rw [hxe] at hM
      have hM := R.pk (r := .row (some ⟨gA, 0, none⟩) _ _ _ _ _) hM
      have hM := nst_focus (pre := [_, _, _, _, _]) hM (j := j) (by omega)
      have hjM : j < Ms.length := by omega
      have hxn := hMn _ (R.nth_mem hjM)
      have hxl : (nth Ms j).L.length ≤ 200000 := by
        have q := len_off (M := Ms.map R.Sl.L) (j := j) (k := n) hjn (by rw [List.length_map]; omega)
        rw [hBk.cnt, nth_mapF hjM] at q
        omega
      have hM : R.Own [] w _ (.row (nth Ms j).A (nth Ms j).n (nth Ms j).c 35 2 ((nth Ms j).L.flatMap cItem) :: .row (some ⟨gA, 0, none⟩) n n 28 1 (Ms.flatMap R.cSl) :: .blk gx 35 [.int .i64 (nth g.wt.L (s + k)), .int .i64 ((j : Nat) : Int)] :: .row Al dg cl 35 2 ((outT g v dg).flatMap cItem) :: .blk gr 24 [.slice none 0 0, .slice none 0 0, .slice none 0 0] :: .blk gb 24 (cGph g) :: (nst 35 2 cItem (Ms.take j) ++ nst 35 2 cItem (Ms.drop (j + 1)))) := hM
      refine R.WC_planXD1 [(0, false), (1, false), (2, false), (3, false), (4, false), (5, false), (6, false), (7, false), (8, false), (9, false), (10, false), (11, false), (12, true), (13, true), (14, false), (15, true)] R.mixed (by decide +kernel) R.ohm ?_
      (refine R.stepN ?_; (repeat' (first | (with_reducible refine And.intro ?_ ?_) | (with_reducible intro _))); all_goals refine R.Lft.mk ?_)
      rename_i A2 c2 _ hM
      refine R.WO_stP (T := R.Sl Item) (enc := R.cSl) (L := Ms) (z := ⟨A2, (nth Ms j).n + 1, c2, (nth Ms j).L ++ [⟨nth g.wt.L (s + k), ((v : Nat) : Int)⟩]⟩) rfl rfl rfl rfl R.ohm R.upds (by omega) (by decide) rfl (fun w8 hM => ?_)
      (refine R.stepN ?_; (repeat' (first | (with_reducible refine And.intro ?_ ?_) | (with_reducible intro _))); all_goals refine R.Lft.mk ?_)
      have hbk : BkI g n (s + k) (Ms.map R.Sl.L) := by rw [← hs]; exact hBk
      have hb2 := hbk.add hm hn hlt hof hj hjn
      rw [nth_mapF hjM] at hb2
      have hM : R.Own [] w w8 (nst1 35 2 cItem ⟨A2, (nth Ms j).n + 1, c2, (nth Ms j).L ++ [⟨nth g.wt.L (s + k), ((v : Nat) : Int)⟩]⟩ :: ([.row (some ⟨gA, 0, none⟩) n n 28 1 ((Ms.set j ⟨A2, (nth Ms j).n + 1, c2, (nth Ms j).L ++ [⟨nth g.wt.L (s + k), ((v : Nat) : Int)⟩]⟩).flatMap R.cSl), .blk gx 35 [.int .i64 (nth g.wt.L (s + k)), .int .i64 ((j : Nat) : Int)], .row Al dg cl 35 2 ((outT g v dg).flatMap cItem), .blk gr 24 [.slice none 0 0, .slice none 0 0, .slice none 0 0], .blk gb 24 (cGph g)] ++ (nst 35 2 cItem (Ms.take j) ++ nst 35 2 cItem (Ms.drop (j + 1))))) := R.ohm
      have hM := nst_back hM hjM
      refine ⟨(k + 1, Ms.set j ⟨A2, (nth Ms j).n + 1, c2, (nth Ms j).L ++ [⟨nth g.wt.L (s + k), ((v : Nat) : Int)⟩]⟩), ⟨rfl, rfl, rfl, rfl, rfl, rfl, rfl, rfl, rfl, R.viaI rfl (by dsimp only; omega), trivial⟩, ⟨by dsimp only; omega, by dsimp only; rw [List.length_set]; exact hMl, fun x hx => ?_, ?_, R.pk (r := .row Al _ _ _ _ _) (R.dr (.blk gx _ _) hM)⟩, by dsimp only; omega⟩
      · rcases List.mem_or_eq_of_mem_set hx with c | c
        · exact hMn x c
        · rw [c]
          dsimp only
          rw [List.length_append, List.length_singleton, hxn]
      · dsimp only
        rw [List.map_set, ← Nat.add_assoc, hs]
        exact hb2
    · obtain rfl : k = dg := by omega
      (refine R.stepN ?_; (repeat' (first | (with_reducible refine And.intro ?_ ?_) | (with_reducible intro _))); all_goals refine R.Lft.mk ?_)
      refine ⟨(v + 1, Ms), ⟨rfl, rfl, rfl, rfl, rfl, R.viaI rfl (by dsimp only; omega), trivial⟩, ⟨by dsimp only; omega, hMl, hMn, by dsimp only; rw [show (acG g).S (v + 1) = (acG g).S v + k by omega]; exact hBk, R.Own.tl hM⟩, by dsimp only; omega⟩
  · obtain rfl : v = n := by omega
    rw [show (acG g).S v = g.hd.n by rw [← hIn]; exact hI.s1] at hBk
    obtain ⟨M, hMM⟩ : ∃ M, Ms.map R.Sl.L = M := ⟨_, rfl⟩
    have hML : M.length = v := by rw [← hMM, List.length_map]; exact hMl
    rw [hMM] at hBk
    (refine R.stepN ?_; (repeat' (first | (with_reducible refine And.intro ?_ ?_) | (with_reducible intro _))); all_goals refine R.Lft.mk ?_)
    rename_i sA sc _ _ bb _ _ _ hM
    have hM := R.Own.nil (R.Own.nil (R.pk (r := .row sA _ _ _ _ _) hM) 3 1) 3 1
    refine R.WC_loop (fun i : Nat × Option Addr × Option Addr × Option Addr × Nat × Nat × Nat => [(2, .pointer (some ⟨gr, 0, none⟩)), (3, .int .i64 0), (8, .pointer (some ⟨bb, 0, none⟩)), (52, .slice A v v), (53, .int .i64 (v : Nat)), (54, .int .i64 (i.1 : Nat))])
      (fun i w2 => i.1 ≤ v ∧ R.Own [] w w2 (gRes bb i.2.1 i.2.2.1 i.2.2.2.1 (stM M i.1) (hdM M i.1) (wtM M i.1) i.2.2.2.2.1 i.2.2.2.2.2.1 i.2.2.2.2.2.2 ++ (.row A v v 28 1 (Ms.flatMap R.cSl) :: .blk gr 24 [.slice none 0 0, .slice none 0 0, .slice none 0 0] :: nst 35 2 cItem Ms))) (fun i => v - i.1)
      ⟨(0, sA, none, none, sc, 0, 0), ⟨rfl, rfl, rfl, rfl, rfl, rfl, trivial⟩, Nat.zero_le _, R.dr (.blk gb _ _) hM⟩ ?_
    clear hM
    rintro ⟨k, sA, hA, wA, sc, hc, wc⟩ f w6 ⟨hk, hM⟩
    dsimp only at hk hM ⊢
    have hsl := stM_len M k
    have hhl := hdM_len (M := M) (k := k) (by omega)
    have hwl := wtM_len (M := M) (k := k) (by omega)
    have hof := off_mono (M := M) (j := k) (k := v) (by omega) (by omega)
    rw [hBk.cnt] at hof
    have hMc : R.Own [] w w6 (.row hA (hdM M k).length hc 3 1 ((hdM M k).flatMap R.cI) :: .row wA (wtM M k).length wc 3 1 ((wtM M k).flatMap R.cI) :: .row sA (stM M k).length sc 3 1 ((stM M k).flatMap R.cI) :: .blk bb 24 [.slice sA (stM M k).length sc, .slice hA (hdM M k).length hc, .slice wA (wtM M k).length wc] :: .row A v v 28 1 (Ms.flatMap R.cSl) :: .blk gr 24 [.slice none 0 0, .slice none 0 0, .slice none 0 0] :: nst 35 2 cItem Ms) := hM
    by_cases hkl : k < v
    · have hkM : k < Ms.length := by omega
      have hxn := hMn _ (R.nth_mem hkM)
      have hxM : nth M k = (nth Ms k).L := by rw [← hMM]; exact nth_mapF hkM
      have hxl := len_off (M := M) (j := k) (k := v) hkl (by omega)
      rw [hBk.cnt, hxM] at hxl
      clear hM
      (refine R.stepN ?_; (repeat' (first | (with_reducible refine And.intro ?_ ?_) | (with_reducible intro _))); all_goals refine R.Lft.mk ?_)
      refine R.WO_call2 rfl rfl R.vv R.vv ?_
      have hP := (show R.Own [] w _ (gRes bb sA hA wA (stM M k) (hdM M k) (wtM M k) sc hc wc ++ (.row A v v 28 1 (Ms.flatMap R.cSl) :: .blk gr 24 [.slice none 0 0, .slice none 0 0, .slice none 0 0] :: nst 35 2 cItem Ms)) from R.ohm).perm List.perm_append_comm
      refine (aadd_any bb sA hA wA _ _ _ sc hc wc (nth Ms k) _ (R.Own.has hP) (R.Own.inpF hP (.tail _ (.tail _ (nst_mem hkM)))) hxn (by omega) (by omega) (by omega) (by omega)).mono ?_
      rintro _ w8 ⟨rfl, sA2, hA2, wA2, sc2, hc2, wc2, hO⟩
      have hM := R.Own.callF hP hO
      have hs2 := stM_succ M k
      have ho2 := off_succ (M := M) (j := k) (by omega)
      rw [ho2, hxM, ← hhl] at hs2
      rw [← hs2, ← hxM, ← hdM_succ (by omega), ← wtM_succ (by omega)] at hM
      refine ⟨_, rfl, ?_⟩
      (refine R.stepN ?_; (repeat' (first | (with_reducible refine And.intro ?_ ?_) | (with_reducible intro _))); all_goals refine R.Lft.mk ?_)
      exact ⟨(k + 1, sA2, hA2, wA2, sc2, hc2, wc2), ⟨rfl, rfl, rfl, rfl, rfl, R.viaI rfl (by dsimp only; omega), trivial⟩, ⟨by dsimp only; omega, (R.ohm : R.Own [] w _ _).perm List.perm_append_comm⟩, by dsimp only; omega⟩
    · obtain rfl : k = v := by omega
      clear hM
      (refine R.stepN ?_; (repeat' (first | (with_reducible refine And.intro ?_ ?_) | (with_reducible intro _))); all_goals refine R.Lft.mk ?_)
      refine ⟨⟨⟨sA, (stM M k).length, sc, stM M k⟩, ⟨hA, (hdM M k).length, hc, hdM M k⟩, ⟨wA, (wtM M k).length, wc, wtM M k⟩⟩, M, ⟨hsl, hhl, hwl, rfl, rfl, rfl⟩, hBk, rfl, ?_⟩
      exact R.Own.sub R.ohm (List.Sublist.cons_cons _ (List.Sublist.cons_cons _ (List.Sublist.cons_cons _ (List.nil_sublist _))))
end Go.Proofs.Ytdiodefooipojaa
namespace Go.Proofs.Ytdiodefooipojaa
open Go.RowKit
open R (In64 InU64 lo64 nth)

instance enct_Ints : R.EncT Try.prog 22 (R.Sl Int) R.cSl 1 := {}
def leafP (E : List Ed) (k : Nat) (M : List (List Int)) : List (List Int) := if (nth E k).f then M.set (nth E k).a.toNat (nth M (nth E k).a.toNat ++ [2 * ((k : Nat) : Int)]) else M
def leafQ (E : List Ed) (k : Nat) (M : List (List Int)) : List (List Int) := if (nth E k).k then M.set (nth E k).b.toNat (nth M (nth E k).b.toNat ++ [2 * ((k : Nat) : Int) + 1]) else M
/-- The ways that leave each node, of the first k edges. -/
def leafF (E : List Ed) (m : Nat) : Nat → List (List Int)
  | 0 => List.replicate m []
  | k + 1 => leafQ E k (leafP E k (leafF E m k))
/-- Rows of ways, of the first k edges. -/
def WaysT (k m : Nat) (M : List (List Int)) : Prop := M.length = m ∧ ∀ l ∈ M, l.length ≤ 2 * k ∧ ∀ y ∈ l, 0 ≤ y ∧ y < 2 * (k : Nat)
/-- As this, where the edge k is half gone through. -/
def WaysU (k m : Nat) (M : List (List Int)) : Prop := M.length = m ∧ ∀ l ∈ M, l.length ≤ 2 * k + 1 ∧ ∀ y ∈ l, 0 ≤ y ∧ y < 2 * (k : Nat) + 1
theorem WaysT.p {E : List Ed} {k m : Nat} {M : List (List Int)} (h : WaysT k m M) : WaysU k m (leafP E k M) := by
  unfold leafP
  split
  · refine ⟨by rw [List.length_set]; exact h.1, fun l hl => ?_⟩
    rcases List.mem_or_eq_of_mem_set hl with c | c
    · have := h.2 l c
      exact ⟨by omega, fun y hy => by have := this.2 y hy; omega⟩
    · subst c
      have hn : ∀ j, (nth M j).length ≤ 2 * k ∧ ∀ y ∈ nth M j, 0 ≤ y ∧ y < 2 * (k : Nat) := fun j => by
        rcases Nat.lt_or_ge j M.length with q | q
        · exact h.2 _ (R.nth_mem q)
        · have : nth M j = [] := by unfold R.nth; rw [List.getD_eq_getElem?_getD, List.getElem?_eq_none q]; rfl
          rw [this]
          exact ⟨Nat.zero_le _, fun y hy => (by cases hy)⟩
      obtain ⟨h1, h2⟩ := hn (nth E k).a.toNat
      refine ⟨by rw [List.length_append, List.length_singleton]; omega, fun y hy => ?_⟩
      rcases List.mem_append.1 hy with q | q
      · have := h2 y q; omega
      · rw [List.mem_singleton.1 q]; omega
  · exact ⟨h.1, fun l hl => ⟨by have := (h.2 l hl).1; omega, fun y hy => by have := (h.2 l hl).2 y hy; omega⟩⟩
theorem WaysU.q {E : List Ed} {k m : Nat} {M : List (List Int)} (h : WaysU k m M) : WaysT (k + 1) m (leafQ E k M) := by
  unfold leafQ
  split
  · refine ⟨by rw [List.length_set]; exact h.1, fun l hl => ?_⟩
    rcases List.mem_or_eq_of_mem_set hl with c | c
    · have := h.2 l c
      exact ⟨by omega, fun y hy => by have := this.2 y hy; omega⟩
    · subst c
      have hn : ∀ j, (nth M j).length ≤ 2 * k + 1 ∧ ∀ y ∈ nth M j, 0 ≤ y ∧ y < 2 * (k : Nat) + 1 := fun j => by
        rcases Nat.lt_or_ge j M.length with q | q
        · exact h.2 _ (R.nth_mem q)
        · have : nth M j = [] := by unfold R.nth; rw [List.getD_eq_getElem?_getD, List.getElem?_eq_none q]; rfl
          rw [this]
          exact ⟨Nat.zero_le _, fun y hy => (by cases hy)⟩
      obtain ⟨h1, h2⟩ := hn (nth E k).b.toNat
      refine ⟨by rw [List.length_append, List.length_singleton]; omega, fun y hy => ?_⟩
      rcases List.mem_append.1 hy with q | q
      · have := h2 y q; omega
      · rw [List.mem_singleton.1 q]; omega
  · exact ⟨h.1, fun l hl => ⟨by have := (h.2 l hl).1; omega, fun y hy => by have := (h.2 l hl).2 y hy; omega⟩⟩
theorem leafF_ok (E : List Ed) (m : Nat) : ∀ k, WaysT k m (leafF E m k)
  | 0 => ⟨by simp [leafF], fun l hl => by rw [List.eq_of_mem_replicate hl]; exact ⟨Nat.zero_le _, fun y hy => (by cases hy)⟩⟩
  | k + 1 => ((leafF_ok E m k).p (E := E)).q
theorem nst_all {Ms : List (R.Sl Int)} {j : Nat} {z : R.Sl Int} (h : ∀ y ∈ Ms, y.n = y.L.length) (hz : z.n = z.L.length) : ∀ y ∈ Ms.set j z, y.n = y.L.length := fun y hy => by
  rcases List.mem_or_eq_of_mem_set hy with c | c
  · exact h y c
  · rw [c]; exact hz
set_option maxHeartbeats 8000000 in
theorem leaves_any (x : Nt) (w : World) (hG : GNt w x) (hb : netB x = true) : Calls Try.prog 30 #[.agg (cNt x).toArray] w fun e w' => ∃ A Ms, e = .returned (.slice A x.s.n x.s.n) ∧ (∀ y ∈ Ms, y.n = y.L.length) ∧ Ms.map R.Sl.L = leafF x.e.L x.s.n x.e.n ∧ R.Own [] w w' (.row A x.s.n x.s.n 22 1 (Ms.flatMap R.cSl) :: nst 3 1 R.cI Ms) := by
  have hM := R.Own.start [] w
  have hL := hG.lasts
  have hk := netB_e hb
  have hsn : x.s.n ≤ 200000 := (netB_iff.1 hb).1
  obtain ⟨⟨s1, s2, s3, -⟩, ⟨h1, h2, h3, -⟩, -⟩ := hG
  obtain ⟨m, hm⟩ : ∃ m, x.s.n = m := ⟨_, rfl⟩
  have hab : ∀ i, i < x.e.n → 0 ≤ (nth x.e.L i).a ∧ (nth x.e.L i).a < (m : Nat) ∧ 0 ≤ (nth x.e.L i).b ∧ (nth x.e.L i).b < (m : Nat) := fun i hi => by
    obtain ⟨q1, q2, q3, _⟩ := (netB_iff.1 hb).2.2.2.2.1 i hi
    omega
  refine R.calls_of_WC (fn := Try.f30) Try.func30 rfl Try.ntmps30 (Nat.le_of_ble_eq_true rfl) ?_
  (refine R.stepN ?_; (repeat' (first | (with_reducible refine And.intro ?_ ?_) | (with_reducible intro _))); all_goals refine R.Lft.mk ?_)
  rw [hm] at hsn ⊢
  refine R.WO_makeO (T := R.Sl Int) (enc := R.cSl) (z0 := default) rfl (by rfl) rfl rfl (by omega) (by omega) (by omega) R.ohm (fun A w4 hM => ?_)
  rename_i gb _ _
  (refine R.stepN ?_; (repeat' (first | (with_reducible refine And.intro ?_ ?_) | (with_reducible intro _))); all_goals refine R.Lft.mk ?_)
  refine R.WC_loop (fun i : Nat × List (R.Sl Int) => [(2, .slice none 0 0), (3, .slice A m m), (11, .slice x.e.A x.e.n x.e.c), (12, .int .i64 (x.e.n : Nat)), (13, .int .i64 (i.1 : Nat))])
    (fun i w2 => i.1 ≤ x.e.n ∧ i.2.length = m ∧ (∀ y ∈ i.2, y.n = y.L.length) ∧ i.2.map R.Sl.L = leafF x.e.L m i.1 ∧ R.Own [] w w2 (.row A m m 22 1 (i.2.flatMap R.cSl) :: nst 3 1 R.cI i.2)) (fun i => x.e.n - i.1)
    ⟨(0, List.replicate m default), ⟨rfl, rfl, rfl, rfl, rfl, trivial⟩, Nat.zero_le _, by simp, fun y hy => by rw [List.eq_of_mem_replicate hy]; rfl, by dsimp only; rw [List.map_replicate]; rfl, (own_nils (R.dr (.blk gb _ _) hM) 3 1 R.cI m).perm (List.perm_append_comm (l₁ := [_]))⟩ ?_
  clear hM
  rintro ⟨k, Ms⟩ f w5 ⟨hv, hMl, hMn, hMf, hM⟩
  dsimp only at hv hMl hMn hMf hM ⊢
  by_cases hlt : k < x.e.n
  · obtain ⟨a1, a2, b1, b2⟩ := hab k hlt
    obtain ⟨gA, rfl⟩ := row_form (R.Own.ok hM _ (.head _)) (by omega)
    have hw := leafF_ok x.e.L m k
    have hU := hw.p (E := x.e.L)
    have haM : (nth x.e.L k).a.toNat < Ms.length := by omega
    have hxn := hMn _ (R.nth_mem haM)
    have hxl : (nth Ms (nth x.e.L k).a.toNat).L.length ≤ 2 * k := by
      have := (hw.2 (nth (leafF x.e.L m k) (nth x.e.L k).a.toNat) (R.nth_mem (by rw [hw.1]; omega))).1
      rw [← hMf, nth_mapF haM] at this
      exact this
    have hPt : (nth x.e.L k).f = true → leafP x.e.L k (leafF x.e.L m k) = (leafF x.e.L m k).set (nth x.e.L k).a.toNat (nth (leafF x.e.L m k) (nth x.e.L k).a.toNat ++ [2 * ((k : Nat) : Int)]) := fun h => by unfold leafP; rw [h]; rfl
    have hPf : (nth x.e.L k).f = false → leafP x.e.L k (leafF x.e.L m k) = leafF x.e.L m k := fun h => by unfold leafP; rw [h]; rfl
    have hQt : ∀ M, (nth x.e.L k).k = true → leafQ x.e.L k M = M.set (nth x.e.L k).b.toNat (nth M (nth x.e.L k).b.toNat ++ [2 * ((k : Nat) : Int) + 1]) := fun M h => by unfold leafQ; rw [h]; rfl
    have hQf : ∀ M, (nth x.e.L k).k = false → leafQ x.e.L k M = M := fun M h => by unfold leafQ; rw [h]; rfl
    have hF1 : leafF x.e.L m (k + 1) = leafQ x.e.L k (leafP x.e.L k (leafF x.e.L m k)) := rfl
    have hbn : ∀ Ms2 : List (R.Sl Int), (∀ y ∈ Ms2, y.n = y.L.length) → Ms2.map R.Sl.L = leafP x.e.L k (leafF x.e.L m k) → Ms2.length = m ∧ (nth Ms2 (nth x.e.L k).b.toNat).n = (nth Ms2 (nth x.e.L k).b.toNat).L.length ∧ (nth Ms2 (nth x.e.L k).b.toNat).L.length ≤ 2 * k + 1 := fun Ms2 q1 q2 => by
      have q3 : Ms2.length = m := by rw [← hU.1, ← q2, List.length_map]
      refine ⟨q3, q1 _ (R.nth_mem (by omega)), ?_⟩
      have := (hU.2 (nth (leafP x.e.L k (leafF x.e.L m k)) (nth x.e.L k).b.toNat) (R.nth_mem (by rw [hU.1]; omega))).1
      rw [← q2, nth_mapF (by omega)] at this
      exact this
    (refine R.stepN ?_; (repeat' (first | (with_reducible refine And.intro ?_ ?_) | (with_reducible intro _))); all_goals refine R.Lft.mk ?_)
    · rename_i ge _ _ _ hM hff
      have hM := R.pk (r := .row (some ⟨gA, 0, none⟩) _ _ _ _ _) hM
      have hM := nst_focus (pre := [_, _]) hM (j := (nth x.e.L k).a.toNat) (by omega)
      have hM : R.Own [] w _ (.row (nth Ms (nth x.e.L k).a.toNat).A (nth Ms (nth x.e.L k).a.toNat).n (nth Ms (nth x.e.L k).a.toNat).c 3 1 ((nth Ms (nth x.e.L k).a.toNat).L.flatMap R.cI) :: .row (some ⟨gA, 0, none⟩) m m 22 1 (Ms.flatMap R.cSl) :: .blk ge 67 (cEd (nth x.e.L k)) :: (nst 3 1 R.cI (Ms.take (nth x.e.L k).a.toNat) ++ nst 3 1 R.cI (Ms.drop ((nth x.e.L k).a.toNat + 1)))) := hM
      refine R.WC_planXD1 [(0, false), (1, false), (2, false), (3, false), (4, false), (5, false), (6, false), (7, false), (8, false), (9, false), (10, true), (11, true), (12, false), (13, true)] R.mixed (by decide +kernel) R.ohm ?_
      (refine R.stepN ?_; (repeat' (first | (with_reducible refine And.intro ?_ ?_) | (with_reducible intro _))); all_goals refine R.Lft.mk ?_)
      rename_i A2 c2 _ hM
      refine R.WO_stP (T := R.Sl Int) (enc := R.cSl) (L := Ms) (z := ⟨A2, (nth Ms (nth x.e.L k).a.toNat).n + 1, c2, (nth Ms (nth x.e.L k).a.toNat).L ++ [2 * ((k : Nat) : Int)]⟩) rfl rfl rfl rfl R.ohm R.upds (by omega) (by decide) rfl (fun w8 hM => ?_)
      have hM : R.Own [] w w8 (nst1 3 1 R.cI ⟨A2, (nth Ms (nth x.e.L k).a.toNat).n + 1, c2, (nth Ms (nth x.e.L k).a.toNat).L ++ [2 * ((k : Nat) : Int)]⟩ :: ([.row (some ⟨gA, 0, none⟩) m m 22 1 ((Ms.set (nth x.e.L k).a.toNat ⟨A2, (nth Ms (nth x.e.L k).a.toNat).n + 1, c2, (nth Ms (nth x.e.L k).a.toNat).L ++ [2 * ((k : Nat) : Int)]⟩).flatMap R.cSl), .blk ge 67 (cEd (nth x.e.L k))] ++ (nst 3 1 R.cI (Ms.take (nth x.e.L k).a.toNat) ++ nst 3 1 R.cI (Ms.drop ((nth x.e.L k).a.toNat + 1))))) := R.ohm
      have hM := nst_back hM (by omega)
      obtain ⟨M1, hM1⟩ : ∃ M1, Ms.set (nth x.e.L k).a.toNat ⟨A2, (nth Ms (nth x.e.L k).a.toNat).n + 1, c2, (nth Ms (nth x.e.L k).a.toNat).L ++ [2 * ((k : Nat) : Int)]⟩ = M1 := ⟨_, rfl⟩
      have hN1 : ∀ y ∈ M1, y.n = y.L.length := by rw [← hM1]; exact nst_all hMn (by dsimp only; rw [List.length_append, List.length_singleton, hxn])
      have hE1 : M1.map R.Sl.L = leafP x.e.L k (leafF x.e.L m k) := by rw [← hM1, List.map_set, hPt hff, ← hMf, nth_mapF haM]
      rw [hM1] at hM
      have hM : R.Own [] w w8 (.row (some ⟨gA, 0, none⟩) m m 22 1 (M1.flatMap R.cSl) :: .blk ge 67 (cEd (nth x.e.L k)) :: nst 3 1 R.cI M1) := hM
      (refine R.stepN ?_; (repeat' (first | (with_reducible refine And.intro ?_ ?_) | (with_reducible intro _))); all_goals refine R.Lft.mk ?_)
      · rename_i hkk
        obtain ⟨d1, d2, d3⟩ := hbn M1 hN1 hE1
        have hM := R.pk (r := .row (some ⟨gA, 0, none⟩) _ _ _ _ _) hM
        have hM := nst_focus (pre := [_, _]) hM (j := (nth x.e.L k).b.toNat) (by omega)
        have hM : R.Own [] w _ (.row (nth M1 (nth x.e.L k).b.toNat).A (nth M1 (nth x.e.L k).b.toNat).n (nth M1 (nth x.e.L k).b.toNat).c 3 1 ((nth M1 (nth x.e.L k).b.toNat).L.flatMap R.cI) :: .row (some ⟨gA, 0, none⟩) m m 22 1 (M1.flatMap R.cSl) :: .blk ge 67 (cEd (nth x.e.L k)) :: (nst 3 1 R.cI (M1.take (nth x.e.L k).b.toNat) ++ nst 3 1 R.cI (M1.drop ((nth x.e.L k).b.toNat + 1)))) := hM
        refine R.WC_planXD1 [(0, false), (1, false), (2, false), (3, false), (4, false), (5, false), (6, false), (7, false), (8, false), (9, false), (10, false), (11, true), (12, true), (13, false), (14, true)] R.mixed (by decide +kernel) R.ohm ?_
        (refine R.stepN ?_; (repeat' (first | (with_reducible refine And.intro ?_ ?_) | (with_reducible intro _))); all_goals refine R.Lft.mk ?_)
        rename_i A2 c2 _ hM
        refine R.WO_stP (T := R.Sl Int) (enc := R.cSl) (L := M1) (z := ⟨A2, (nth M1 (nth x.e.L k).b.toNat).n + 1, c2, (nth M1 (nth x.e.L k).b.toNat).L ++ [2 * ((k : Nat) : Int) + 1]⟩) rfl rfl rfl rfl R.ohm R.upds (by omega) (by decide) rfl (fun w8 hM => ?_)
        have hM : R.Own [] w w8 (nst1 3 1 R.cI ⟨A2, (nth M1 (nth x.e.L k).b.toNat).n + 1, c2, (nth M1 (nth x.e.L k).b.toNat).L ++ [2 * ((k : Nat) : Int) + 1]⟩ :: ([.row (some ⟨gA, 0, none⟩) m m 22 1 ((M1.set (nth x.e.L k).b.toNat ⟨A2, (nth M1 (nth x.e.L k).b.toNat).n + 1, c2, (nth M1 (nth x.e.L k).b.toNat).L ++ [2 * ((k : Nat) : Int) + 1]⟩).flatMap R.cSl), .blk ge 67 (cEd (nth x.e.L k))] ++ (nst 3 1 R.cI (M1.take (nth x.e.L k).b.toNat) ++ nst 3 1 R.cI (M1.drop ((nth x.e.L k).b.toNat + 1))))) := R.ohm
        have hM := nst_back hM (by omega)
        (refine R.stepN ?_; (repeat' (first | (with_reducible refine And.intro ?_ ?_) | (with_reducible intro _))); all_goals refine R.Lft.mk ?_)
        refine ⟨(k + 1, M1.set (nth x.e.L k).b.toNat ⟨A2, (nth M1 (nth x.e.L k).b.toNat).n + 1, c2, (nth M1 (nth x.e.L k).b.toNat).L ++ [2 * ((k : Nat) : Int) + 1]⟩), ⟨rfl, rfl, rfl, rfl, R.viaI rfl (by dsimp only; omega), trivial⟩, ⟨by dsimp only; omega, by dsimp only; rw [List.length_set]; exact d1, nst_all hN1 (by dsimp only; rw [List.length_append, List.length_singleton, d2]), ?_, R.dr (.blk ge _ _) hM⟩, by dsimp only; omega⟩
        dsimp only
        rw [List.map_set, hF1, hQt _ hkk, ← hE1, nth_mapF (by omega)]
      · rename_i hkk
        exact ⟨(k + 1, M1), ⟨rfl, rfl, rfl, rfl, R.viaI rfl (by dsimp only; omega), trivial⟩, ⟨by dsimp only; omega, by dsimp only; exact (hbn M1 hN1 hE1).1, hN1, by dsimp only; rw [hF1, hQf _ hkk]; exact hE1, R.dr (.blk ge _ _) hM⟩, by dsimp only; omega⟩
    · rename_i ge _ _ _ hM hff hkk
      have hN1 := hMn
      have hE1 : Ms.map R.Sl.L = leafP x.e.L k (leafF x.e.L m k) := by rw [hPf hff]; exact hMf
      obtain ⟨d1, d2, d3⟩ := hbn Ms hN1 hE1
      have hM := R.pk (r := .row (some ⟨gA, 0, none⟩) _ _ _ _ _) hM
      have hM := nst_focus (pre := [_, _]) hM (j := (nth x.e.L k).b.toNat) (by omega)
      have hM : R.Own [] w _ (.row (nth Ms (nth x.e.L k).b.toNat).A (nth Ms (nth x.e.L k).b.toNat).n (nth Ms (nth x.e.L k).b.toNat).c 3 1 ((nth Ms (nth x.e.L k).b.toNat).L.flatMap R.cI) :: .row (some ⟨gA, 0, none⟩) m m 22 1 (Ms.flatMap R.cSl) :: .blk ge 67 (cEd (nth x.e.L k)) :: (nst 3 1 R.cI (Ms.take (nth x.e.L k).b.toNat) ++ nst 3 1 R.cI (Ms.drop ((nth x.e.L k).b.toNat + 1)))) := hM
      refine R.WC_planXD1 [(0, false), (1, false), (2, false), (3, false), (4, false), (5, false), (6, false), (7, false), (8, false), (9, false), (10, false), (11, true), (12, true), (13, false), (14, true)] R.mixed (by decide +kernel) R.ohm ?_
      (refine R.stepN ?_; (repeat' (first | (with_reducible refine And.intro ?_ ?_) | (with_reducible intro _))); all_goals refine R.Lft.mk ?_)
      rename_i A2 c2 _ hM
      refine R.WO_stP (T := R.Sl Int) (enc := R.cSl) (L := Ms) (z := ⟨A2, (nth Ms (nth x.e.L k).b.toNat).n + 1, c2, (nth Ms (nth x.e.L k).b.toNat).L ++ [2 * ((k : Nat) : Int) + 1]⟩) rfl rfl rfl rfl R.ohm R.upds (by omega) (by decide) rfl (fun w8 hM => ?_)
      have hM : R.Own [] w w8 (nst1 3 1 R.cI ⟨A2, (nth Ms (nth x.e.L k).b.toNat).n + 1, c2, (nth Ms (nth x.e.L k).b.toNat).L ++ [2 * ((k : Nat) : Int) + 1]⟩ :: ([.row (some ⟨gA, 0, none⟩) m m 22 1 ((Ms.set (nth x.e.L k).b.toNat ⟨A2, (nth Ms (nth x.e.L k).b.toNat).n + 1, c2, (nth Ms (nth x.e.L k).b.toNat).L ++ [2 * ((k : Nat) : Int) + 1]⟩).flatMap R.cSl), .blk ge 67 (cEd (nth x.e.L k))] ++ (nst 3 1 R.cI (Ms.take (nth x.e.L k).b.toNat) ++ nst 3 1 R.cI (Ms.drop ((nth x.e.L k).b.toNat + 1))))) := R.ohm
      have hM := nst_back hM (by omega)
      (refine R.stepN ?_; (repeat' (first | (with_reducible refine And.intro ?_ ?_) | (with_reducible intro _))); all_goals refine R.Lft.mk ?_)
      refine ⟨(k + 1, Ms.set (nth x.e.L k).b.toNat ⟨A2, (nth Ms (nth x.e.L k).b.toNat).n + 1, c2, (nth Ms (nth x.e.L k).b.toNat).L ++ [2 * ((k : Nat) : Int) + 1]⟩), ⟨rfl, rfl, rfl, rfl, R.viaI rfl (by dsimp only; omega), trivial⟩, ⟨by dsimp only; omega, by dsimp only; rw [List.length_set]; exact d1, nst_all hN1 (by dsimp only; rw [List.length_append, List.length_singleton, d2]), ?_, R.dr (.blk ge _ _) hM⟩, by dsimp only; omega⟩
      dsimp only
      rw [List.map_set, hF1, hQt _ hkk, ← hE1, nth_mapF (by omega)]
    · rename_i ge _ _ _ hM hff hkk
      have hN1 := hMn
      have hE1 : Ms.map R.Sl.L = leafP x.e.L k (leafF x.e.L m k) := by rw [hPf hff]; exact hMf
      exact ⟨(k + 1, Ms), ⟨rfl, rfl, rfl, rfl, R.viaI rfl (by dsimp only; omega), trivial⟩, ⟨by dsimp only; omega, by dsimp only; exact (hbn Ms hN1 hE1).1, hN1, by dsimp only; rw [hF1, hQf _ hkk]; exact hE1, R.dr (.blk ge _ _) hM⟩, by dsimp only; omega⟩
  · obtain rfl : k = x.e.n := by omega
    (refine R.stepN ?_; (repeat' (first | (with_reducible refine And.intro ?_ ?_) | (with_reducible intro _))); all_goals refine R.Lft.mk ?_)
    exact ⟨A, Ms, rfl, hMn, hMf, by assumption⟩
end Go.Proofs.Ytdiodefooipojaa
namespace Go.Proofs.Ytdiodefooipojaa
open Go.RowKit
open R (In64 InU64 lo64 nth)

/-- The arcs that leave a way, of those that leave its head. -/
def turnL (E : List Ed) (is : Bool) (v : Int) (W : List Int) : List Item := (W.filter fun w => is && decide (v / 2 ≠ w / 2)).map fun w => ⟨(nth E (w / 2).toNat).w, w⟩
def headE (e : Ed) (back : Nat) : Int := if back = 1 then e.a else e.b
def isE (e : Ed) (back : Nat) : Bool := if back = 1 then e.k else e.f
def rowAt (E : List Ed) (lv : List (List Int)) (i j : Nat) : List Item := turnL E (isE (nth E i) j) (2 * (i : Nat) + (j : Nat)) (nth lv (headE (nth E i) j).toNat)
def rowsG (E : List Ed) (lv : List (List Int)) (n : Nat) : List (List Item) := (List.range n).map fun v => rowAt E lv (v / 2) (v % 2)
theorem rowsG_len (E : List Ed) (lv : List (List Int)) (n : Nat) : (rowsG E lv n).length = n := by simp [rowsG]
theorem rowsG_nth {E : List Ed} {lv : List (List Int)} {n v : Nat} (h : v < n) : nth (rowsG E lv n) v = rowAt E lv (v / 2) (v % 2) := by
  rw [R.nth_eq (by rw [rowsG_len]; exact h)]
  simp [rowsG]
theorem rowAt_le (E : List Ed) {lv : List (List Int)} {k m : Nat} (h : WaysT k m lv) (i j : Nat) : (rowAt E lv i j).length ≤ 2 * k := by
  unfold rowAt turnL
  rw [List.length_map]
  refine Nat.le_trans (List.length_filter_le _ _) ?_
  generalize (headE (nth E i) j).toNat = u
  rcases Nat.lt_or_ge u lv.length with c | c
  · exact (h.2 _ (R.nth_mem c)).1
  · have : nth lv u = [] := by unfold nth; rw [List.getD_eq_getElem?_getD, List.getElem?_eq_none c]; rfl
    rw [this]
    exact Nat.zero_le _
theorem off_rows {E : List Ed} {lv : List (List Int)} {k m : Nat} (h : WaysT k m lv) {n : Nat} : ∀ v, v ≤ n → off (rowsG E lv n) v ≤ 2 * k * v
  | 0, _ => by rw [off_zero]; exact Nat.zero_le _
  | v + 1, hv => by
    have h1 := off_rows h (E := E) (n := n) v (by omega)
    have h2 := off_succ (M := rowsG E lv n) (j := v) (by rw [rowsG_len]; omega)
    rw [rowsG_nth (by omega)] at h2
    have h3 := rowAt_le E h (v / 2) (v % 2)
    rw [Nat.mul_add, Nat.mul_one]
    generalize 2 * k * v = p at h1 ⊢
    omega
theorem turnL_next {E : List Ed} {is : Bool} {v : Int} {W : List Int} {q : Nat} (h : q < W.length) : turnL E is v (W.take (q + 1)) = turnL E is v (W.take q) ++ (if is && decide (v / 2 ≠ nth W q / 2) then [⟨(nth E (nth W q / 2).toNat).w, nth W q⟩] else []) := by
  unfold turnL
  rw [List.take_succ_eq_append_getElem h, List.filter_append, List.map_append, R.nth_eq h]
  congr 1
  by_cases c : (is && decide (v / 2 ≠ W[q] / 2)) = true
  · rw [if_pos c]; simp only [List.filter, c]; rfl
  · rw [if_neg c]; simp only [List.filter, Bool.eq_false_iff.2 c]; rfl
section
variable {C : R.CallH} {o : Oper} {f : R.Fr} {F : List Nat} {W0 w : World} {K : Value → World → Prop} {l : List R.Res} {x y : Operand} {a : Int} {b clk : Nat}
theorem WO_lk0 (hop : o.op = .lookup 64 x y false) (hx : R.ev f x = .map (some b)) (hy : R.ev f y = .int .i64 a) (ha : In64 a) (hM : R.Own F W0 w l) (hm : .map b #[] clk ∈ l) (hk : K (.agg #[.map none, .map none]) w) : R.WO Try.prog C o f w K := by
  have hi : Try.prog.underlying 3 = some (.int .i64) := by kernel_rfl
  have hb : w.heap[b]? = some (.map #[] clk) := hM.ok _ hm
  have h := Go.Maps.fit_look (P := Try.prog) (w := w) (R := fun _ => (none : Option (DataW Unit × List MemPlace))) false (Go.Maps.int_keyed hi) (show Try.prog.underlying 64 = some (.map 3 70) by kernel_rfl) (z := .agg #[.map none, .map none]) (by kernel_rfl) hb ⟨by simp, Go.MapKept.stamped_empty clk, by simp⟩ (Go.Maps.keyOf_int_mk hi (wf64a ha))
  rcases h with h | ⟨e0, y0, h1, _⟩
  · refine R.WO_val ?_ hk
    simp [execOp, hop, hx, hy, h.1]
  · simp at h1
end
end Go.Proofs.Ytdiodefooipojaa
