/- arcs.add: a vertex with its arcs. arcs.Back: a graph the other way round. arcs.leaves: the ways that leave each node. arcs.Of without bans, where no turn about may be taken: what it answers; its walk. arcs.Of without bans: its walk. A graph the other way round, as the document has it; back of back. Plain. A graph whose rows are own is a graph as held. snicketref19.Back: a graph the other way round, as the document has it. awake19: the cross as a graph. -/
import Derived.Test.YtdiodefooipojaaGreatArm
import Derived.Test.YtdiodefooipojaaGreatArn
import Derived.Test.YtdiodefooipojaaGreatTb
import Derived.Test.YtdiodefooipojaaGreatCx
import Derived.Test.YtdiodefooipojaaGreatFrame
namespace Go.Proofs.YtdiodefooipojaaGreat
open Go.RowKit
open R (In64 InU64 lo64 nth)
/-- A graph that is being laid: its rows, and itself. -/
def gRes (gb : Nat) (sA hA wA : Option Addr) (S H Wt : List Int) (sc hc wc : Nat) : List R.Res := [.row hA H.length hc 3 1 (H.flatMap R.cI), .row wA Wt.length wc 3 1 (Wt.flatMap R.cI), .row sA S.length sc 3 1 (S.flatMap R.cI), .blk gb 34 [.slice sA S.length sc, .slice hA H.length hc, .slice wA Wt.length wc]]
theorem map_takeI {L : List Item} {k : Nat} (h : k < L.length) (f : Item → Int) : (L.take (k + 1)).map f = (L.take k).map f ++ [f (nth L k)] := by
  rw [List.take_succ_eq_append_getElem h, List.map_append, R.nth_eq h]
  rfl
set_option maxHeartbeats 2000000 in
theorem aadd_any (gb : Nat) (sA hA wA : Option Addr) (S H Wt : List Int) (sc hc wc : Nat) (l : R.Sl Item) (w : World) (hR : R.Has w (gRes gb sA hA wA S H Wt sc hc wc)) (hl : R.Inp (R.keysOf (gRes gb sA hA wA S H Wt sc hc wc)) w l.A l.n 2 (l.L.flatMap cItem)) (hn : l.n = l.L.length) (h1 : S.length ≤ 10000) (h2 : H.length ≤ 200000) (h3 : Wt.length ≤ 200000) (h4 : l.n ≤ 200000) :
    Calls Tryz.prog 21 #[.pointer (some ⟨gb, 0, none⟩), .slice l.A l.n l.c] w fun e w' => e = .returned (.tuple #[]) ∧ ∃ sA' hA' wA' sc' hc' wc', R.Own (R.keysOf (gRes gb sA hA wA S H Wt sc hc wc)) w w' (gRes gb sA' hA' wA' (S ++ [((H.length + l.L.length : Nat) : Int)]) (H ++ l.L.map Item.at_) (Wt ++ l.L.map Item.key) sc' hc' wc') := by
  have hM := R.Own.startF hR
  obtain ⟨F, hF⟩ : ∃ F, R.keysOf (gRes gb sA hA wA S H Wt sc hc wc) = F := ⟨_, rfl⟩
  rw [hF] at hM hl ⊢
  clear hF hR
  unfold gRes at hM ⊢
  refine R.calls_of_WC (fn := Tryz.f21) Tryz.func21 rfl Tryz.ntmps21 (Nat.le_of_ble_eq_true rfl) ?_
  (refine R.stepN ?_; (repeat' (first | (with_reducible refine And.intro ?_ ?_) | (with_reducible intro _))); all_goals refine R.Lft.mk ?_)
  refine R.WC_loop (fun i : Nat × Option Addr × Nat × List Int × Option Addr × Nat × List Int => [(0, .pointer (some ⟨gb, 0, none⟩)), (6, .slice l.A l.n l.c), (7, .int .i64 (l.n : Nat)), (8, .int .i64 (i.1 : Nat))])
    (fun i w2 => i.1 ≤ l.n ∧ i.2.2.2.1 = H ++ (l.L.take i.1).map Item.at_ ∧ i.2.2.2.2.2.2 = Wt ++ (l.L.take i.1).map Item.key ∧ R.Own F w w2 [.row i.2.1 i.2.2.2.1.length i.2.2.1 3 1 (i.2.2.2.1.flatMap R.cI), .row i.2.2.2.2.1 i.2.2.2.2.2.2.length i.2.2.2.2.2.1 3 1 (i.2.2.2.2.2.2.flatMap R.cI), .row sA S.length sc 3 1 (S.flatMap R.cI), .blk gb 34 [.slice sA S.length sc, .slice i.2.1 i.2.2.2.1.length i.2.2.1, .slice i.2.2.2.2.1 i.2.2.2.2.2.2.length i.2.2.2.2.2.1]]) (fun i => l.n - i.1)
    ⟨(0, hA, hc, H, wA, wc, Wt), ⟨rfl, rfl, rfl, rfl, trivial⟩, Nat.zero_le _, by simp, by simp, hM⟩ ?_
  clear hM
  rintro ⟨k, hA, hc, H2, wA, wc, W2⟩ f w2 ⟨hk, e1, e2, hM⟩
  dsimp only at hk e1 e2 hM ⊢
  have hl2 : H2.length = H.length + k := by rw [e1]; simp; omega
  have hl3 : W2.length = Wt.length + k := by rw [e2]; simp; omega
  by_cases hlt : k < l.n
  · (refine R.stepN ?_; (repeat' (first | (with_reducible refine And.intro ?_ ?_) | (with_reducible intro _))); all_goals refine R.Lft.mk ?_)
    rename_i gx _ _ _ hM
    have hM := R.pk (r := .row hA _ _ _ _ _) hM
    refine R.WC_planXD1 [(0, false), (1, false), (2, false), (3, false), (4, false), (5, false), (6, false), (7, true), (8, true), (9, false), (10, false), (11, true)] R.mixed (by decide +kernel) R.ohm ?_
    (refine R.stepN ?_; (repeat' (first | (with_reducible refine And.intro ?_ ?_) | (with_reducible intro _))); all_goals refine R.Lft.mk ?_)
    rename_i hA3 hc3 _ _ _ hM
    have hM := R.pk (r := .row wA _ _ _ _ _) hM
    refine R.WC_planXD1 [(0, false), (1, false), (2, false), (3, false), (4, false), (5, false), (6, false), (7, true), (8, true), (9, false), (10, false), (11, true)] R.mixed (by decide +kernel) R.ohm ?_
    (refine R.stepN ?_; (repeat' (first | (with_reducible refine And.intro ?_ ?_) | (with_reducible intro _))); all_goals refine R.Lft.mk ?_)
    rename_i wA3 wc3 _ _ _ hM
    rw [show H2.length + 1 = (H2 ++ [(nth l.L k).at_]).length by simp, show W2.length + 1 = (W2 ++ [(nth l.L k).key]).length by simp] at hM
    refine ⟨(k + 1, hA3, hc3, H2 ++ [(nth l.L k).at_], wA3, wc3, W2 ++ [(nth l.L k).key]), ⟨rfl, rfl, rfl, R.viaI rfl (by dsimp only; omega), trivial⟩, ⟨by dsimp only; omega, ?_, ?_, R.Own.swap (R.dr (.blk gx _ _) hM)⟩, by dsimp only; omega⟩
    · dsimp only
      rw [e1, map_takeI (by omega), List.append_assoc]
    · dsimp only
      rw [e2, map_takeI (by omega), List.append_assoc]
  · obtain rfl : k = l.n := by omega
    rw [hn, List.take_length] at e1 e2
    (refine R.stepN ?_; (repeat' (first | (with_reducible refine And.intro ?_ ?_) | (with_reducible intro _))); all_goals refine R.Lft.mk ?_)
    have hM := R.pk (r := .row sA _ _ _ _ _) hM
    refine R.WC_planXD1 [(0, false), (1, false), (2, false), (3, false), (4, false), (5, false), (6, false), (7, false), (8, false), (9, false), (10, true), (11, true), (12, false), (13, false), (14, true)] R.mixed (by decide +kernel) R.ohm ?_
    (refine R.stepN ?_; (repeat' (first | (with_reducible refine And.intro ?_ ?_) | (with_reducible intro _))); all_goals refine R.Lft.mk ?_)
    rename_i sA3 sc3 _ _ _ hM
    rw [show S.length + 1 = (S ++ [((H2.length : Nat) : Int)]).length by simp] at hM
    have hM := R.pk (r := .row hA _ _ _ _ _) (R.pk (r := .row wA _ _ _ _ _) hM)
    have e3 : H2.length = H.length + l.L.length := by rw [e1]; simp
    rw [← e1, ← e2, ← e3]
    exact ⟨rfl, sA3, hA, wA, sc3, hc, wc, hM⟩
end Go.Proofs.YtdiodefooipojaaGreat
namespace Go.Proofs.YtdiodefooipojaaGreat
open Go.RowKit
open R (In64 InU64 lo64 nth)
def bRows (b : Gph) : List R.Res := [.row b.hd.A b.hd.n b.hd.c 3 1 (b.hd.L.flatMap R.cI), .row b.wt.A b.wt.n b.wt.c 3 1 (b.wt.L.flatMap R.cI), .row b.st.A b.st.n b.st.c 3 1 (b.st.L.flatMap R.cI)]
end Go.Proofs.YtdiodefooipojaaGreat
namespace Go.Proofs.YtdiodefooipojaaGreat
open Go.RowKit
open R (In64 InU64 lo64 nth)

instance enct_Ints : R.EncT Tryz.prog 32 (R.Sl Int) R.cSl 1 := {}
def leafP (E : List Ed) (k : Nat) (M : List (List Int)) : List (List Int) := if (nth E k).f then M.set (nth E k).a.toNat (nth M (nth E k).a.toNat ++ [2 * ((k : Nat) : Int)]) else M
def leafQ (E : List Ed) (k : Nat) (M : List (List Int)) : List (List Int) := if (nth E k).k then M.set (nth E k).b.toNat (nth M (nth E k).b.toNat ++ [2 * ((k : Nat) : Int) + 1]) else M
/-- The ways that leave each node, of the first k edges. -/
def leafF (E : List Ed) (m : Nat) : Nat → List (List Int)
  | 0 => List.replicate m []
  | k + 1 => leafQ E k (leafP E k (leafF E m k))
/-- Rows of ways, of the first k edges. -/
def WaysT (k m : Nat) (M : List (List Int)) : Prop := M.length = m ∧ ∀ l ∈ M, l.length ≤ 2 * k ∧ ∀ y ∈ l, 0 ≤ y ∧ y < 2 * (k : Nat)
/-- As this, where the edge k is half gone through. -/
def WaysU (k m : Nat) (M : List (List Int)) : Prop := M.length = m ∧ ∀ l ∈ M, l.length ≤ 2 * k + 1 ∧ ∀ y ∈ l, 0 ≤ y ∧ y < 2 * (k : Nat) + 1
theorem WaysT.p {E : List Ed} {k m : Nat} {M : List (List Int)} (h : WaysT k m M) : WaysU k m (leafP E k M) := by
  unfold leafP
  split
  · refine ⟨by rw [List.length_set]; exact h.1, fun l hl => ?_⟩
    rcases List.mem_or_eq_of_mem_set hl with c | c
    · have := h.2 l c
      exact ⟨by omega, fun y hy => by have := this.2 y hy; omega⟩
    · subst c
      have hn : ∀ j, (nth M j).length ≤ 2 * k ∧ ∀ y ∈ nth M j, 0 ≤ y ∧ y < 2 * (k : Nat) := fun j => by
        rcases Nat.lt_or_ge j M.length with q | q
        · exact h.2 _ (R.nth_mem q)
        · have : nth M j = [] := by unfold R.nth; rw [List.getD_eq_getElem?_getD, List.getElem?_eq_none q]; rfl
          rw [this]
          exact ⟨Nat.zero_le _, fun y hy => (by cases hy)⟩
      obtain ⟨h1, h2⟩ := hn (nth E k).a.toNat
      refine ⟨by rw [List.length_append, List.length_singleton]; omega, fun y hy => ?_⟩
      rcases List.mem_append.1 hy with q | q
      · have := h2 y q; omega
      · rw [List.mem_singleton.1 q]; omega
  · exact ⟨h.1, fun l hl => ⟨by have := (h.2 l hl).1; omega, fun y hy => by have := (h.2 l hl).2 y hy; omega⟩⟩
theorem WaysU.q {E : List Ed} {k m : Nat} {M : List (List Int)} (h : WaysU k m M) : WaysT (k + 1) m (leafQ E k M) := by
  unfold leafQ
  split
  · refine ⟨by rw [List.length_set]; exact h.1, fun l hl => ?_⟩
    rcases List.mem_or_eq_of_mem_set hl with c | c
    · have := h.2 l c
      exact ⟨by omega, fun y hy => by have := this.2 y hy; omega⟩
    · subst c
      have hn : ∀ j, (nth M j).length ≤ 2 * k + 1 ∧ ∀ y ∈ nth M j, 0 ≤ y ∧ y < 2 * (k : Nat) + 1 := fun j => by
        rcases Nat.lt_or_ge j M.length with q | q
        · exact h.2 _ (R.nth_mem q)
        · have : nth M j = [] := by unfold R.nth; rw [List.getD_eq_getElem?_getD, List.getElem?_eq_none q]; rfl
          rw [this]
          exact ⟨Nat.zero_le _, fun y hy => (by cases hy)⟩
      obtain ⟨h1, h2⟩ := hn (nth E k).b.toNat
      refine ⟨by rw [List.length_append, List.length_singleton]; omega, fun y hy => ?_⟩
      rcases List.mem_append.1 hy with q | q
      · have := h2 y q; omega
      · rw [List.mem_singleton.1 q]; omega
  · exact ⟨h.1, fun l hl => ⟨by have := (h.2 l hl).1; omega, fun y hy => by have := (h.2 l hl).2 y hy; omega⟩⟩
theorem leafF_ok (E : List Ed) (m : Nat) : ∀ k, WaysT k m (leafF E m k)
  | 0 => ⟨by simp [leafF], fun l hl => by rw [List.eq_of_mem_replicate hl]; exact ⟨Nat.zero_le _, fun y hy => (by cases hy)⟩⟩
  | k + 1 => ((leafF_ok E m k).p (E := E)).q
theorem nst_all {Ms : List (R.Sl Int)} {j : Nat} {z : R.Sl Int} (h : ∀ y ∈ Ms, y.n = y.L.length) (hz : z.n = z.L.length) : ∀ y ∈ Ms.set j z, y.n = y.L.length := fun y hy => by
  rcases List.mem_or_eq_of_mem_set hy with c | c
  · exact h y c
  · rw [c]; exact hz
set_option maxHeartbeats 8000000 in
theorem leaves_any (x : Nt) (w : World) (hG : GNt w x) (hb : netB x = true) : Calls Tryz.prog 18 #[.agg (cNt x).toArray] w fun e w' => ∃ A Ms, e = .returned (.slice A x.s.n x.s.n) ∧ (∀ y ∈ Ms, y.n = y.L.length) ∧ Ms.map R.Sl.L = leafF x.e.L x.s.n x.e.n ∧ R.Own [] w w' (.row A x.s.n x.s.n 32 1 (Ms.flatMap R.cSl) :: nst 3 1 R.cI Ms) := by
  have hM := R.Own.start [] w
  have hL := hG.lasts
  have hk := netB_e hb
  have hsn : x.s.n ≤ 200000 := (netB_iff.1 hb).1
  obtain ⟨⟨s1, s2, s3, -⟩, ⟨h1, h2, h3, -⟩, -⟩ := hG
  obtain ⟨m, hm⟩ : ∃ m, x.s.n = m := ⟨_, rfl⟩
  have hab : ∀ i, i < x.e.n → 0 ≤ (nth x.e.L i).a ∧ (nth x.e.L i).a < (m : Nat) ∧ 0 ≤ (nth x.e.L i).b ∧ (nth x.e.L i).b < (m : Nat) := fun i hi => by
    obtain ⟨q1, q2, q3, _⟩ := (netB_iff.1 hb).2.2.2.2.1 i hi
    omega
  refine R.calls_of_WC (fn := Tryz.f18) Tryz.func18 rfl Tryz.ntmps18 (Nat.le_of_ble_eq_true rfl) ?_
  (refine R.stepN ?_; (repeat' (first | (with_reducible refine And.intro ?_ ?_) | (with_reducible intro _))); all_goals refine R.Lft.mk ?_)
  rw [hm] at hsn ⊢
  refine R.WO_makeO (T := R.Sl Int) (enc := R.cSl) (z0 := default) rfl (by rfl) rfl rfl (by omega) (by omega) (by omega) R.ohm (fun A w4 hM => ?_)
  rename_i gb _ _
  (refine R.stepN ?_; (repeat' (first | (with_reducible refine And.intro ?_ ?_) | (with_reducible intro _))); all_goals refine R.Lft.mk ?_)
  refine R.WC_loop (fun i : Nat × List (R.Sl Int) => [(2, .slice none 0 0), (3, .slice A m m), (11, .slice x.e.A x.e.n x.e.c), (12, .int .i64 (x.e.n : Nat)), (13, .int .i64 (i.1 : Nat))])
    (fun i w2 => i.1 ≤ x.e.n ∧ i.2.length = m ∧ (∀ y ∈ i.2, y.n = y.L.length) ∧ i.2.map R.Sl.L = leafF x.e.L m i.1 ∧ R.Own [] w w2 (.row A m m 32 1 (i.2.flatMap R.cSl) :: nst 3 1 R.cI i.2)) (fun i => x.e.n - i.1)
    ⟨(0, List.replicate m default), ⟨rfl, rfl, rfl, rfl, rfl, trivial⟩, Nat.zero_le _, by simp, fun y hy => by rw [List.eq_of_mem_replicate hy]; rfl, by dsimp only; rw [List.map_replicate]; rfl, (own_nils (R.dr (.blk gb _ _) hM) 3 1 R.cI m).perm (List.perm_append_comm (l₁ := [_]))⟩ ?_
  clear hM
  rintro ⟨k, Ms⟩ f w5 ⟨hv, hMl, hMn, hMf, hM⟩
  dsimp only at hv hMl hMn hMf hM ⊢
  by_cases hlt : k < x.e.n
  · obtain ⟨a1, a2, b1, b2⟩ := hab k hlt
    obtain ⟨gA, rfl⟩ := row_form (R.Own.ok hM _ (.head _)) (by omega)
    have hw := leafF_ok x.e.L m k
    have hU := hw.p (E := x.e.L)
    have haM : (nth x.e.L k).a.toNat < Ms.length := by omega
    have hxn := hMn _ (R.nth_mem haM)
    have hxl : (nth Ms (nth x.e.L k).a.toNat).L.length ≤ 2 * k := by
      have := (hw.2 (nth (leafF x.e.L m k) (nth x.e.L k).a.toNat) (R.nth_mem (by rw [hw.1]; omega))).1
      rw [← hMf, nth_mapF haM] at this
      exact this
    have hPt : (nth x.e.L k).f = true → leafP x.e.L k (leafF x.e.L m k) = (leafF x.e.L m k).set (nth x.e.L k).a.toNat (nth (leafF x.e.L m k) (nth x.e.L k).a.toNat ++ [2 * ((k : Nat) : Int)]) := fun h => by unfold leafP; rw [h]; rfl
    have hPf : (nth x.e.L k).f = false → leafP x.e.L k (leafF x.e.L m k) = leafF x.e.L m k := fun h => by unfold leafP; rw [h]; rfl
    have hQt : ∀ M, (nth x.e.L k).k = true → leafQ x.e.L k M = M.set (nth x.e.L k).b.toNat (nth M (nth x.e.L k).b.toNat ++ [2 * ((k : Nat) : Int) + 1]) := fun M h => by unfold leafQ; rw [h]; rfl
    have hQf : ∀ M, (nth x.e.L k).k = false → leafQ x.e.L k M = M := fun M h => by unfold leafQ; rw [h]; rfl
    have hF1 : leafF x.e.L m (k + 1) = leafQ x.e.L k (leafP x.e.L k (leafF x.e.L m k)) := rfl
    have hbn : ∀ Ms2 : List (R.Sl Int), (∀ y ∈ Ms2, y.n = y.L.length) → Ms2.map R.Sl.L = leafP x.e.L k (leafF x.e.L m k) → Ms2.length = m ∧ (nth Ms2 (nth x.e.L k).b.toNat).n = (nth Ms2 (nth x.e.L k).b.toNat).L.length ∧ (nth Ms2 (nth x.e.L k).b.toNat).L.length ≤ 2 * k + 1 := fun Ms2 q1 q2 => by
      have q3 : Ms2.length = m := by rw [← hU.1, ← q2, List.length_map]
      refine ⟨q3, q1 _ (R.nth_mem (by omega)), ?_⟩
      have := (hU.2 (nth (leafP x.e.L k (leafF x.e.L m k)) (nth x.e.L k).b.toNat) (R.nth_mem (by rw [hU.1]; omega))).1
      rw [← q2, nth_mapF (by omega)] at this
      exact this
    (refine R.stepN ?_; (repeat' (first | (with_reducible refine And.intro ?_ ?_) | (with_reducible intro _))); all_goals refine R.Lft.mk ?_)
    · rename_i ge _ _ _ hM hff
      have hM := R.pk (r := .row (some ⟨gA, 0, none⟩) _ _ _ _ _) hM
      have hM := nst_focus (pre := [_, _]) hM (j := (nth x.e.L k).a.toNat) (by omega)
      have hM : R.Own [] w _ (.row (nth Ms (nth x.e.L k).a.toNat).A (nth Ms (nth x.e.L k).a.toNat).n (nth Ms (nth x.e.L k).a.toNat).c 3 1 ((nth Ms (nth x.e.L k).a.toNat).L.flatMap R.cI) :: .row (some ⟨gA, 0, none⟩) m m 32 1 (Ms.flatMap R.cSl) :: .blk ge 55 (cEd (nth x.e.L k)) :: (nst 3 1 R.cI (Ms.take (nth x.e.L k).a.toNat) ++ nst 3 1 R.cI (Ms.drop ((nth x.e.L k).a.toNat + 1)))) := hM
      refine R.WC_planXD1 [(0, false), (1, false), (2, false), (3, false), (4, false), (5, false), (6, false), (7, false), (8, false), (9, false), (10, true), (11, true), (12, false), (13, true)] R.mixed (by decide +kernel) R.ohm ?_
      (refine R.stepN ?_; (repeat' (first | (with_reducible refine And.intro ?_ ?_) | (with_reducible intro _))); all_goals refine R.Lft.mk ?_)
      rename_i A2 c2 _ hM
      refine R.WO_stP (T := R.Sl Int) (enc := R.cSl) (L := Ms) (z := ⟨A2, (nth Ms (nth x.e.L k).a.toNat).n + 1, c2, (nth Ms (nth x.e.L k).a.toNat).L ++ [2 * ((k : Nat) : Int)]⟩) rfl rfl rfl rfl R.ohm R.upds (by omega) (by decide) rfl (fun w8 hM => ?_)
      have hM : R.Own [] w w8 (nst1 3 1 R.cI ⟨A2, (nth Ms (nth x.e.L k).a.toNat).n + 1, c2, (nth Ms (nth x.e.L k).a.toNat).L ++ [2 * ((k : Nat) : Int)]⟩ :: ([.row (some ⟨gA, 0, none⟩) m m 32 1 ((Ms.set (nth x.e.L k).a.toNat ⟨A2, (nth Ms (nth x.e.L k).a.toNat).n + 1, c2, (nth Ms (nth x.e.L k).a.toNat).L ++ [2 * ((k : Nat) : Int)]⟩).flatMap R.cSl), .blk ge 55 (cEd (nth x.e.L k))] ++ (nst 3 1 R.cI (Ms.take (nth x.e.L k).a.toNat) ++ nst 3 1 R.cI (Ms.drop ((nth x.e.L k).a.toNat + 1))))) := R.ohm
      have hM := nst_back hM (by omega)
      obtain ⟨M1, hM1⟩ : ∃ M1, Ms.set (nth x.e.L k).a.toNat ⟨A2, (nth Ms (nth x.e.L k).a.toNat).n + 1, c2, (nth Ms (nth x.e.L k).a.toNat).L ++ [2 * ((k : Nat) : Int)]⟩ = M1 := ⟨_, rfl⟩
      have hN1 : ∀ y ∈ M1, y.n = y.L.length := by rw [← hM1]; exact nst_all hMn (by dsimp only; rw [List.length_append, List.length_singleton, hxn])
      have hE1 : M1.map R.Sl.L = leafP x.e.L k (leafF x.e.L m k) := by rw [← hM1, List.map_set, hPt hff, ← hMf, nth_mapF haM]
      rw [hM1] at hM
      have hM : R.Own [] w w8 (.row (some ⟨gA, 0, none⟩) m m 32 1 (M1.flatMap R.cSl) :: .blk ge 55 (cEd (nth x.e.L k)) :: nst 3 1 R.cI M1) := hM
      (refine R.stepN ?_; (repeat' (first | (with_reducible refine And.intro ?_ ?_) | (with_reducible intro _))); all_goals refine R.Lft.mk ?_)
      · rename_i hkk
        obtain ⟨d1, d2, d3⟩ := hbn M1 hN1 hE1
        have hM := R.pk (r := .row (some ⟨gA, 0, none⟩) _ _ _ _ _) hM
        have hM := nst_focus (pre := [_, _]) hM (j := (nth x.e.L k).b.toNat) (by omega)
        have hM : R.Own [] w _ (.row (nth M1 (nth x.e.L k).b.toNat).A (nth M1 (nth x.e.L k).b.toNat).n (nth M1 (nth x.e.L k).b.toNat).c 3 1 ((nth M1 (nth x.e.L k).b.toNat).L.flatMap R.cI) :: .row (some ⟨gA, 0, none⟩) m m 32 1 (M1.flatMap R.cSl) :: .blk ge 55 (cEd (nth x.e.L k)) :: (nst 3 1 R.cI (M1.take (nth x.e.L k).b.toNat) ++ nst 3 1 R.cI (M1.drop ((nth x.e.L k).b.toNat + 1)))) := hM
        refine R.WC_planXD1 [(0, false), (1, false), (2, false), (3, false), (4, false), (5, false), (6, false), (7, false), (8, false), (9, false), (10, false), (11, true), (12, true), (13, false), (14, true)] R.mixed (by decide +kernel) R.ohm ?_
        (refine R.stepN ?_; (repeat' (first | (with_reducible refine And.intro ?_ ?_) | (with_reducible intro _))); all_goals refine R.Lft.mk ?_)
        rename_i A2 c2 _ hM
        refine R.WO_stP (T := R.Sl Int) (enc := R.cSl) (L := M1) (z := ⟨A2, (nth M1 (nth x.e.L k).b.toNat).n + 1, c2, (nth M1 (nth x.e.L k).b.toNat).L ++ [2 * ((k : Nat) : Int) + 1]⟩) rfl rfl rfl rfl R.ohm R.upds (by omega) (by decide) rfl (fun w8 hM => ?_)
        have hM : R.Own [] w w8 (nst1 3 1 R.cI ⟨A2, (nth M1 (nth x.e.L k).b.toNat).n + 1, c2, (nth M1 (nth x.e.L k).b.toNat).L ++ [2 * ((k : Nat) : Int) + 1]⟩ :: ([.row (some ⟨gA, 0, none⟩) m m 32 1 ((M1.set (nth x.e.L k).b.toNat ⟨A2, (nth M1 (nth x.e.L k).b.toNat).n + 1, c2, (nth M1 (nth x.e.L k).b.toNat).L ++ [2 * ((k : Nat) : Int) + 1]⟩).flatMap R.cSl), .blk ge 55 (cEd (nth x.e.L k))] ++ (nst 3 1 R.cI (M1.take (nth x.e.L k).b.toNat) ++ nst 3 1 R.cI (M1.drop ((nth x.e.L k).b.toNat + 1))))) := R.ohm
        have hM := nst_back hM (by omega)
        (refine R.stepN ?_; (repeat' (first | (with_reducible refine And.intro ?_ ?_) | (with_reducible intro _))); all_goals refine R.Lft.mk ?_)
        refine ⟨(k + 1, M1.set (nth x.e.L k).b.toNat ⟨A2, (nth M1 (nth x.e.L k).b.toNat).n + 1, c2, (nth M1 (nth x.e.L k).b.toNat).L ++ [2 * ((k : Nat) : Int) + 1]⟩), ⟨rfl, rfl, rfl, rfl, R.viaI rfl (by dsimp only; omega), trivial⟩, ⟨by dsimp only; omega, by dsimp only; rw [List.length_set]; exact d1, nst_all hN1 (by dsimp only; rw [List.length_append, List.length_singleton, d2]), ?_, R.dr (.blk ge _ _) hM⟩, by dsimp only; omega⟩
        dsimp only
        rw [List.map_set, hF1, hQt _ hkk, ← hE1, nth_mapF (by omega)]
      · rename_i hkk
        exact ⟨(k + 1, M1), ⟨rfl, rfl, rfl, rfl, R.viaI rfl (by dsimp only; omega), trivial⟩, ⟨by dsimp only; omega, by dsimp only; exact (hbn M1 hN1 hE1).1, hN1, by dsimp only; rw [hF1, hQf _ hkk]; exact hE1, R.dr (.blk ge _ _) hM⟩, by dsimp only; omega⟩
    · rename_i ge _ _ _ hM hff hkk
      have hN1 := hMn
      have hE1 : Ms.map R.Sl.L = leafP x.e.L k (leafF x.e.L m k) := by rw [hPf hff]; exact hMf
      obtain ⟨d1, d2, d3⟩ := hbn Ms hN1 hE1
      have hM := R.pk (r := .row (some ⟨gA, 0, none⟩) _ _ _ _ _) hM
      have hM := nst_focus (pre := [_, _]) hM (j := (nth x.e.L k).b.toNat) (by omega)
      have hM : R.Own [] w _ (.row (nth Ms (nth x.e.L k).b.toNat).A (nth Ms (nth x.e.L k).b.toNat).n (nth Ms (nth x.e.L k).b.toNat).c 3 1 ((nth Ms (nth x.e.L k).b.toNat).L.flatMap R.cI) :: .row (some ⟨gA, 0, none⟩) m m 32 1 (Ms.flatMap R.cSl) :: .blk ge 55 (cEd (nth x.e.L k)) :: (nst 3 1 R.cI (Ms.take (nth x.e.L k).b.toNat) ++ nst 3 1 R.cI (Ms.drop ((nth x.e.L k).b.toNat + 1)))) := hM
      refine R.WC_planXD1 [(0, false), (1, false), (2, false), (3, false), (4, false), (5, false), (6, false), (7, false), (8, false), (9, false), (10, false), (11, true), (12, true), (13, false), (14, true)] R.mixed (by decide +kernel) R.ohm ?_
      (refine R.stepN ?_; (repeat' (first | (with_reducible refine And.intro ?_ ?_) | (with_reducible intro _))); all_goals refine R.Lft.mk ?_)
      rename_i A2 c2 _ hM
      refine R.WO_stP (T := R.Sl Int) (enc := R.cSl) (L := Ms) (z := ⟨A2, (nth Ms (nth x.e.L k).b.toNat).n + 1, c2, (nth Ms (nth x.e.L k).b.toNat).L ++ [2 * ((k : Nat) : Int) + 1]⟩) rfl rfl rfl rfl R.ohm R.upds (by omega) (by decide) rfl (fun w8 hM => ?_)
      have hM : R.Own [] w w8 (nst1 3 1 R.cI ⟨A2, (nth Ms (nth x.e.L k).b.toNat).n + 1, c2, (nth Ms (nth x.e.L k).b.toNat).L ++ [2 * ((k : Nat) : Int) + 1]⟩ :: ([.row (some ⟨gA, 0, none⟩) m m 32 1 ((Ms.set (nth x.e.L k).b.toNat ⟨A2, (nth Ms (nth x.e.L k).b.toNat).n + 1, c2, (nth Ms (nth x.e.L k).b.toNat).L ++ [2 * ((k : Nat) : Int) + 1]⟩).flatMap R.cSl), .blk ge 55 (cEd (nth x.e.L k))] ++ (nst 3 1 R.cI (Ms.take (nth x.e.L k).b.toNat) ++ nst 3 1 R.cI (Ms.drop ((nth x.e.L k).b.toNat + 1))))) := R.ohm
      have hM := nst_back hM (by omega)
      (refine R.stepN ?_; (repeat' (first | (with_reducible refine And.intro ?_ ?_) | (with_reducible intro _))); all_goals refine R.Lft.mk ?_)
      refine ⟨(k + 1, Ms.set (nth x.e.L k).b.toNat ⟨A2, (nth Ms (nth x.e.L k).b.toNat).n + 1, c2, (nth Ms (nth x.e.L k).b.toNat).L ++ [2 * ((k : Nat) : Int) + 1]⟩), ⟨rfl, rfl, rfl, rfl, R.viaI rfl (by dsimp only; omega), trivial⟩, ⟨by dsimp only; omega, by dsimp only; rw [List.length_set]; exact d1, nst_all hN1 (by dsimp only; rw [List.length_append, List.length_singleton, d2]), ?_, R.dr (.blk ge _ _) hM⟩, by dsimp only; omega⟩
      dsimp only
      rw [List.map_set, hF1, hQt _ hkk, ← hE1, nth_mapF (by omega)]
    · rename_i ge _ _ _ hM hff hkk
      have hN1 := hMn
      have hE1 : Ms.map R.Sl.L = leafP x.e.L k (leafF x.e.L m k) := by rw [hPf hff]; exact hMf
      exact ⟨(k + 1, Ms), ⟨rfl, rfl, rfl, rfl, R.viaI rfl (by dsimp only; omega), trivial⟩, ⟨by dsimp only; omega, by dsimp only; exact (hbn Ms hN1 hE1).1, hN1, by dsimp only; rw [hF1, hQf _ hkk]; exact hE1, R.dr (.blk ge _ _) hM⟩, by dsimp only; omega⟩
  · obtain rfl : k = x.e.n := by omega
    (refine R.stepN ?_; (repeat' (first | (with_reducible refine And.intro ?_ ?_) | (with_reducible intro _))); all_goals refine R.Lft.mk ?_)
    exact ⟨A, Ms, rfl, hMn, hMf, by assumption⟩
end Go.Proofs.YtdiodefooipojaaGreat
namespace Go.Proofs.YtdiodefooipojaaGreat
open Go.RowKit
open R (In64 InU64 lo64 nth)

/-- The arcs that leave a way, of those that leave its head. -/
def turnL (E : List Ed) (is : Bool) (v : Int) (W : List Int) : List Item := (W.filter fun w => is && decide (v / 2 ≠ w / 2)).map fun w => ⟨(nth E (w / 2).toNat).w, w⟩
def headE (e : Ed) (back : Nat) : Int := if back = 1 then e.a else e.b
def isE (e : Ed) (back : Nat) : Bool := if back = 1 then e.k else e.f
def rowAt (E : List Ed) (lv : List (List Int)) (i j : Nat) : List Item := turnL E (isE (nth E i) j) (2 * (i : Nat) + (j : Nat)) (nth lv (headE (nth E i) j).toNat)
def rowsG (E : List Ed) (lv : List (List Int)) (n : Nat) : List (List Item) := (List.range n).map fun v => rowAt E lv (v / 2) (v % 2)
theorem rowsG_len (E : List Ed) (lv : List (List Int)) (n : Nat) : (rowsG E lv n).length = n := by simp [rowsG]
theorem rowsG_nth {E : List Ed} {lv : List (List Int)} {n v : Nat} (h : v < n) : nth (rowsG E lv n) v = rowAt E lv (v / 2) (v % 2) := by
  rw [R.nth_eq (by rw [rowsG_len]; exact h)]
  simp [rowsG]
theorem rowAt_le (E : List Ed) {lv : List (List Int)} {k m : Nat} (h : WaysT k m lv) (i j : Nat) : (rowAt E lv i j).length ≤ 2 * k := by
  unfold rowAt turnL
  rw [List.length_map]
  refine Nat.le_trans (List.length_filter_le _ _) ?_
  generalize (headE (nth E i) j).toNat = u
  rcases Nat.lt_or_ge u lv.length with c | c
  · exact (h.2 _ (R.nth_mem c)).1
  · have : nth lv u = [] := by unfold nth; rw [List.getD_eq_getElem?_getD, List.getElem?_eq_none c]; rfl
    rw [this]
    exact Nat.zero_le _
theorem off_rows {E : List Ed} {lv : List (List Int)} {k m : Nat} (h : WaysT k m lv) {n : Nat} : ∀ v, v ≤ n → off (rowsG E lv n) v ≤ 2 * k * v
  | 0, _ => by rw [off_zero]; exact Nat.zero_le _
  | v + 1, hv => by
    have h1 := off_rows h (E := E) (n := n) v (by omega)
    have h2 := off_succ (M := rowsG E lv n) (j := v) (by rw [rowsG_len]; omega)
    rw [rowsG_nth (by omega)] at h2
    have h3 := rowAt_le E h (v / 2) (v % 2)
    rw [Nat.mul_add, Nat.mul_one]
    generalize 2 * k * v = p at h1 ⊢
    omega
theorem turnL_next {E : List Ed} {is : Bool} {v : Int} {W : List Int} {q : Nat} (h : q < W.length) : turnL E is v (W.take (q + 1)) = turnL E is v (W.take q) ++ (if is && decide (v / 2 ≠ nth W q / 2) then [⟨(nth E (nth W q / 2).toNat).w, nth W q⟩] else []) := by
  unfold turnL
  rw [List.take_succ_eq_append_getElem h, List.filter_append, List.map_append, R.nth_eq h]
  congr 1
  by_cases c : (is && decide (v / 2 ≠ W[q] / 2)) = true
  · rw [if_pos c]; simp only [List.filter, c]; rfl
  · rw [if_neg c]; simp only [List.filter, Bool.eq_false_iff.2 c]; rfl
section
variable {C : R.CallH} {o : Oper} {f : R.Fr} {F : List Nat} {W0 w : World} {K : Value → World → Prop} {l : List R.Res} {x y : Operand} {a : Int} {b clk : Nat}
theorem WO_lk0 (hop : o.op = .lookup 52 x y false) (hx : R.ev f x = .map (some b)) (hy : R.ev f y = .int .i64 a) (ha : In64 a) (hM : R.Own F W0 w l) (hm : .map b #[] clk ∈ l) (hk : K (.agg #[.map none, .map none]) w) : R.WO Tryz.prog C o f w K := by
  have hi : Tryz.prog.underlying 3 = some (.int .i64) := by kernel_rfl
  have hb : w.heap[b]? = some (.map #[] clk) := hM.ok _ hm
  have h := Go.Maps.fit_look (P := Tryz.prog) (w := w) (R := fun _ => (none : Option (DataW Unit × List MemPlace))) false (Go.Maps.int_keyed hi) (show Tryz.prog.underlying 52 = some (.map 3 58) by kernel_rfl) (z := .agg #[.map none, .map none]) (by kernel_rfl) hb ⟨by simp, Go.MapKept.stamped_empty clk, by simp⟩ (Go.Maps.keyOf_int_mk hi (wf64a ha))
  rcases h with h | ⟨e0, y0, h1, _⟩
  · refine R.WO_val ?_ hk
    simp [execOp, hop, hx, hy, h.1]
  · simp at h1
end
end Go.Proofs.YtdiodefooipojaaGreat
namespace Go.Proofs.YtdiodefooipojaaGreat
open Go.RowKit
open R (In64 InU64 lo64 nth)

theorem nst_unfocus {T : Type} {e : TypeId} {sz : Nat} {enc : T → List Value} {F : List Nat} {W0 w : World} {M : List (R.Sl T)} {j : Nat} {pre : List R.Res} (hM : R.Own F W0 w (nst1 e sz enc (nth M j) :: (pre ++ (nst e sz enc (M.take j) ++ nst e sz enc (M.drop (j + 1)))))) (hj : j < M.length) : R.Own F W0 w (pre ++ nst e sz enc M) :=
  hM.perm ((List.Perm.append_left pre (nst_pick hj)).trans List.perm_middle)
theorem turnL_le (E : List Ed) (is : Bool) (v : Int) (W : List Int) : (turnL E is v W).length ≤ W.length := by
  unfold turnL
  rw [List.length_map]
  exact List.length_filter_le _ _
set_option maxHeartbeats 16000000 in
theorem of0_any (x : Nt) (w : World) (hG : GNt w x) (hb : netB x = true) (he : x.e.n ≤ 40) : Calls Tryz.prog 6 #[.agg (cNt x).toArray, .agg #[.slice none 0 0, .int .i64 0]] w fun e w' => ∃ g, IsG (2 * x.e.n) (rowsG x.e.L (leafF x.e.L x.s.n x.e.n) (2 * x.e.n)) g ∧ e = .returned (.tuple #[.agg (cGph g).toArray, .int .i64 0]) ∧ R.Own [] w w' (bRows g) := by
  have hM := R.Own.start [] w
  have hL := hG.lasts
  have hsn : x.s.n ≤ 200000 := (netB_iff.1 hb).1
  have i1 : R.ConB Tryz.prog 16 #[.agg (cNt x).toArray, .agg #[.slice none 0 0, .int .i64 0]] Unit (fun _ w => GNt w x) (fun _ => .bool true) := ⟨fun s w h => by
    have q := (con_bmay x ⟨⟨none, 0, 0, []⟩, 0⟩).h s w ⟨h, ⟨R.Inp.nil _ _ _ _, rfl, ⟨Nat.le_refl _, by decide⟩, fun y hy => (by cases hy)⟩, rfl⟩
    rw [rulesB_t ⟨hb, by show (0 : Nat) ≤ 2000; decide, by show (0 : Int) ≤ 0; decide, by show (0 : Int) ≤ 2; decide, fun i hi => absurd hi (Nat.not_lt_zero _)⟩] at q
    exact q⟩
  obtain ⟨⟨s1, s2, s3, -⟩, ⟨h1, h2, h3, -⟩, -⟩ := id hG
  refine R.calls_of_WC (fn := Tryz.f6) Tryz.func6 rfl Tryz.ntmps6 (Nat.le_of_ble_eq_true rfl) ?_
  (refine R.stepN ?_; (repeat' (first | (with_reducible refine And.intro ?_ ?_) | (with_reducible intro _))); all_goals refine R.Lft.mk ?_)
  rename_i gn _ _ gc _ _ go _ _ _ _ sA sc _ _ gg _ _ _ hM
  refine R.WC_planO [(0, false), (2, false), (4, false), (1, true), (3, true), (5, true), (6, false), (7, false), (8, false)] R.mixed (by decide +kernel) R.ohm ?_
  (refine R.stepN ?_; (repeat' (first | (with_reducible refine And.intro ?_ ?_) | (with_reducible intro _))); all_goals refine R.Lft.mk ?_)
  refine R.WO_call1 rfl rfl R.vv ?_
  refine (dead_any x _ (GNt.now R.ohm hG) hb).mono ?_
  rintro _ w2 ⟨D, cd, rfl, hGd⟩
  have hM := R.Own.give R.ohm hGd
  clear hGd
  first
    | refine ⟨_, rfl, hM, ?_⟩
    | refine ⟨_, rfl, ?_⟩
  (refine R.stepN ?_; (repeat' (first | (with_reducible refine And.intro ?_ ?_) | (with_reducible intro _))); all_goals refine R.Lft.mk ?_)
  refine R.WO_call1 rfl rfl R.vv ?_
  refine (leaves_any x _ (GNt.now R.ohm hG) hb).mono ?_
  rintro _ w3 ⟨A, Ms, rfl, hMn, hMf, hO⟩
  have hM := R.Own.giveN R.ohm hO
  clear hO
  simp only [List.cons_append, List.nil_append] at hM
  first
    | refine ⟨_, rfl, hM, ?_⟩
    | refine ⟨_, rfl, ?_⟩
  (refine R.stepN ?_; (repeat' (first | (with_reducible refine And.intro ?_ ?_) | (with_reducible intro _))); all_goals refine R.Lft.mk ?_)
  refine R.WO_call1 rfl rfl R.vv ?_
  refine (sorted0 0 _).mono ?_
  rintro _ w4 ⟨b, rfl, hO⟩
  have hM := (R.Own.giveN R.ohm hO).perm List.perm_append_comm
  clear hO
  simp only [List.cons_append, List.nil_append] at hM
  refine ⟨_, rfl, R.Own.tl (R.Own.tl (R.Own.sub hM (List.sublist_append_left [_, _, _, _, _, _, _] _))), ?_⟩
  (refine R.stepN ?_; (repeat' (first | (with_reducible refine And.intro ?_ ?_) | (with_reducible intro _))); all_goals refine R.Lft.mk ?_)
  obtain ⟨m, hm⟩ : ∃ m, x.s.n = m := ⟨_, rfl⟩
  have hMl : Ms.length = m := by
    have := (leafF_ok x.e.L x.s.n x.e.n).1
    rw [← hMf, List.length_map, hm] at this
    exact this
  obtain ⟨lv, hlv⟩ : ∃ lv, leafF x.e.L x.s.n x.e.n = lv := ⟨_, rfl⟩
  have hw : WaysT x.e.n m lv := by rw [← hlv, ← hm]; exact leafF_ok x.e.L x.s.n x.e.n
  obtain ⟨M, hMM⟩ : ∃ M, rowsG x.e.L lv (2 * x.e.n) = M := ⟨_, rfl⟩
  have hML : M.length = 2 * x.e.n := by rw [← hMM, rowsG_len]
  have hab : ∀ i, i < x.e.n → 0 ≤ (nth x.e.L i).a ∧ (nth x.e.L i).a < (m : Nat) ∧ 0 ≤ (nth x.e.L i).b ∧ (nth x.e.L i).b < (m : Nat) := fun i hi => by
    obtain ⟨q1, q2, q3, _⟩ := (netB_iff.1 hb).2.2.2.2.1 i hi
    omega
  rw [hlv, hMM]
  rw [hlv] at hMf
  rw [hm] at hM hsn ⊢
  have hM := R.Own.nil (R.Own.nil (R.pk (r := .row sA _ _ _ _ _) (R.pk (r := .blk gg _ _) hM)) 3 1) 3 1
  refine R.WC_loop (fun i : Nat × Option Addr × Option Addr × Option Addr × Nat × Nat × Nat => [(2, .pointer (some ⟨gn, 0, none⟩)), (3, .pointer (some ⟨gc, 0, none⟩)), (4, .pointer (some ⟨go, 0, none⟩)), (5, .int .i64 0), (6, .pointer (some ⟨gg, 0, none⟩)), (7, .slice D m cd), (8, .slice A m m), (9, .map (some b)), (42, .slice x.e.A x.e.n x.e.c), (43, .int .i64 (x.e.n : Nat)), (44, .int .i64 (i.1 : Nat))])
    (fun i w2 => i.1 ≤ x.e.n ∧ R.Own [] w w2 (gRes gg i.2.1 i.2.2.1 i.2.2.2.1 (stM M (2 * i.1)) (hdM M (2 * i.1)) (wtM M (2 * i.1)) i.2.2.2.2.1 i.2.2.2.2.2.1 i.2.2.2.2.2.2 ++ (.map b #[] 0 :: .row D m cd 4 1 ((deadL x.e.L m x.e.n).flatMap R.cB) :: .blk go 34 [.slice none 0 0, .slice none 0 0, .slice none 0 0] :: .blk gc 29 [.slice none 0 0, .int .i64 0] :: .blk gn 26 (cNt x) :: .row A m m 32 1 (Ms.flatMap R.cSl) :: nst 3 1 R.cI Ms))) (fun i => x.e.n - i.1)
    ⟨(0, sA, none, none, sc, 0, 0), ⟨rfl, rfl, rfl, rfl, rfl, rfl, rfl, rfl, rfl, rfl, rfl, trivial⟩, Nat.zero_le _, hM⟩ ?_
  clear hM
  rintro ⟨i, sA, hA, wA, sc, hc, wc⟩ f w5 ⟨hi, hM⟩
  dsimp only at hi hM ⊢
  by_cases hlt : i < x.e.n
  · obtain ⟨a1, a2, b1, b2⟩ := hab i hlt
    have hO : ∀ v, v ≤ 2 * x.e.n → off M v ≤ 6400 := fun v hv => by
      have h1 := off_rows (E := x.e.L) (n := 2 * x.e.n) hw v hv
      rw [hMM] at h1
      have h2 : 2 * x.e.n * v ≤ 80 * 80 := Nat.mul_le_mul (by omega) (by omega)
      omega
    (refine R.stepN ?_; (repeat' (first | (with_reducible refine And.intro ?_ ?_) | (with_reducible intro _))); all_goals refine R.Lft.mk ?_)
    rename_i ge _ _ _ _ gB cB _ hM
    have hM : R.Own [] w _ (gRes gg sA hA wA (stM M (2 * i)) (hdM M (2 * i)) (wtM M (2 * i)) sc hc wc ++ ([.row gB 2 cB 4 1 ([(nth x.e.L i).f, (nth x.e.L i).k].flatMap R.cB), .blk ge 55 (cEd (nth x.e.L i))] ++ (.map b #[] 0 :: .row D m cd 4 1 ((deadL x.e.L m x.e.n).flatMap R.cB) :: .blk go 34 [.slice none 0 0, .slice none 0 0, .slice none 0 0] :: .blk gc 29 [.slice none 0 0, .int .i64 0] :: .blk gn 26 (cNt x) :: .row A m m 32 1 (Ms.flatMap R.cSl) :: nst 3 1 R.cI Ms))) := R.Own.perm hM (List.perm_append_comm_assoc _ [_, _] _)
    refine R.WC_loop (fun j : Nat × Option Addr × Option Addr × Option Addr × Nat × Nat × Nat => [(2, .pointer (some ⟨gn, 0, none⟩)), (3, .pointer (some ⟨gc, 0, none⟩)), (4, .pointer (some ⟨go, 0, none⟩)), (5, .int .i64 0), (6, .pointer (some ⟨gg, 0, none⟩)), (7, .slice D m cd), (8, .slice A m m), (9, .map (some b)), (42, .slice x.e.A x.e.n x.e.c), (43, .int .i64 (x.e.n : Nat)), (44, .int .i64 (i : Nat)), (10, .int .i64 (i : Nat)), (11, .pointer (some ⟨ge, 0, none⟩)), (53, .slice gB 2 cB), (54, .int .i64 2), (55, .int .i64 (j.1 : Nat))])
      (fun j w2 => j.1 ≤ 2 ∧ R.Own [] w w2 (gRes gg j.2.1 j.2.2.1 j.2.2.2.1 (stM M (2 * i + j.1)) (hdM M (2 * i + j.1)) (wtM M (2 * i + j.1)) j.2.2.2.2.1 j.2.2.2.2.2.1 j.2.2.2.2.2.2 ++ (.row gB 2 cB 4 1 ([(nth x.e.L i).f, (nth x.e.L i).k].flatMap R.cB) :: .blk ge 55 (cEd (nth x.e.L i)) :: .map b #[] 0 :: .row D m cd 4 1 ((deadL x.e.L m x.e.n).flatMap R.cB) :: .blk go 34 [.slice none 0 0, .slice none 0 0, .slice none 0 0] :: .blk gc 29 [.slice none 0 0, .int .i64 0] :: .blk gn 26 (cNt x) :: .row A m m 32 1 (Ms.flatMap R.cSl) :: nst 3 1 R.cI Ms))) (fun j => 2 - j.1)
      ⟨(0, sA, hA, wA, sc, hc, wc), ⟨rfl, rfl, rfl, rfl, rfl, rfl, rfl, rfl, rfl, rfl, rfl, rfl, rfl, rfl, rfl, rfl, trivial⟩, Nat.zero_le _, hM⟩ ?_
    clear hM
    rintro ⟨j, sA, hA, wA, sc, hc, wc⟩ f w6 ⟨hj, hM⟩
    dsimp only at hj hM ⊢
    have hsl := stM_len M (2 * i + j)
    have hhl := hdM_len (M := M) (k := 2 * i + j) (by omega)
    have hwl := wtM_len (M := M) (k := 2 * i + j) (by omega)
    have hMc : R.Own [] w w6 (.row hA (hdM M (2 * i + j)).length hc 3 1 ((hdM M (2 * i + j)).flatMap R.cI) :: .row wA (wtM M (2 * i + j)).length wc 3 1 ((wtM M (2 * i + j)).flatMap R.cI) :: .row sA (stM M (2 * i + j)).length sc 3 1 ((stM M (2 * i + j)).flatMap R.cI) :: .blk gg 34 [.slice sA (stM M (2 * i + j)).length sc, .slice hA (hdM M (2 * i + j)).length hc, .slice wA (wtM M (2 * i + j)).length wc] :: .row gB 2 cB 4 1 ([(nth x.e.L i).f, (nth x.e.L i).k].flatMap R.cB) :: .blk ge 55 (cEd (nth x.e.L i)) :: .map b #[] 0 :: .row D m cd 4 1 ((deadL x.e.L m x.e.n).flatMap R.cB) :: .blk go 34 [.slice none 0 0, .slice none 0 0, .slice none 0 0] :: .blk gc 29 [.slice none 0 0, .int .i64 0] :: .blk gn 26 (cNt x) :: .row A m m 32 1 (Ms.flatMap R.cSl) :: nst 3 1 R.cI Ms) := hM
    by_cases hj2 : j < 2
    · have hof := hO (2 * i + j) (by omega)
      obtain ⟨is, his⟩ : ∃ is, nth [(nth x.e.L i).f, (nth x.e.L i).k] j = is := ⟨_, rfl⟩
      have hisE : isE (nth x.e.L i) j = is := by
        rw [← his]
        rcases (show j = 0 ∨ j = 1 by omega) with rfl | rfl <;> rfl
      clear hM
      by_cases hj1 : j = 1
      · have hNM : (nth x.e.L i).a.toNat < Ms.length := by omega
        have hWn := hMn _ (R.nth_mem hNM)
        have hWE : nth lv (nth x.e.L i).a.toNat = (nth Ms (nth x.e.L i).a.toNat).L := by rw [← hMf]; exact nth_mapF hNM
        have hWb := hw.2 _ (R.nth_mem (L := lv) (i := (nth x.e.L i).a.toNat) (by rw [hw.1]; omega))
        rw [hWE] at hWb
        obtain ⟨hWc, hWb⟩ := hWb
        have hrow : nth M (2 * i + j) = turnL x.e.L is (2 * (i : Nat) + (j : Nat)) (nth Ms (nth x.e.L i).a.toNat).L := by
          rw [← hMM, rowsG_nth (by omega), show (2 * i + j) / 2 = i by omega, show (2 * i + j) % 2 = j by omega]
          unfold rowAt
          rw [hisE, show headE (nth x.e.L i) j = (nth x.e.L i).a by unfold headE; simp [hj1], hWE]
        (refine R.stepN ?_; (repeat' (first | (with_reducible refine And.intro ?_ ?_) | (with_reducible intro _))); all_goals refine R.Lft.mk ?_)
        have hM := nst_focus (pre := [.row none 0 0 61 2 [], .row hA (hdM M (2 * i + j)).length hc 3 1 ((hdM M (2 * i + j)).flatMap R.cI), .row wA (wtM M (2 * i + j)).length wc 3 1 ((wtM M (2 * i + j)).flatMap R.cI), .row sA (stM M (2 * i + j)).length sc 3 1 ((stM M (2 * i + j)).flatMap R.cI), .blk gg 34 [.slice sA (stM M (2 * i + j)).length sc, .slice hA (hdM M (2 * i + j)).length hc, .slice wA (wtM M (2 * i + j)).length wc], .row gB 2 cB 4 1 ([(nth x.e.L i).f, (nth x.e.L i).k].flatMap R.cB), .blk ge 55 (cEd (nth x.e.L i)), .map b #[] 0, .row D m cd 4 1 ((deadL x.e.L m x.e.n).flatMap R.cB), .blk go 34 [.slice none 0 0, .slice none 0 0, .slice none 0 0], .blk gc 29 [.slice none 0 0, .int .i64 0], .blk gn 26 (cNt x), .row A m m 32 1 (Ms.flatMap R.cSl)]) (R.Own.nil (show R.Own [] w _ (.row hA (hdM M (2 * i + j)).length hc 3 1 ((hdM M (2 * i + j)).flatMap R.cI) :: .row wA (wtM M (2 * i + j)).length wc 3 1 ((wtM M (2 * i + j)).flatMap R.cI) :: .row sA (stM M (2 * i + j)).length sc 3 1 ((stM M (2 * i + j)).flatMap R.cI) :: .blk gg 34 [.slice sA (stM M (2 * i + j)).length sc, .slice hA (hdM M (2 * i + j)).length hc, .slice wA (wtM M (2 * i + j)).length wc] :: .row gB 2 cB 4 1 ([(nth x.e.L i).f, (nth x.e.L i).k].flatMap R.cB) :: .blk ge 55 (cEd (nth x.e.L i)) :: .map b #[] 0 :: .row D m cd 4 1 ((deadL x.e.L m x.e.n).flatMap R.cB) :: .blk go 34 [.slice none 0 0, .slice none 0 0, .slice none 0 0] :: .blk gc 29 [.slice none 0 0, .int .i64 0] :: .blk gn 26 (cNt x) :: .row A m m 32 1 (Ms.flatMap R.cSl) :: nst 3 1 R.cI Ms) from R.ohm) 61 2) hNM
        refine R.WC_loop (fun q : Nat × Option Addr × Nat => [(2, .pointer (some ⟨gn, 0, none⟩)), (3, .pointer (some ⟨gc, 0, none⟩)), (4, .pointer (some ⟨go, 0, none⟩)), (5, .int .i64 0), (6, .pointer (some ⟨gg, 0, none⟩)), (7, .slice D m cd), (8, .slice A m m), (9, .map (some b)), (42, .slice x.e.A x.e.n x.e.c), (43, .int .i64 (x.e.n : Nat)), (44, .int .i64 (i : Nat)), (10, .int .i64 (i : Nat)), (11, .pointer (some ⟨ge, 0, none⟩)), (53, .slice gB 2 cB), (54, .int .i64 2), (55, .int .i64 (j : Nat)), (12, .int .i64 (j : Nat)), (13, .bool is), (14, .int .i64 (2 * (i : Nat) + (j : Nat))), (15, .int .i64 (nth x.e.L i).a), (16, .bool false), (17, .slice q.2.1 (turnL x.e.L is (2 * (i : Nat) + (j : Nat)) ((nth Ms (nth x.e.L i).a.toNat).L.take q.1)).length q.2.2), (87, .slice (nth Ms (nth x.e.L i).a.toNat).A (nth Ms (nth x.e.L i).a.toNat).n (nth Ms (nth x.e.L i).a.toNat).c), (88, .int .i64 ((nth Ms (nth x.e.L i).a.toNat).n : Nat)), (89, .int .i64 (q.1 : Nat))])
          (fun q w2 => q.1 ≤ (nth Ms (nth x.e.L i).a.toNat).n ∧ R.Own [] w w2 (.row (nth Ms (nth x.e.L i).a.toNat).A (nth Ms (nth x.e.L i).a.toNat).n (nth Ms (nth x.e.L i).a.toNat).c 3 1 ((nth Ms (nth x.e.L i).a.toNat).L.flatMap R.cI) :: .row q.2.1 (turnL x.e.L is (2 * (i : Nat) + (j : Nat)) ((nth Ms (nth x.e.L i).a.toNat).L.take q.1)).length q.2.2 61 2 ((turnL x.e.L is (2 * (i : Nat) + (j : Nat)) ((nth Ms (nth x.e.L i).a.toNat).L.take q.1)).flatMap cItem) :: .row hA (hdM M (2 * i + j)).length hc 3 1 ((hdM M (2 * i + j)).flatMap R.cI) :: .row wA (wtM M (2 * i + j)).length wc 3 1 ((wtM M (2 * i + j)).flatMap R.cI) :: .row sA (stM M (2 * i + j)).length sc 3 1 ((stM M (2 * i + j)).flatMap R.cI) :: .blk gg 34 [.slice sA (stM M (2 * i + j)).length sc, .slice hA (hdM M (2 * i + j)).length hc, .slice wA (wtM M (2 * i + j)).length wc] :: .row gB 2 cB 4 1 ([(nth x.e.L i).f, (nth x.e.L i).k].flatMap R.cB) :: .blk ge 55 (cEd (nth x.e.L i)) :: .map b #[] 0 :: .row D m cd 4 1 ((deadL x.e.L m x.e.n).flatMap R.cB) :: .blk go 34 [.slice none 0 0, .slice none 0 0, .slice none 0 0] :: .blk gc 29 [.slice none 0 0, .int .i64 0] :: .blk gn 26 (cNt x) :: .row A m m 32 1 (Ms.flatMap R.cSl) :: (nst 3 1 R.cI (Ms.take (nth x.e.L i).a.toNat) ++ nst 3 1 R.cI (Ms.drop ((nth x.e.L i).a.toNat + 1))))) (fun q => (nth Ms (nth x.e.L i).a.toNat).n - q.1)
          ⟨(0, none, 0), ⟨rfl, rfl, rfl, rfl, rfl, rfl, rfl, rfl, rfl, rfl, rfl, rfl, rfl, rfl, rfl, rfl, rfl, R.viaB rfl his, rfl, rfl, rfl, rfl, rfl, rfl, rfl, trivial⟩, Nat.zero_le _, hM⟩ ?_
        clear hM
        rintro ⟨q, la, lc⟩ f w7 ⟨hq, hM⟩
        dsimp only at hq hM ⊢
        by_cases hql : q < (nth Ms (nth x.e.L i).a.toNat).n
        · obtain ⟨y1, y2⟩ := hWb _ (R.nth_mem (L := (nth Ms (nth x.e.L i).a.toNat).L) (i := q) (by omega))
          have hnx := turnL_next (E := x.e.L) (is := is) (v := 2 * ((i : Nat) : Int) + ((j : Nat) : Int)) (W := (nth Ms (nth x.e.L i).a.toNat).L) (q := q) (by omega)
          have htl := turnL_le x.e.L is (2 * ((i : Nat) : Int) + ((j : Nat) : Int)) ((nth Ms (nth x.e.L i).a.toNat).L.take q)
          rw [List.length_take] at htl
          cases is with
          | false =>
            rw [Bool.false_and, if_neg (by decide), List.append_nil] at hnx
            (refine R.stepN ?_; (repeat' (first | (with_reducible refine And.intro ?_ ?_) | (with_reducible intro _))); all_goals refine R.Lft.mk ?_)
            refine ⟨(q + 1, la, lc), ⟨rfl, rfl, rfl, rfl, rfl, rfl, rfl, rfl, rfl, rfl, rfl, rfl, rfl, rfl, rfl, rfl, rfl, rfl, rfl, rfl, rfl, R.viaS rfl (by dsimp only; rw [hnx]), rfl, rfl, R.viaI rfl (by dsimp only; omega), trivial⟩, ⟨by dsimp only; omega, by dsimp only; rw [hnx]; exact R.ohm⟩, by dsimp only; omega⟩
          | true =>
            (refine R.stepN ?_; (repeat' (first | (with_reducible refine And.intro ?_ ?_) | (with_reducible intro _))); all_goals refine R.Lft.mk ?_)
            refine WO_lk0 rfl rfl rfl (by unfold In64; omega) R.ohm R.memb ?_
            (refine R.stepN ?_; (repeat' (first | (with_reducible refine And.intro ?_ ?_) | (with_reducible intro _))); all_goals refine R.Lft.mk ?_)
            refine R.WO_call4 rfl rfl R.vv R.vv R.vv R.vv ?_
            refine (rules0 (2 * ((i : Nat) : Int) + ((j : Nat) : Int)) (nth (nth Ms (nth x.e.L i).a.toNat).L q) false _ (by omega) (by omega) (by unfold In64; omega) (by unfold In64; omega)).mono ?_
            rintro _ w8 ⟨rfl, hb8⟩
            have hM := R.Own.call R.ohm hb8
            refine ⟨_, rfl, ?_⟩
            rw [Bool.or_false]
            by_cases hcc : (2 * ((i : Nat) : Int) + ((j : Nat) : Int)) / 2 ≠ nth (nth Ms (nth x.e.L i).a.toNat).L q / 2
            · rw [Bool.true_and, if_pos (decide_eq_true hcc)] at hnx
              rw [decide_eq_true hcc]
              (refine R.stepN ?_; (repeat' (first | (with_reducible refine And.intro ?_ ?_) | (with_reducible intro _))); all_goals refine R.Lft.mk ?_)
              rename_i la2 lc2 _ hM
              have eln : (turnL x.e.L true (2 * ((i : Nat) : Int) + ((j : Nat) : Int)) ((nth Ms (nth x.e.L i).a.toNat).L.take q)).length + 1 = (turnL x.e.L true (2 * ((i : Nat) : Int) + ((j : Nat) : Int)) ((nth Ms (nth x.e.L i).a.toNat).L.take (q + 1))).length := by rw [hnx, List.length_append]; rfl
              rw [eln, ← hnx] at hM
              refine ⟨(q + 1, la2, lc2), ⟨rfl, rfl, rfl, rfl, rfl, rfl, rfl, rfl, rfl, rfl, rfl, rfl, rfl, rfl, rfl, rfl, rfl, rfl, rfl, rfl, rfl, R.viaS rfl (by dsimp only; rw [hnx, List.length_append]; rfl), rfl, rfl, R.viaI rfl (by dsimp only; omega), trivial⟩, ⟨by dsimp only; omega, hM⟩, by dsimp only; omega⟩
            · rw [Bool.true_and, if_neg (by rw [decide_eq_true_eq]; exact hcc), List.append_nil] at hnx
              rw [decide_eq_false hcc]
              (refine R.stepN ?_; (repeat' (first | (with_reducible refine And.intro ?_ ?_) | (with_reducible intro _))); all_goals refine R.Lft.mk ?_)
              refine ⟨(q + 1, la, lc), ⟨rfl, rfl, rfl, rfl, rfl, rfl, rfl, rfl, rfl, rfl, rfl, rfl, rfl, rfl, rfl, rfl, rfl, rfl, rfl, rfl, rfl, R.viaS rfl (by dsimp only; rw [hnx]), rfl, rfl, R.viaI rfl (by dsimp only; omega), trivial⟩, ⟨by dsimp only; omega, by dsimp only; rw [hnx]; exact hM⟩, by dsimp only; omega⟩
        · obtain rfl : q = (nth Ms (nth x.e.L i).a.toNat).n := by omega
          rw [show (nth Ms (nth x.e.L i).a.toNat).L.take (nth Ms (nth x.e.L i).a.toNat).n = (nth Ms (nth x.e.L i).a.toNat).L by rw [hWn]; exact List.take_length, ← hrow] at hM ⊢
          (refine R.stepN ?_; (repeat' (first | (with_reducible refine And.intro ?_ ?_) | (with_reducible intro _))); all_goals refine R.Lft.mk ?_)
          have hM := nst_unfocus (pre := [.row la (nth M (2 * i + j)).length lc 61 2 ((nth M (2 * i + j)).flatMap cItem), .row hA (hdM M (2 * i + j)).length hc 3 1 ((hdM M (2 * i + j)).flatMap R.cI), .row wA (wtM M (2 * i + j)).length wc 3 1 ((wtM M (2 * i + j)).flatMap R.cI), .row sA (stM M (2 * i + j)).length sc 3 1 ((stM M (2 * i + j)).flatMap R.cI), .blk gg 34 [.slice sA (stM M (2 * i + j)).length sc, .slice hA (hdM M (2 * i + j)).length hc, .slice wA (wtM M (2 * i + j)).length wc], .row gB 2 cB 4 1 ([(nth x.e.L i).f, (nth x.e.L i).k].flatMap R.cB), .blk ge 55 (cEd (nth x.e.L i)), .map b #[] 0, .row D m cd 4 1 ((deadL x.e.L m x.e.n).flatMap R.cB), .blk go 34 [.slice none 0 0, .slice none 0 0, .slice none 0 0], .blk gc 29 [.slice none 0 0, .int .i64 0], .blk gn 26 (cNt x), .row A m m 32 1 (Ms.flatMap R.cSl)]) hM hNM
          have hP : R.Own [] w _ ((.row la (nth M (2 * i + j)).length lc 61 2 ((nth M (2 * i + j)).flatMap cItem) :: .row gB 2 cB 4 1 ([(nth x.e.L i).f, (nth x.e.L i).k].flatMap R.cB) :: .blk ge 55 (cEd (nth x.e.L i)) :: .map b #[] 0 :: .row D m cd 4 1 ((deadL x.e.L m x.e.n).flatMap R.cB) :: .blk go 34 [.slice none 0 0, .slice none 0 0, .slice none 0 0] :: .blk gc 29 [.slice none 0 0, .int .i64 0] :: .blk gn 26 (cNt x) :: .row A m m 32 1 (Ms.flatMap R.cSl) :: nst 3 1 R.cI Ms) ++ gRes gg sA hA wA (stM M (2 * i + j)) (hdM M (2 * i + j)) (wtM M (2 * i + j)) sc hc wc) := R.Own.perm hM (List.Perm.cons _ List.perm_append_comm)
          clear hM
          refine R.WO_call2 rfl rfl R.vv R.vv ?_
          have ho2 := off_succ (M := M) (j := 2 * i + j) (by omega)
          have hof2 := hO (2 * i + j + 1) (by omega)
          refine (aadd_any gg sA hA wA _ _ _ sc hc wc ⟨la, (nth M (2 * i + j)).length, lc, nth M (2 * i + j)⟩ _ (R.Own.has hP) (R.Own.inpF hP (.head _)) rfl (by omega) (by omega) (by omega) (by dsimp only; omega)).mono ?_
          rintro _ w8 ⟨rfl, sA2, hA2, wA2, sc2, hc2, wc2, hO8⟩
          have hM := R.Own.callF hP hO8
          clear hP hO8
          have hs2 := stM_succ M (2 * i + j)
          rw [ho2, ← hhl] at hs2
          rw [← hs2, ← hdM_succ (by omega), ← wtM_succ (by omega)] at hM
          refine ⟨_, rfl, ?_⟩
          have hM := (R.Own.tl hM).perm List.perm_append_comm
          (refine R.stepN ?_; (repeat' (first | (with_reducible refine And.intro ?_ ?_) | (with_reducible intro _))); all_goals refine R.Lft.mk ?_)
          exact ⟨(j + 1, sA2, hA2, wA2, sc2, hc2, wc2), ⟨rfl, rfl, rfl, rfl, rfl, rfl, rfl, rfl, rfl, rfl, rfl, rfl, rfl, rfl, rfl, R.viaI rfl (by dsimp only; omega), trivial⟩, ⟨by dsimp only; omega, hM⟩, by dsimp only; omega⟩
      · have hNM : (nth x.e.L i).b.toNat < Ms.length := by omega
        have hWn := hMn _ (R.nth_mem hNM)
        have hWE : nth lv (nth x.e.L i).b.toNat = (nth Ms (nth x.e.L i).b.toNat).L := by rw [← hMf]; exact nth_mapF hNM
        have hWb := hw.2 _ (R.nth_mem (L := lv) (i := (nth x.e.L i).b.toNat) (by rw [hw.1]; omega))
        rw [hWE] at hWb
        obtain ⟨hWc, hWb⟩ := hWb
        have hrow : nth M (2 * i + j) = turnL x.e.L is (2 * (i : Nat) + (j : Nat)) (nth Ms (nth x.e.L i).b.toNat).L := by
          rw [← hMM, rowsG_nth (by omega), show (2 * i + j) / 2 = i by omega, show (2 * i + j) % 2 = j by omega]
          unfold rowAt
          rw [hisE, show headE (nth x.e.L i) j = (nth x.e.L i).b by unfold headE; simp [hj1], hWE]
        (refine R.stepN ?_; (repeat' (first | (with_reducible refine And.intro ?_ ?_) | (with_reducible intro _))); all_goals refine R.Lft.mk ?_)
        have hM := nst_focus (pre := [.row none 0 0 61 2 [], .row hA (hdM M (2 * i + j)).length hc 3 1 ((hdM M (2 * i + j)).flatMap R.cI), .row wA (wtM M (2 * i + j)).length wc 3 1 ((wtM M (2 * i + j)).flatMap R.cI), .row sA (stM M (2 * i + j)).length sc 3 1 ((stM M (2 * i + j)).flatMap R.cI), .blk gg 34 [.slice sA (stM M (2 * i + j)).length sc, .slice hA (hdM M (2 * i + j)).length hc, .slice wA (wtM M (2 * i + j)).length wc], .row gB 2 cB 4 1 ([(nth x.e.L i).f, (nth x.e.L i).k].flatMap R.cB), .blk ge 55 (cEd (nth x.e.L i)), .map b #[] 0, .row D m cd 4 1 ((deadL x.e.L m x.e.n).flatMap R.cB), .blk go 34 [.slice none 0 0, .slice none 0 0, .slice none 0 0], .blk gc 29 [.slice none 0 0, .int .i64 0], .blk gn 26 (cNt x), .row A m m 32 1 (Ms.flatMap R.cSl)]) (R.Own.nil (show R.Own [] w _ (.row hA (hdM M (2 * i + j)).length hc 3 1 ((hdM M (2 * i + j)).flatMap R.cI) :: .row wA (wtM M (2 * i + j)).length wc 3 1 ((wtM M (2 * i + j)).flatMap R.cI) :: .row sA (stM M (2 * i + j)).length sc 3 1 ((stM M (2 * i + j)).flatMap R.cI) :: .blk gg 34 [.slice sA (stM M (2 * i + j)).length sc, .slice hA (hdM M (2 * i + j)).length hc, .slice wA (wtM M (2 * i + j)).length wc] :: .row gB 2 cB 4 1 ([(nth x.e.L i).f, (nth x.e.L i).k].flatMap R.cB) :: .blk ge 55 (cEd (nth x.e.L i)) :: .map b #[] 0 :: .row D m cd 4 1 ((deadL x.e.L m x.e.n).flatMap R.cB) :: .blk go 34 [.slice none 0 0, .slice none 0 0, .slice none 0 0] :: .blk gc 29 [.slice none 0 0, .int .i64 0] :: .blk gn 26 (cNt x) :: .row A m m 32 1 (Ms.flatMap R.cSl) :: nst 3 1 R.cI Ms) from R.ohm) 61 2) hNM
        refine R.WC_loop (fun q : Nat × Option Addr × Nat => [(2, .pointer (some ⟨gn, 0, none⟩)), (3, .pointer (some ⟨gc, 0, none⟩)), (4, .pointer (some ⟨go, 0, none⟩)), (5, .int .i64 0), (6, .pointer (some ⟨gg, 0, none⟩)), (7, .slice D m cd), (8, .slice A m m), (9, .map (some b)), (42, .slice x.e.A x.e.n x.e.c), (43, .int .i64 (x.e.n : Nat)), (44, .int .i64 (i : Nat)), (10, .int .i64 (i : Nat)), (11, .pointer (some ⟨ge, 0, none⟩)), (53, .slice gB 2 cB), (54, .int .i64 2), (55, .int .i64 (j : Nat)), (12, .int .i64 (j : Nat)), (13, .bool is), (14, .int .i64 (2 * (i : Nat) + (j : Nat))), (15, .int .i64 (nth x.e.L i).b), (16, .bool false), (17, .slice q.2.1 (turnL x.e.L is (2 * (i : Nat) + (j : Nat)) ((nth Ms (nth x.e.L i).b.toNat).L.take q.1)).length q.2.2), (87, .slice (nth Ms (nth x.e.L i).b.toNat).A (nth Ms (nth x.e.L i).b.toNat).n (nth Ms (nth x.e.L i).b.toNat).c), (88, .int .i64 ((nth Ms (nth x.e.L i).b.toNat).n : Nat)), (89, .int .i64 (q.1 : Nat))])
          (fun q w2 => q.1 ≤ (nth Ms (nth x.e.L i).b.toNat).n ∧ R.Own [] w w2 (.row (nth Ms (nth x.e.L i).b.toNat).A (nth Ms (nth x.e.L i).b.toNat).n (nth Ms (nth x.e.L i).b.toNat).c 3 1 ((nth Ms (nth x.e.L i).b.toNat).L.flatMap R.cI) :: .row q.2.1 (turnL x.e.L is (2 * (i : Nat) + (j : Nat)) ((nth Ms (nth x.e.L i).b.toNat).L.take q.1)).length q.2.2 61 2 ((turnL x.e.L is (2 * (i : Nat) + (j : Nat)) ((nth Ms (nth x.e.L i).b.toNat).L.take q.1)).flatMap cItem) :: .row hA (hdM M (2 * i + j)).length hc 3 1 ((hdM M (2 * i + j)).flatMap R.cI) :: .row wA (wtM M (2 * i + j)).length wc 3 1 ((wtM M (2 * i + j)).flatMap R.cI) :: .row sA (stM M (2 * i + j)).length sc 3 1 ((stM M (2 * i + j)).flatMap R.cI) :: .blk gg 34 [.slice sA (stM M (2 * i + j)).length sc, .slice hA (hdM M (2 * i + j)).length hc, .slice wA (wtM M (2 * i + j)).length wc] :: .row gB 2 cB 4 1 ([(nth x.e.L i).f, (nth x.e.L i).k].flatMap R.cB) :: .blk ge 55 (cEd (nth x.e.L i)) :: .map b #[] 0 :: .row D m cd 4 1 ((deadL x.e.L m x.e.n).flatMap R.cB) :: .blk go 34 [.slice none 0 0, .slice none 0 0, .slice none 0 0] :: .blk gc 29 [.slice none 0 0, .int .i64 0] :: .blk gn 26 (cNt x) :: .row A m m 32 1 (Ms.flatMap R.cSl) :: (nst 3 1 R.cI (Ms.take (nth x.e.L i).b.toNat) ++ nst 3 1 R.cI (Ms.drop ((nth x.e.L i).b.toNat + 1))))) (fun q => (nth Ms (nth x.e.L i).b.toNat).n - q.1)
          ⟨(0, none, 0), ⟨rfl, rfl, rfl, rfl, rfl, rfl, rfl, rfl, rfl, rfl, rfl, rfl, rfl, rfl, rfl, rfl, rfl, R.viaB rfl his, rfl, rfl, rfl, rfl, rfl, rfl, rfl, trivial⟩, Nat.zero_le _, hM⟩ ?_
        clear hM
        rintro ⟨q, la, lc⟩ f w7 ⟨hq, hM⟩
        dsimp only at hq hM ⊢
        by_cases hql : q < (nth Ms (nth x.e.L i).b.toNat).n
        · obtain ⟨y1, y2⟩ := hWb _ (R.nth_mem (L := (nth Ms (nth x.e.L i).b.toNat).L) (i := q) (by omega))
          have hnx := turnL_next (E := x.e.L) (is := is) (v := 2 * ((i : Nat) : Int) + ((j : Nat) : Int)) (W := (nth Ms (nth x.e.L i).b.toNat).L) (q := q) (by omega)
          have htl := turnL_le x.e.L is (2 * ((i : Nat) : Int) + ((j : Nat) : Int)) ((nth Ms (nth x.e.L i).b.toNat).L.take q)
          rw [List.length_take] at htl
          cases is with
          | false =>
            rw [Bool.false_and, if_neg (by decide), List.append_nil] at hnx
            (refine R.stepN ?_; (repeat' (first | (with_reducible refine And.intro ?_ ?_) | (with_reducible intro _))); all_goals refine R.Lft.mk ?_)
            refine ⟨(q + 1, la, lc), ⟨rfl, rfl, rfl, rfl, rfl, rfl, rfl, rfl, rfl, rfl, rfl, rfl, rfl, rfl, rfl, rfl, rfl, rfl, rfl, rfl, rfl, R.viaS rfl (by dsimp only; rw [hnx]), rfl, rfl, R.viaI rfl (by dsimp only; omega), trivial⟩, ⟨by dsimp only; omega, by dsimp only; rw [hnx]; exact R.ohm⟩, by dsimp only; omega⟩
          | true =>
            (refine R.stepN ?_; (repeat' (first | (with_reducible refine And.intro ?_ ?_) | (with_reducible intro _))); all_goals refine R.Lft.mk ?_)
            refine WO_lk0 rfl rfl rfl (by unfold In64; omega) R.ohm R.memb ?_
            (refine R.stepN ?_; (repeat' (first | (with_reducible refine And.intro ?_ ?_) | (with_reducible intro _))); all_goals refine R.Lft.mk ?_)
            refine R.WO_call4 rfl rfl R.vv R.vv R.vv R.vv ?_
            refine (rules0 (2 * ((i : Nat) : Int) + ((j : Nat) : Int)) (nth (nth Ms (nth x.e.L i).b.toNat).L q) false _ (by omega) (by omega) (by unfold In64; omega) (by unfold In64; omega)).mono ?_
            rintro _ w8 ⟨rfl, hb8⟩
            have hM := R.Own.call R.ohm hb8
            refine ⟨_, rfl, ?_⟩
            rw [Bool.or_false]
            by_cases hcc : (2 * ((i : Nat) : Int) + ((j : Nat) : Int)) / 2 ≠ nth (nth Ms (nth x.e.L i).b.toNat).L q / 2
            · rw [Bool.true_and, if_pos (decide_eq_true hcc)] at hnx
              rw [decide_eq_true hcc]
              (refine R.stepN ?_; (repeat' (first | (with_reducible refine And.intro ?_ ?_) | (with_reducible intro _))); all_goals refine R.Lft.mk ?_)
              rename_i la2 lc2 _ hM
              have eln : (turnL x.e.L true (2 * ((i : Nat) : Int) + ((j : Nat) : Int)) ((nth Ms (nth x.e.L i).b.toNat).L.take q)).length + 1 = (turnL x.e.L true (2 * ((i : Nat) : Int) + ((j : Nat) : Int)) ((nth Ms (nth x.e.L i).b.toNat).L.take (q + 1))).length := by rw [hnx, List.length_append]; rfl
              rw [eln, ← hnx] at hM
              refine ⟨(q + 1, la2, lc2), ⟨rfl, rfl, rfl, rfl, rfl, rfl, rfl, rfl, rfl, rfl, rfl, rfl, rfl, rfl, rfl, rfl, rfl, rfl, rfl, rfl, rfl, R.viaS rfl (by dsimp only; rw [hnx, List.length_append]; rfl), rfl, rfl, R.viaI rfl (by dsimp only; omega), trivial⟩, ⟨by dsimp only; omega, hM⟩, by dsimp only; omega⟩
            · rw [Bool.true_and, if_neg (by rw [decide_eq_true_eq]; exact hcc), List.append_nil] at hnx
              rw [decide_eq_false hcc]
              (refine R.stepN ?_; (repeat' (first | (with_reducible refine And.intro ?_ ?_) | (with_reducible intro _))); all_goals refine R.Lft.mk ?_)
              refine ⟨(q + 1, la, lc), ⟨rfl, rfl, rfl, rfl, rfl, rfl, rfl, rfl, rfl, rfl, rfl, rfl, rfl, rfl, rfl, rfl, rfl, rfl, rfl, rfl, rfl, R.viaS rfl (by dsimp only; rw [hnx]), rfl, rfl, R.viaI rfl (by dsimp only; omega), trivial⟩, ⟨by dsimp only; omega, by dsimp only; rw [hnx]; exact hM⟩, by dsimp only; omega⟩
        · obtain rfl : q = (nth Ms (nth x.e.L i).b.toNat).n := by omega
          rw [show (nth Ms (nth x.e.L i).b.toNat).L.take (nth Ms (nth x.e.L i).b.toNat).n = (nth Ms (nth x.e.L i).b.toNat).L by rw [hWn]; exact List.take_length, ← hrow] at hM ⊢
          (refine R.stepN ?_; (repeat' (first | (with_reducible refine And.intro ?_ ?_) | (with_reducible intro _))); all_goals refine R.Lft.mk ?_)
          have hM := nst_unfocus (pre := [.row la (nth M (2 * i + j)).length lc 61 2 ((nth M (2 * i + j)).flatMap cItem), .row hA (hdM M (2 * i + j)).length hc 3 1 ((hdM M (2 * i + j)).flatMap R.cI), .row wA (wtM M (2 * i + j)).length wc 3 1 ((wtM M (2 * i + j)).flatMap R.cI), .row sA (stM M (2 * i + j)).length sc 3 1 ((stM M (2 * i + j)).flatMap R.cI), .blk gg 34 [.slice sA (stM M (2 * i + j)).length sc, .slice hA (hdM M (2 * i + j)).length hc, .slice wA (wtM M (2 * i + j)).length wc], .row gB 2 cB 4 1 ([(nth x.e.L i).f, (nth x.e.L i).k].flatMap R.cB), .blk ge 55 (cEd (nth x.e.L i)), .map b #[] 0, .row D m cd 4 1 ((deadL x.e.L m x.e.n).flatMap R.cB), .blk go 34 [.slice none 0 0, .slice none 0 0, .slice none 0 0], .blk gc 29 [.slice none 0 0, .int .i64 0], .blk gn 26 (cNt x), .row A m m 32 1 (Ms.flatMap R.cSl)]) hM hNM
          have hP : R.Own [] w _ ((.row la (nth M (2 * i + j)).length lc 61 2 ((nth M (2 * i + j)).flatMap cItem) :: .row gB 2 cB 4 1 ([(nth x.e.L i).f, (nth x.e.L i).k].flatMap R.cB) :: .blk ge 55 (cEd (nth x.e.L i)) :: .map b #[] 0 :: .row D m cd 4 1 ((deadL x.e.L m x.e.n).flatMap R.cB) :: .blk go 34 [.slice none 0 0, .slice none 0 0, .slice none 0 0] :: .blk gc 29 [.slice none 0 0, .int .i64 0] :: .blk gn 26 (cNt x) :: .row A m m 32 1 (Ms.flatMap R.cSl) :: nst 3 1 R.cI Ms) ++ gRes gg sA hA wA (stM M (2 * i + j)) (hdM M (2 * i + j)) (wtM M (2 * i + j)) sc hc wc) := R.Own.perm hM (List.Perm.cons _ List.perm_append_comm)
          clear hM
          refine R.WO_call2 rfl rfl R.vv R.vv ?_
          have ho2 := off_succ (M := M) (j := 2 * i + j) (by omega)
          have hof2 := hO (2 * i + j + 1) (by omega)
          refine (aadd_any gg sA hA wA _ _ _ sc hc wc ⟨la, (nth M (2 * i + j)).length, lc, nth M (2 * i + j)⟩ _ (R.Own.has hP) (R.Own.inpF hP (.head _)) rfl (by omega) (by omega) (by omega) (by dsimp only; omega)).mono ?_
          rintro _ w8 ⟨rfl, sA2, hA2, wA2, sc2, hc2, wc2, hO8⟩
          have hM := R.Own.callF hP hO8
          clear hP hO8
          have hs2 := stM_succ M (2 * i + j)
          rw [ho2, ← hhl] at hs2
          rw [← hs2, ← hdM_succ (by omega), ← wtM_succ (by omega)] at hM
          refine ⟨_, rfl, ?_⟩
          have hM := (R.Own.tl hM).perm List.perm_append_comm
          (refine R.stepN ?_; (repeat' (first | (with_reducible refine And.intro ?_ ?_) | (with_reducible intro _))); all_goals refine R.Lft.mk ?_)
          exact ⟨(j + 1, sA2, hA2, wA2, sc2, hc2, wc2), ⟨rfl, rfl, rfl, rfl, rfl, rfl, rfl, rfl, rfl, rfl, rfl, rfl, rfl, rfl, rfl, R.viaI rfl (by dsimp only; omega), trivial⟩, ⟨by dsimp only; omega, hM⟩, by dsimp only; omega⟩
    · obtain rfl : j = 2 := by omega
      clear hM
      (refine R.stepN ?_; (repeat' (first | (with_reducible refine And.intro ?_ ?_) | (with_reducible intro _))); all_goals refine R.Lft.mk ?_)
      exact ⟨(i + 1, sA, hA, wA, sc, hc, wc), ⟨rfl, rfl, rfl, rfl, rfl, rfl, rfl, rfl, rfl, rfl, R.viaI rfl (by dsimp only; omega), trivial⟩, ⟨by dsimp only; omega, R.Own.sub (R.ohm : R.Own [] w _ (.row hA (hdM M (2 * i + 2)).length hc 3 1 ((hdM M (2 * i + 2)).flatMap R.cI) :: .row wA (wtM M (2 * i + 2)).length wc 3 1 ((wtM M (2 * i + 2)).flatMap R.cI) :: .row sA (stM M (2 * i + 2)).length sc 3 1 ((stM M (2 * i + 2)).flatMap R.cI) :: .blk gg 34 [.slice sA (stM M (2 * i + 2)).length sc, .slice hA (hdM M (2 * i + 2)).length hc, .slice wA (wtM M (2 * i + 2)).length wc] :: .row gB 2 cB 4 1 ([(nth x.e.L i).f, (nth x.e.L i).k].flatMap R.cB) :: .blk ge 55 (cEd (nth x.e.L i)) :: .map b #[] 0 :: .row D m cd 4 1 ((deadL x.e.L m x.e.n).flatMap R.cB) :: .blk go 34 [.slice none 0 0, .slice none 0 0, .slice none 0 0] :: .blk gc 29 [.slice none 0 0, .int .i64 0] :: .blk gn 26 (cNt x) :: .row A m m 32 1 (Ms.flatMap R.cSl) :: nst 3 1 R.cI Ms)) (by dsimp only; exact List.Sublist.append_left (l := [_, _, _, _]) (List.Sublist.cons _ (List.Sublist.cons _ (List.Sublist.refl _))))⟩, by dsimp only; omega⟩
  · obtain rfl : i = x.e.n := by omega
    have hsl := stM_len M (2 * x.e.n)
    have hhl := hdM_len (M := M) (k := 2 * x.e.n) (by omega)
    have hwl := wtM_len (M := M) (k := 2 * x.e.n) (by omega)
    have hM : R.Own [] w w5 (.row hA (hdM M (2 * x.e.n)).length hc 3 1 ((hdM M (2 * x.e.n)).flatMap R.cI) :: .row wA (wtM M (2 * x.e.n)).length wc 3 1 ((wtM M (2 * x.e.n)).flatMap R.cI) :: .row sA (stM M (2 * x.e.n)).length sc 3 1 ((stM M (2 * x.e.n)).flatMap R.cI) :: .blk gg 34 [.slice sA (stM M (2 * x.e.n)).length sc, .slice hA (hdM M (2 * x.e.n)).length hc, .slice wA (wtM M (2 * x.e.n)).length wc] :: .map b #[] 0 :: .row D m cd 4 1 ((deadL x.e.L m x.e.n).flatMap R.cB) :: .blk go 34 [.slice none 0 0, .slice none 0 0, .slice none 0 0] :: .blk gc 29 [.slice none 0 0, .int .i64 0] :: .blk gn 26 (cNt x) :: .row A m m 32 1 (Ms.flatMap R.cSl) :: nst 3 1 R.cI Ms) := hM
    (refine R.stepN ?_; (repeat' (first | (with_reducible refine And.intro ?_ ?_) | (with_reducible intro _))); all_goals refine R.Lft.mk ?_)
    refine ⟨⟨⟨sA, (stM M (2 * x.e.n)).length, sc, stM M (2 * x.e.n)⟩, ⟨hA, (hdM M (2 * x.e.n)).length, hc, hdM M (2 * x.e.n)⟩, ⟨wA, (wtM M (2 * x.e.n)).length, wc, wtM M (2 * x.e.n)⟩⟩, ⟨hsl, hhl, hwl, rfl, rfl, rfl⟩, rfl, ?_⟩
    exact R.Own.sub R.ohm (List.Sublist.cons_cons _ (List.Sublist.cons_cons _ (List.Sublist.cons_cons _ (List.nil_sublist _))))
end Go.Proofs.YtdiodefooipojaaGreat
namespace Go.Proofs.YtdiodefooipojaaGreat
open Go.RowKit
open R (In64 InU64 lo64 nth)

theorem rise_uniq : ∀ {L M : List Item}, (L.Pairwise fun x y => x.at_ < y.at_) → (M.Pairwise fun x y => x.at_ < y.at_) → (∀ x, x ∈ L ↔ x ∈ M) → L = M
  | [], [], _, _, _ => rfl
  | [], b :: M, _, _, h => by have := (h b).2 (.head _); cases this
  | a :: L, [], _, _, h => by have := (h a).1 (.head _); cases this
  | a :: L, b :: M, hL, hM, h => by
    obtain ⟨l1, l2⟩ := List.pairwise_cons.1 hL
    obtain ⟨m1, m2⟩ := List.pairwise_cons.1 hM
    have e : a = b := by
      rcases List.mem_cons.1 ((h a).1 (.head _)) with c | c
      · exact c
      · rcases List.mem_cons.1 ((h b).2 (.head _)) with d | d
        · exact d.symm
        · have h1 := m1 a c
          have h2 := l1 b d
          omega
    subst e
    refine congrArg (a :: ·) (rise_uniq l2 m2 fun x => ⟨fun hx => ?_, fun hx => ?_⟩)
    · rcases List.mem_cons.1 ((h x).1 (.tail _ hx)) with c | c
      · have := l1 x hx
        rw [c] at this
        omega
      · exact c
    · rcases List.mem_cons.1 ((h x).2 (.tail _ hx)) with c | c
      · have := m1 x hx
        rw [c] at this
        omega
      · exact c
theorem rows_ext {M N : List (List Item)} {n : Nat} (h1 : M.length = n) (h2 : N.length = n) (h : ∀ j, j < n → nth M j = nth N j) : M = N :=
  List.ext_getElem (by omega) fun i a b => by
    have := h i (by omega)
    rw [R.nth_eq a, R.nth_eq b] at this
    exact this
/-- The rows of a graph. -/
def rowsOf (g : Gph) (n : Nat) : List (List Item) := (List.range n).map fun v => outT g v (degG g v)
theorem rowsOf_len (g : Gph) (n : Nat) : (rowsOf g n).length = n := by simp [rowsOf]
theorem rowsOf_nth {g : Gph} {n v : Nat} (h : v < n) : nth (rowsOf g n) v = outT g v (degG g v) := by
  rw [R.nth_eq (by rw [rowsOf_len]; exact h)]
  simp [rowsOf]
section
variable {g : Gph} {n : Nat} (hm : MayG g) (hn : g.st.n - 1 = n)
include hm hn
theorem rowsOf_off : ∀ v, v ≤ n → off (rowsOf g n) v = (nth g.st.L v).toNat
  | 0, _ => by rw [off_zero, hm.s0]; rfl
  | v + 1, hv => by
    have n1 := hm.n1
    rw [off_succ (by rw [rowsOf_len]; omega), rowsOf_off v (by omega), rowsOf_nth (by omega), outT_len]
    have a := hm.up v (by omega)
    have b := hm.lo (v := v) (by omega)
    unfold degG
    omega
theorem rowsOf_isG (h1 : g.st.n = g.st.L.length) (h2 : g.hd.n = g.hd.L.length) (h3 : g.wt.n = g.wt.L.length) : IsG n (rowsOf g n) g := by
  have n1 := hm.n1
  have n4 := hm.n4
  have hI := acG_ok hm
  have hIn : (acG g).n = n := hn
  have ho : off (rowsOf g n) n = g.hd.n := by
    rw [rowsOf_off hm hn n (Nat.le_refl _), ← hn, hm.s1]
    exact Int.toNat_natCast _
  have hl := rowsOf_len g n
  have key : ∀ i, i < g.hd.n → ∃ u t, u < n ∧ t < (nth (rowsOf g n) u).length ∧ i = off (rowsOf g n) u + t ∧ nth (nth (rowsOf g n) u) t = ⟨nth g.wt.L i, nth g.hd.L i⟩ := fun i hi => by
    obtain ⟨u, hu, a1, a2⟩ := hI.tail (i := i) hi
    rw [hIn] at hu
    have a1 : (nth g.st.L u).toNat ≤ i := a1
    have a2 : i < (nth g.st.L (u + 1)).toNat := a2
    refine ⟨u, i - (nth g.st.L u).toNat, hu, ?_, ?_, ?_⟩
    · rw [rowsOf_nth hu, outT_len]
      unfold degG
      omega
    · rw [rowsOf_off hm hn u (by omega)]
      omega
    · rw [rowsOf_nth hu, outT_nth g u (by unfold degG; omega), show (nth g.st.L u).toNat + (i - (nth g.st.L u).toNat) = i by omega]
  refine ⟨by omega, ho.symm, by rw [ho]; exact n4, ?_, ?_, ?_⟩
  · refine same_list (by rw [stM_len]; omega) fun i hi => ?_
    have hlo := hm.lo (v := i) (by omega)
    rw [stM_nth (by omega), rowsOf_off hm hn i (by omega)]
    omega
  · refine same_list (by rw [hdM_len (by omega)]; omega) fun i hi => ?_
    obtain ⟨u, t, q1, q2, q3, q4⟩ := key i (by omega)
    conv => rhs; rw [q3]
    rw [hdM_nth hl q1 q2, q4]
  · refine same_list (by rw [wtM_len (by omega)]; omega) fun i hi => ?_
    obtain ⟨u, t, q1, q2, q3, q4⟩ := key i (by omega)
    conv => rhs; rw [q3]
    rw [wtM_nth hl q1 q2, q4]
theorem outT_pw {v : Nat} (hv : v < n) : (outT g v (degG g v)).Pairwise fun x y => x.at_ < y.at_ := by
  refine List.pairwise_iff_getElem.2 fun i j hi hj hij => ?_
  have n1 := hm.n1
  have := outT_rise hm (v := v) (by omega) i j hij hj
  rw [R.nth_eq hi, R.nth_eq hj] at this
  exact this
theorem arcF_of {v t w : Nat} (hv : v < n) (h1 : (acG g).of v t) (h2 : (acG g).H t = w) : arcF (outT g v (degG g v)) (w : Nat) = nth g.wt.L t ∧ 0 ≤ nth g.wt.L t := by
  have n1 := hm.n1
  have a1 : (nth g.st.L v).toNat ≤ t := h1.1
  have a2 : t < (nth g.st.L (v + 1)).toNat := h1.2
  have hlo := hm.lo (v := v) (by omega)
  have hlo1 := hm.lo (v := v + 1) (by omega)
  have ha := hm.arc v t (by omega) (by omega) (by omega)
  have hk : t - (nth g.st.L v).toNat < degG g v := by unfold degG; omega
  have e2 : (nth g.hd.L t).toNat = w := h2
  have hx : nth (outT g v (degG g v)) (t - (nth g.st.L v).toNat) = ⟨nth g.wt.L t, nth g.hd.L t⟩ := by
    rw [outT_nth g v hk, show (nth g.st.L v).toNat + (t - (nth g.st.L v).toNat) = t by omega]
  have a3 := ha.1
  refine ⟨?_, ha.2.2.1⟩
  rw [arcF_at (L := outT g v (degG g v)) (u := (w : Nat)) (k := t - (nth g.st.L v).toNat) (by rw [outT_len]; exact hk) (fun j hj => ?_) (by rw [hx]; dsimp only; omega), hx]
  have := outT_rise hm (v := v) (by omega) j (t - (nth g.st.L v).toNat) hj (by rw [outT_len]; exact hk)
  rw [hx] at this
  have this : (nth (outT g v (degG g v)) j).at_ < nth g.hd.L t := this
  omega
theorem arcF_in {v w : Nat} (hv : v < n) (h : 0 ≤ arcF (outT g v (degG g v)) (w : Nat)) : ∃ t, (acG g).of v t ∧ t < g.hd.n ∧ (acG g).H t = w := by
  have n1 := hm.n1
  have hI := acG_ok hm
  have hIn : (acG g).n = n := hn
  refine Classical.byContradiction fun hc => ?_
  rw [arcF_none fun j hj e => ?_] at h
  · omega
  rw [outT_len] at hj
  rw [outT_nth g v hj] at e
  have e : nth g.hd.L ((nth g.st.L v).toNat + j) = (w : Nat) := e
  have ho : (acG g).of v ((nth g.st.L v).toNat + j) := ⟨by show (nth g.st.L v).toNat ≤ _; omega, by show _ < (nth g.st.L (v + 1)).toNat; unfold degG at hj; omega⟩
  exact hc ⟨_, ho, hI.lt (by rw [hIn]; exact hv) ho, by show (nth g.hd.L _).toNat = w; rw [e]; exact Int.toNat_natCast _⟩
end
/-- A row of the graph the other way round, as the document has it. -/
def refRow (g : Gph) (w : Nat) : Nat → List Item
  | 0 => []
  | v + 1 => if 0 ≤ arcF (outT g v (degG g v)) (w : Nat) then refRow g w v ++ [⟨arcF (outT g v (degG g v)) (w : Nat), (v : Nat)⟩] else refRow g w v
theorem refRow_mem {g : Gph} {w : Nat} {x : Item} : ∀ {k : Nat}, x ∈ refRow g w k ↔ ∃ v, v < k ∧ 0 ≤ arcF (outT g v (degG g v)) (w : Nat) ∧ x = ⟨arcF (outT g v (degG g v)) (w : Nat), (v : Nat)⟩
  | 0 => ⟨fun h => (by cases h), fun ⟨_, h, _⟩ => absurd h (Nat.not_lt_zero _)⟩
  | k + 1 => by
    have ih := refRow_mem (g := g) (w := w) (x := x) (k := k)
    unfold refRow
    split
    · rename_i c
      rw [List.mem_append, List.mem_singleton, ih]
      constructor
      · rintro (⟨v, q1, q2, q3⟩ | q)
        · exact ⟨v, by omega, q2, q3⟩
        · exact ⟨k, by omega, c, q⟩
      · rintro ⟨v, q1, q2, q3⟩
        rcases Nat.lt_or_ge v k with d | d
        · exact .inl ⟨v, d, q2, q3⟩
        · obtain rfl : v = k := by omega
          exact .inr q3
    · rename_i c
      rw [ih]
      constructor
      · rintro ⟨v, q1, q2, q3⟩
        exact ⟨v, by omega, q2, q3⟩
      · rintro ⟨v, q1, q2, q3⟩
        rcases Nat.lt_or_ge v k with d | d
        · exact ⟨v, d, q2, q3⟩
        · obtain rfl : v = k := by omega
          exact absurd q2 c
theorem refRow_pw (g : Gph) (w : Nat) : ∀ k : Nat, (refRow g w k).Pairwise fun x y => x.at_ < y.at_
  | 0 => List.Pairwise.nil
  | k + 1 => by
    unfold refRow
    split
    · refine List.pairwise_append.2 ⟨refRow_pw g w k, List.pairwise_singleton _ _, fun a ha b hb => ?_⟩
      rw [List.mem_singleton.1 hb]
      obtain ⟨v, q1, _, rfl⟩ := refRow_mem.1 ha
      show ((v : Nat) : Int) < (k : Nat)
      omega
    · exact refRow_pw g w k
theorem refRow_le (g : Gph) (w : Nat) : ∀ k : Nat, (refRow g w k).length ≤ k
  | 0 => Nat.le_refl _
  | k + 1 => by
    have := refRow_le g w k
    unfold refRow
    split
    · rw [List.length_append, List.length_singleton]; omega
    · omega
def refM (g : Gph) (n : Nat) : List (List Item) := (List.range n).map fun w => refRow g w n
theorem refM_len (g : Gph) (n : Nat) : (refM g n).length = n := by simp [refM]
theorem refM_nth {g : Gph} {n v : Nat} (h : v < n) : nth (refM g n) v = refRow g v n := by
  rw [R.nth_eq (by rw [refM_len]; exact h)]
  simp [refM]
section
variable {g : Gph} {n : Nat} {M : List (List Item)} (hm : MayG g) (hn : g.st.n - 1 = n) (h : BkI g n g.hd.n M)
include hm hn h
theorem BkI.ref : M = refM g n := by
  refine rows_ext h.len (refM_len g n) fun j hj => ?_
  rw [refM_nth hj]
  refine rise_uniq (h.up j hj) (refRow_pw g j n) fun x => ?_
  rw [h.mem j hj, refRow_mem]
  constructor
  · rintro ⟨v, t, q1, q2, _, q4, rfl⟩
    obtain ⟨a, b⟩ := arcF_of hm hn q1 q2 q4
    exact ⟨v, q1, by rw [a]; exact b, by rw [a]⟩
  · rintro ⟨v, q1, q2, rfl⟩
    obtain ⟨t, t1, t2, t3⟩ := arcF_in hm hn q1 q2
    obtain ⟨a, b⟩ := arcF_of hm hn q1 t1 t3
    exact ⟨v, t, q1, t1, t2, t3, by rw [a]⟩
theorem BkI.mayB {b : Gph} (hb : IsG n M b) : MayG b := by
  have n2 := hm.n2
  have n3 := hm.n3
  exact (h.bks hm hn).may hb (by omega) (by rw [h.cnt]; exact n3)
theorem BkI.back {b : Gph} (hb : IsG n M b) {N : List (List Item)} (h2 : BkI b n b.hd.n N) : N = rowsOf g n := by
  have n1 := hm.n1
  have hl := h.len
  have hst : ∀ j, j ≤ n → (nth b.st.L j).toNat = off M j := fun j hj => by rw [hb.sl, stM_nth hj]; exact Int.toNat_natCast _
  have hS : ∀ j, j ≤ n → (acG b).S j = off M j := hst
  refine rows_ext h2.len (rowsOf_len g n) fun j hj => ?_
  rw [rowsOf_nth hj]
  refine rise_uniq (h2.up j hj) (outT_pw hm hn hj) fun x => ?_
  rw [h2.mem j hj]
  have hlo := hm.lo (v := j) (by omega)
  have hlo1 := hm.lo (v := j + 1) (by omega)
  constructor
  · rintro ⟨v, t, q1, ⟨q2, q3⟩, q4, q5, rfl⟩
    have hs := off_succ (M := M) (j := v) (by omega)
    rw [hS v (by omega)] at q2
    rw [hS (v + 1) (by omega)] at q3
    obtain ⟨k, rfl⟩ : ∃ k, t = off M v + k := ⟨t - off M v, by omega⟩
    have hk : k < (nth M v).length := by omega
    have q5 : (nth b.hd.L (off M v + k)).toNat = j := q5
    rw [hb.hl, hdM_nth hl q1 hk] at q5
    rw [hb.wl, wtM_nth hl q1 hk]
    obtain ⟨u, s, r1, r2, r3, r4, r5⟩ := (h.mem v q1 _).1 (R.nth_mem hk)
    rw [r5] at q5 ⊢
    have q5 : (((u : Nat) : Int)).toNat = j := q5
    obtain rfl : u = j := by omega
    have a1 : (nth g.st.L u).toNat ≤ s := r2.1
    have a2 : s < (nth g.st.L (u + 1)).toNat := r2.2
    have ha := (hm.arc u s (by omega) (by omega) (by omega)).1
    have r4 : (nth g.hd.L s).toNat = v := r4
    have hk2 : s - (nth g.st.L u).toNat < degG g u := by unfold degG; omega
    have hx : nth (outT g u (degG g u)) (s - (nth g.st.L u).toNat) = ⟨nth g.wt.L s, ((v : Nat) : Int)⟩ := by
      rw [outT_nth g u hk2, show (nth g.st.L u).toNat + (s - (nth g.st.L u).toNat) = s by omega, show nth g.hd.L s = ((v : Nat) : Int) by omega]
    rw [← hx]
    exact R.nth_mem (by rw [outT_len]; exact hk2)
  · intro hx
    obtain ⟨k, hk, e⟩ := List.getElem_of_mem hx
    rw [← R.nth_eq hk] at e
    rw [outT_len] at hk
    rw [outT_nth g j hk] at e
    subst e
    obtain ⟨s, hs⟩ : ∃ s, (nth g.st.L j).toNat + k = s := ⟨_, rfl⟩
    rw [hs]
    unfold degG at hk
    have ha := hm.arc j s (by omega) (by omega) (by omega)
    have ho : (acG g).of j s := ⟨by show (nth g.st.L j).toNat ≤ s; omega, by show s < (nth g.st.L (j + 1)).toNat; omega⟩
    have hsm := (acG_ok hm).lt (u := j) (by show j < g.st.n - 1; omega) ho
    obtain ⟨v, hv⟩ : ∃ v, (nth g.hd.L s).toNat = v := ⟨_, rfl⟩
    have a1 := ha.1
    have a2 := ha.2.1
    have hvn : v < n := by omega
    obtain ⟨t, ht, e2⟩ := List.getElem_of_mem ((h.mem v hvn ⟨nth g.wt.L s, ((j : Nat) : Int)⟩).2 ⟨j, s, hj, ho, hsm, hv, rfl⟩)
    rw [← R.nth_eq ht] at e2
    have hs2 := off_succ (M := M) (j := v) (by omega)
    have hmo := off_mono (M := M) (j := v + 1) (k := n) (by omega) (by omega)
    refine ⟨v, off M v + t, hvn, ⟨by rw [hS v (by omega)]; omega, by rw [hS (v + 1) (by omega)]; omega⟩, by rw [hb.hn]; omega, ?_, ?_⟩
    · show (nth b.hd.L (off M v + t)).toNat = j
      rw [hb.hl, hdM_nth hl hvn ht, e2]
      exact Int.toNat_natCast _
    · rw [hb.wl, wtM_nth hl hvn ht, e2, show nth g.hd.L s = ((v : Nat) : Int) by omega]
end
theorem IsG.eq {n : Nat} {M : List (List Item)} {a b : Gph} (ha : IsG n M a) (hb : IsG n M b) : eqG a b = true := by
  unfold eqG
  rw [ha.sl, hb.sl, ha.hl, hb.hl, ha.wl, hb.wl, decide_eq_true rfl, decide_eq_true rfl, decide_eq_true rfl]
  rfl
end Go.Proofs.YtdiodefooipojaaGreat
namespace Go.Proofs.YtdiodefooipojaaGreat
open Go.RowKit
open R (In64 InU64 lo64 nth)

theorem mem_nth {T : Type} [Inhabited T] {L : List T} {x : T} (h : x ∈ L) : ∃ j, j < L.length ∧ nth L j = x := by
  obtain ⟨j, hj, e⟩ := List.getElem_of_mem h
  exact ⟨j, hj, by rw [R.nth_eq hj]; exact e⟩
theorem IsG.G {n : Nat} {M : List (List Item)} {b : Gph} (hb : IsG n M b) (hB : Bks n M) (hn : n ≤ 4000) (ho : off M n ≤ 200000) {W w : World} {l : List R.Res} (hM : R.Own [] W w l) (hl : ∀ r ∈ bRows b, r ∈ l) : GGph w b := by
  have m1 := hl _ (.tail _ (.tail _ (.head _)))
  have m2 := hl _ (.head _)
  have m3 := hl _ (.tail _ (.head _))
  have hlen := hB.len
  have hit : ∀ q ∈ M.take n, ∀ x ∈ q, 0 ≤ x.at_ ∧ x.at_ < (n : Nat) ∧ 0 ≤ x.key ∧ x.key ≤ 2147483648 := fun q hq x hx => by
    obtain ⟨j, hj, e⟩ := mem_nth (List.mem_of_mem_take hq)
    exact hB.it j (by omega) x (by rw [e]; exact hx)
  refine ⟨⟨R.Own.inp hM m1, by rw [hb.sn, hb.sl, stM_len], cap_le hM m1, fun y hy => ?_⟩, ⟨R.Own.inp hM m2, by rw [hb.hn, hb.hl, hdM_len (by omega)], cap_le hM m2, fun y hy => ?_⟩, ⟨R.Own.inp hM m3, by rw [hb.wn, hb.wl, wtM_len (by omega)], cap_le hM m3, fun y hy => ?_⟩⟩
  · rw [hb.sl] at hy
    obtain ⟨j, hj, rfl⟩ := List.mem_map.1 hy
    have hj := List.mem_range.1 hj
    have := off_mono (M := M) (j := j) (k := n) (by omega) (by omega)
    exact wf64a (by unfold In64; omega)
  · rw [hb.hl] at hy
    obtain ⟨q, hq, hy⟩ := List.mem_flatMap.1 hy
    obtain ⟨x, hx, rfl⟩ := List.mem_map.1 hy
    have := hit q hq x hx
    exact wf64a (by unfold In64; omega)
  · rw [hb.wl] at hy
    obtain ⟨q, hq, hy⟩ := List.mem_flatMap.1 hy
    obtain ⟨x, hx, rfl⟩ := List.mem_map.1 hy
    have := hit q hq x hx
    exact wf64a (by unfold In64; omega)
end Go.Proofs.YtdiodefooipojaaGreat
namespace Go.Proofs.YtdiodefooipojaaGreat
open Go.RowKit
open R (In64 InU64 lo64 nth)

theorem off_ref (g : Gph) (n : Nat) : ∀ v, v ≤ n → off (refM g n) v ≤ n * v
  | 0, _ => by rw [off_zero]; exact Nat.zero_le _
  | v + 1, hv => by
    have h1 := off_ref g n v (by omega)
    have h2 := off_succ (M := refM g n) (j := v) (by rw [refM_len]; omega)
    rw [refM_nth (by omega)] at h2
    have h3 := refRow_le g v n
    rw [Nat.mul_add, Nat.mul_one]
    generalize n * v = p at h1 ⊢
    omega
end Go.Proofs.YtdiodefooipojaaGreat
namespace Go.Proofs.YtdiodefooipojaaGreat
open Go.RowKit
open R (In64 InU64 lo64 nth)

/-- The cross's arcs. -/
def rowsX : List (List Item) := [[], [⟨2, 2⟩, ⟨3, 4⟩, ⟨4, 6⟩], [], [], [], [⟨1, 0⟩, ⟨2, 2⟩, ⟨4, 6⟩], [], [⟨1, 0⟩, ⟨2, 2⟩, ⟨3, 4⟩]]
theorem rowsX_eq : rowsG (crossE 4) (leafF (crossE 4) 5 4) 8 = rowsX := by decide
theorem rowsX_bks : Bks 8 rowsX := ⟨rfl, by decide, by decide⟩
section
variable {g : Gph} (h : IsG 8 rowsX g)
include h
theorem x_may : MayG g := rowsX_bks.may h (by decide) (by decide)
theorem x_st : g.st.L = [0, 0, 3, 3, 3, 3, 6, 6, 9] := h.sl.trans (by decide)
theorem x_hd : g.hd.L = [2, 4, 6, 0, 2, 6, 0, 2, 4] := h.hl.trans (by decide)
theorem x_wt : g.wt.L = [2, 3, 4, 1, 2, 4, 1, 2, 3] := h.wl.trans (by decide)
theorem x_deg : degG g 1 = 3 := by unfold degG; rw [x_st h]; rfl
theorem x_out : outT g 1 3 = [⟨2, 2⟩, ⟨3, 4⟩, ⟨4, 6⟩] := by unfold outT; rw [x_st h, x_hd h, x_wt h]; rfl
theorem x_arc4 : arcF (outT g 1 (degG g 1)) 4 = 3 := by rw [x_deg h, x_out h]; rfl
theorem x_arc0 : arcF (outT g 1 (degG g 1)) 0 = -1 := by rw [x_deg h, x_out h]; rfl
theorem x_n : g.st.n = 9 ∧ g.hd.n = 9 ∧ g.wt.n = 9 := ⟨h.sn, h.hn.trans (by decide), h.wn.trans (by decide)⟩
theorem x_G {W w : World} {l : List R.Res} (hM : R.Own [] W w l) (hl : ∀ r ∈ bRows g, r ∈ l) : GGph w g := h.G rowsX_bks (by decide) (by decide) hM hl
end
set_option maxHeartbeats 4000000 in
theorem awake19 (w : World) : Calls Tryz.prog 5 #[] w fun e w' => e = .returned (.bool true) ∧ Below w.heap.size w w' := by
  have hM := R.Own.start [] w
  refine R.calls_of_WC (fn := Tryz.f5) Tryz.func5 rfl Tryz.ntmps5 (Nat.le_of_ble_eq_true rfl) ?_
  (refine R.stepN ?_; (repeat' (first | (with_reducible refine And.intro ?_ ?_) | (with_reducible intro _))); all_goals refine R.Lft.mk ?_)
  refine R.WO_call0 rfl rfl  ?_
  refine (cross_any _).mono ?_
  rintro _ w2 ⟨A, B, c, d, rfl, hO⟩
  have hG := cross_G A B c d hO (.head _) (.tail _ (.head _))
  have hM := R.Own.giveN (R.ohm : R.Own [] w _ _) hO
  refine ⟨_, rfl, ?_⟩
  (refine R.stepN ?_; (repeat' (first | (with_reducible refine And.intro ?_ ?_) | (with_reducible intro _))); all_goals refine R.Lft.mk ?_)
  refine R.WO_call2 rfl rfl R.vv R.vv ?_
  refine (of0_any (crossN A B c d) _ (GNt.now (R.Own.start [] _) hG) (cross_netB A B c d) (show 4 ≤ 40 by decide)).mono ?_
  rintro _ w3 ⟨g, hg, rfl, hO2⟩
  have hg : IsG 8 rowsX g := by rw [← rowsX_eq]; exact hg
  have hG := x_G hg hO2 (fun r hr => hr)
  have hm := x_may hg
  have hW := R.Own.giveN (R.ohm : R.Own [] w _ _) hO2
  clear hO hO2
  refine ⟨_, rfl, ?_⟩
  have hL := hG.lasts
  have hM := R.Own.start [] w3
  have hn := (x_n hg).1
  have k1 : R.ConB Tryz.prog 12 #[.agg (cGph g).toArray, .int .i64 1, .int .i64 4] Unit (fun _ w => GGph w g) (fun _ => .tuple #[.int .i64 3, .bool true]) := ⟨fun s w h => by
    have q := aarc_any g 1 4 w h hm (by omega)
    rw [x_arc4 hg, if_pos (by decide), decide_eq_true (by decide)] at q
    exact q⟩
  have k2 : R.ConB Tryz.prog 12 #[.agg (cGph g).toArray, .int .i64 1, .int .i64 0] Unit (fun _ w => GGph w g) (fun _ => .tuple #[.int .i64 0, .bool false]) := ⟨fun s w h => by
    have q := aarc_any g 1 0 w h hm (by omega)
    rw [x_arc0 hg, if_neg (by decide), decide_eq_false (by decide)] at q
    exact q⟩
  have k3 : R.ConB Tryz.prog 11 #[.agg (cGph g).toArray] Unit (fun _ w => GGph w g) (fun _ => .int .i64 8) := ⟨fun s w h => by
    have q := asize_any g w h hm
    rw [hn] at q
    exact q⟩
  have k4 : R.ConB Tryz.prog 10 #[.agg (cGph g).toArray] Unit (fun _ w => GGph w g) (fun _ => .bool true) := ⟨fun s w h => by
    have q := amay_any g w h
    rw [mayG_t hm] at q
    exact q⟩
  (refine R.stepN ?_; (repeat' (first | (with_reducible refine And.intro ?_ ?_) | (with_reducible intro _))); all_goals refine R.Lft.mk ?_)
  refine R.WO_call2 rfl rfl R.vv R.vv ?_
  refine (aOut_any g 1 _ (GGph.now R.ohm hG) hm (by omega)).mono ?_
  rintro _ w4 ⟨A, c, rfl, hGv⟩
  have hM := R.Own.give R.ohm hGv
  refine ⟨_, rfl, ?_⟩
  rw [x_deg hg]
  (refine R.stepN ?_; (repeat' (first | (with_reducible refine And.intro ?_ ?_) | (with_reducible intro _))); all_goals refine R.Lft.mk ?_)
  exact ⟨rfl, (hW.call (R.Own.below R.ohm)).below⟩
instance con_awake19 : R.ConB Tryz.prog 5 #[] Unit (fun _ _ => True) (fun _ => .bool true) := ⟨fun _ w _ => awake19 w⟩
end Go.Proofs.YtdiodefooipojaaGreat
