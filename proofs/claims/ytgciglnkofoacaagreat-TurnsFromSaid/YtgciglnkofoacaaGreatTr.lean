/- Turns: what may be taken; the ways that are meant. -/
import Derived.Test.YtgciglnkofoacaaGreatTq
namespace Go.Proofs.YtgciglnkofoacaaGreat
open Go.RowKit
open R (In64 InU64 lo64 nth)

theorem cap_ptr (g sz : Nat) : Value.pointer (some ⟨g, 0, none⟩) = R.ptr (some ⟨g, 0, none⟩) 0 sz 0 := by
  rw [R.ptr_some]
  simp [Addr.add]
theorem cap_inp {T : Type} {enc : T → List Value} {F : List Nat} {W w : World} {l : List R.Res} {g sz : Nat} {t : TypeId} {x : T} (h : R.Own F W w l) (hm : .blk g t (enc x) ∈ l) (hn : (enc x).length = sz) : R.Inp [] w (some ⟨g, 0, none⟩) 1 sz ([x].flatMap enc) := by
  have hb := h.ok _ hm
  refine ⟨by simp [hn], fun j v hj => ⟨⟨g, 0, none⟩, rfl, (Array.getElem?_eq_some_iff.1 (show w.heap[g]? = _ from hb)).1, by simp, ?_⟩⟩
  simp at hj
  have := (h.rdBlk (n := 1) (sz := sz) hm (by rw [hn, Nat.one_mul])).2 j v hj
  obtain ⟨a, ha, hv⟩ := this
  cases ha
  exact hv
theorem only1_any (b : Bn) (V : List Int) (hV : V.length = 1) (g : Nat) (w : World) (h : R.Inp [] w (some ⟨g, 0, none⟩) 1 1 (V.flatMap R.cI)) : Calls Tryz.prog 85 ([Value.agg (cBn b).toArray] ++ [R.ptr (some ⟨g, 0, none⟩) 0 1 0]).toArray w fun e w' => e = .returned (.bool (b.only && decide (b.frm = nth V 0))) ∧ Below w.heap.size w w' := by
  have hM := R.Own.start [] w
  refine R.calls_of_WC (fn := Tryz.f85) Tryz.func85 rfl Tryz.ntmps85 (Nat.le_of_ble_eq_true rfl) ?_
  (refine R.stepV ?_; (repeat' (first | (with_reducible refine And.intro ?_ ?_) | (with_reducible intro _))); all_goals refine R.Lft.mk ?_)
  all_goals
    refine ⟨?_, R.Own.below (by assumption)⟩
    simp [*]
attribute [local irreducible] cBn in
theorem tonly_any (r : Rl) (v : Int) (w : World) (hR : GRl w r) : Calls Tryz.prog 60 #[.agg (cRl r).toArray, .int .i64 v] w fun e w' => e = .returned (.bool (someB r.b.L v)) ∧ Below w.heap.size w w' := by
  have hM := R.Own.start [] w
  obtain ⟨⟨r1, r2, r3, -⟩, -⟩ := hR
  refine R.calls_of_WC (fn := Tryz.f60) Tryz.func60 rfl Tryz.ntmps60 (Nat.le_of_ble_eq_true rfl) ?_
  (refine R.stepV ?_; (repeat' (first | (with_reducible refine And.intro ?_ ?_) | (with_reducible intro _))); all_goals refine R.Lft.mk ?_)
  rename_i g _ hM
  refine R.WO_call2 rfl rfl R.vv R.vv ?_
  refine (containsFunc_Bn r.b.A r.b.n r.b.c r.b.L 85 [.pointer (some ⟨g, 0, none⟩)] (fun b => b.only && decide (b.frm = v)) _ (hM.inpIn r1) r2 (by omega) (fun b w1 _ hb1 => ?_)).mono ?_
  · rw [cap_ptr g 1]
    exact only1_any b [v] rfl g w1 (cap_inp (enc := R.cI) (x := v) (hM.call hb1) (.head _) rfl)
  rintro _ w2 ⟨rfl, hb2⟩
  have hM := hM.call hb2
  refine ⟨_, rfl, ?_⟩
  (refine R.stepV ?_; (repeat' (first | (with_reducible refine And.intro ?_ ?_) | (with_reducible intro _))); all_goals refine R.Lft.mk ?_)
  exact ⟨rfl, R.Own.below (by assumption)⟩
instance con_tonly (r : Rl) (v : Int) : R.ConB Tryz.prog 60 #[.agg (cRl r).toArray, .int .i64 v] Unit (fun _ w => GRl w r) (fun _ => .bool (someB r.b.L v)) := ⟨fun _ w h => tonly_any r v w h⟩
attribute [local irreducible] wayB tailV headV inW in
instance con_tabout (x : Nt) (r : Rl) (v : Int) : R.ConB Tryz.prog 61 #[.agg (cNt x).toArray, .agg (cRl r).toArray, .int .i64 v] Unit (fun _ w => GNt w x ∧ In64 v ∧ wayB x v = true) (fun _ => .bool (dieB x r v)) := ⟨fun _ w ⟨hG, hv, hw⟩ => by
  have hM := R.Own.start [] w
  have hL := hG.lasts
  have e2 : (if inW x v then headV x v else 0) = headV x v := if_pos (inW_of hw)
  unfold dieB
  by_cases hp : r.p = 1
  · refine R.calls_of_WC (fn := Tryz.f61) Tryz.func61 rfl Tryz.ntmps61 (Nat.le_of_ble_eq_true rfl) ?_
    (refine R.stepV ?_; (repeat' (first | (with_reducible refine And.intro ?_ ?_) | (with_reducible intro _))); all_goals refine R.Lft.mk ?_)
    all_goals first
      | (exfalso; omega)
      | (refine ⟨?_, R.Own.below (by assumption)⟩
         simp [hp, e2]
         done)
      | (refine ⟨?_, R.Own.below (by assumption)⟩
         rw [e2, show decide (((cntI x.e.L (headV x v) x.e.n : Nat) : Int) = 1) = decide (cntI x.e.L (headV x v) x.e.n = 1) from decide_eq_decide.2 (by omega), hp]
         rfl)
  · refine R.calls_of_WC (fn := Tryz.f61) Tryz.func61 rfl Tryz.ntmps61 (Nat.le_of_ble_eq_true rfl) ?_
    (refine R.stepV ?_; (repeat' (first | (with_reducible refine And.intro ?_ ?_) | (with_reducible intro _))); all_goals refine R.Lft.mk ?_)
    all_goals first
      | (exfalso; omega)
      | (refine ⟨?_, R.Own.below (by assumption)⟩
         simp [hp]
         done)⟩
attribute [local irreducible] wayB tailV headV inW dieB in
theorem tmay_any (x : Nt) (r : Rl) (v u : Int) (w : World) (hG : GNt w x) (hR : GRl w r) (hv : In64 v) (hw : wayB x v = true) : Calls Tryz.prog 40 #[.agg (cNt x).toArray, .agg (cRl r).toArray, .int .i64 v, .int .i64 u] w fun e w' => e = .returned (.bool (turnB x r v u)) ∧ Below w.heap.size w w' := by
  have hM := R.Own.start [] w
  have hL := hG.lasts
  have hLR := hR.lasts
  have hR0 := hR
  obtain ⟨⟨r1, r2, r3, -⟩, -⟩ := hR
  unfold turnB
  refine R.calls_of_WC (fn := Tryz.f40) Tryz.func40 rfl Tryz.ntmps40 (Nat.le_of_ble_eq_true rfl) ?_
  (refine R.stepV ?_; (repeat' (first | (with_reducible refine And.intro ?_ ?_) | (with_reducible intro _))); all_goals refine R.Lft.mk ?_)
  rename_i hM
  refine R.WO_call2 rfl rfl R.vv R.vv ?_
  refine (containsBn r.b.A r.b.n r.b.c r.b.L ⟨v, u, true⟩ _ (hM.inpIn r1) r2 (by omega)).mono ?_
  rintro _ w2 ⟨rfl, hb2⟩
  have hM := hM.call hb2
  refine ⟨_, rfl, ?_⟩
  rw [← forB_eq]
  (refine R.stepV ?_; (repeat' (first | (with_reducible refine And.intro ?_ ?_) | (with_reducible intro _))); all_goals refine R.Lft.mk ?_)
  rename_i hM
  refine R.WO_call2 rfl rfl R.vv R.vv ?_
  refine (containsBn r.b.A r.b.n r.b.c r.b.L ⟨v, u, false⟩ _ (hM.inpIn r1) r2 (by omega)).mono ?_
  rintro _ w3 ⟨rfl, hb3⟩
  have hM := hM.call hb3
  refine ⟨_, rfl, ?_⟩
  rw [← banB_eq]
  (refine R.stepV ?_; (repeat' (first | (with_reducible refine And.intro ?_ ?_) | (with_reducible intro _))); all_goals refine R.Lft.mk ?_)
  · refine ⟨?_, R.Own.below (by assumption)⟩
    rw [if_pos (show banB r.b.L v u = true by assumption)]
  all_goals
    refine ⟨?_, R.Own.below (by assumption)⟩
    rw [if_neg (show ¬ banB r.b.L v u = true by rw [show banB r.b.L v u = false by assumption]; decide)]
  · rw [if_pos (show someB r.b.L v = true by assumption)]
  all_goals rw [if_neg (show ¬ someB r.b.L v = true by rw [show someB r.b.L v = false by assumption]; decide)]
  · rw [if_pos (by assumption)]
  · rw [if_neg (by assumption)]
instance con_tmay (x : Nt) (r : Rl) (v u : Int) : R.ConB Tryz.prog 40 #[.agg (cNt x).toArray, .agg (cRl r).toArray, .int .i64 v, .int .i64 u] Unit (fun _ w => GNt w x ∧ GRl w r ∧ In64 v ∧ wayB x v = true) (fun _ => .bool (turnB x r v u)) := ⟨fun _ w h => tmay_any x r v u w h.1 h.2.1 h.2.2.1 h.2.2.2⟩
theorem fol_way {x : Nt} {v u : Int} (h : folB x v u = true) : wayB x v = true ∧ wayB x u = true := by
  unfold folB at h
  rw [Bool.and_eq_true, Bool.and_eq_true] at h
  exact ⟨h.1, h.2.1⟩
theorem take_t {x : Nt} {r : Rl} {v u : Int} (h : folB x v u = true) : takeB x r v u = turnB x r v u := by unfold takeB; rw [h]; rfl
theorem take_f {x : Nt} {r : Rl} {v u : Int} (h : folB x v u = false) : takeB x r v u = false := by unfold takeB; rw [h]; rfl
attribute [local irreducible] folB turnB takeB wayB rulesB in
instance con_tMay (x : Nt) (r : Rl) (v u : Int) : R.ConB Tryz.prog 13 #[.agg (cNt x).toArray, .agg (cRl r).toArray, .int .i64 v, .int .i64 u] Unit (fun _ w => GNt w x ∧ GRl w r ∧ In64 v ∧ In64 u) (fun _ => .bool (mayT x r v u)) := ⟨fun _ w ⟨hG, hR, hv, hu⟩ => by
  have hM := R.Own.start [] w
  have hL := hG.lasts
  have hLR := hR.lasts
  unfold mayT
  cases h1 : rulesB x r with
  | false =>
    refine R.calls_of_WC (fn := Tryz.f13) Tryz.func13 rfl Tryz.ntmps13 (Nat.le_of_ble_eq_true rfl) ?_
    (refine R.stepV ?_; (repeat' (first | (with_reducible refine And.intro ?_ ?_) | (with_reducible intro _))); all_goals refine R.Lft.mk ?_)
    all_goals first
      | exact ⟨rfl, R.Own.below (by assumption)⟩
      | exact bbw_t (by assumption) h1
  | true =>
    cases h2 : folB x v u with
    | false =>
      rw [take_f h2]
      refine R.calls_of_WC (fn := Tryz.f13) Tryz.func13 rfl Tryz.ntmps13 (Nat.le_of_ble_eq_true rfl) ?_
      (refine R.stepV ?_; (repeat' (first | (with_reducible refine And.intro ?_ ?_) | (with_reducible intro _))); all_goals refine R.Lft.mk ?_)
      all_goals first
        | exact ⟨rfl, R.Own.below (by assumption)⟩
        | exact bbw_t (by assumption) h2
        | exact bbw_t h1 (by assumption)
    | true =>
      rw [take_t h2]
      have h3 := (fol_way h2).1
      refine R.calls_of_WC (fn := Tryz.f13) Tryz.func13 rfl Tryz.ntmps13 (Nat.le_of_ble_eq_true rfl) ?_
      (refine R.stepV ?_; (repeat' (first | (with_reducible refine And.intro ?_ ?_) | (with_reducible intro _))); all_goals refine R.Lft.mk ?_)
      all_goals first
        | exact ⟨rfl, R.Own.below (by assumption)⟩
        | exact bbw_t h2 (by assumption)
        | exact bbw_t h1 (by assumption)⟩
/-- Whether just one edge ends at a node. -/
noncomputable def deadB (x : Nt) (v : Int) : Bool := netB x && (decide (0 ≤ v) && (decide (v < x.s.n) && decide (cntI x.e.L v x.e.n = 1)))
instance con_tdead (x : Nt) (v : Int) : R.ConB Tryz.prog 15 #[.agg (cNt x).toArray, .int .i64 v] Unit (fun _ w => GNt w x) (fun _ => .bool (deadB x v)) := ⟨fun _ w hG => by
  have hM := R.Own.start [] w
  have hL := hG.lasts
  unfold deadB
  refine R.calls_of_WC (fn := Tryz.f15) Tryz.func15 rfl Tryz.ntmps15 (Nat.le_of_ble_eq_true rfl) ?_
  (refine R.stepV ?_; (repeat' (first | (with_reducible refine And.intro ?_ ?_) | (with_reducible intro _))); all_goals refine R.Lft.mk ?_)
  all_goals
    refine ⟨?_, R.Own.below (by assumption)⟩
    simp [*]
    try omega⟩
/-- turns.those: the ways that are meant. -/
theorem those_any {fid : FuncId} [R.HasBody Tryz.prog fid] (cap : List Value) (p : Int → Bool) (x : Nt) (r : Rl) (w : World) (hG : GNt w x) (hR : GRl w r) (hr : rulesB x r = true)
    (hp : ∀ (k : Nat) w1, k < 2 * x.e.n → Below w.heap.size w w1 → Calls Tryz.prog fid ([Value.int .i64 (k : Nat)] ++ cap).toArray w1 fun e w' => e = .returned (.bool (p (k : Nat))) ∧ Below w1.heap.size w1 w') :
    Calls Tryz.prog 44 #[.agg (cNt x).toArray, .agg (cRl r).toArray, .func (.func fid) #[] cap.toArray] w fun e w' => ∃ A c, e = .returned (.slice A (upL (2 * x.e.n) p).length c) ∧ R.Gives w w' A (upL (2 * x.e.n) p).length c 3 1 ((upL (2 * x.e.n) p).flatMap R.cI) := by
  have hM := R.Own.start [] w
  have hL := hG.lasts
  have hLR := hR.lasts
  have hn := netB_e (rulesB_of hr).1
  obtain ⟨-, ⟨e1, e2, e3, -⟩, -⟩ := hG
  refine R.calls_of_WC (fn := Tryz.f44) Tryz.func44 rfl Tryz.ntmps44 (Nat.le_of_ble_eq_true rfl) ?_
  (refine R.stepV ?_; (repeat' (first | (with_reducible refine And.intro ?_ ?_) | (with_reducible intro _))); all_goals refine R.Lft.mk ?_)
  · exact nbw_t hr (by assumption)
  rename_i hM _
  have hM := R.Own.nil hM.nul 3 1
  refine R.WC_loop (fun i : Nat × Option Addr × Nat => [(2, .func (.func fid) #[] cap.toArray), (6, .slice none 0 0), (7, .slice i.2.1 (upL i.1 p).length i.2.2), (16, .int .i64 (2 * x.e.n : Nat)), (17, .int .i64 (i.1 : Nat))])
    (fun i w2 => i.1 ≤ 2 * x.e.n ∧ R.Own [] w w2 [.row i.2.1 (upL i.1 p).length i.2.2 3 1 ((upL i.1 p).flatMap R.cI)]) (fun i => 2 * x.e.n - i.1)
    ⟨(0, none, 0), ⟨rfl, rfl, rfl, R.viaI rfl (by omega), rfl, trivial⟩, by simp, hM⟩ ?_
  clear hM
  rintro ⟨k, A, c⟩ f w2 ⟨hk, hM⟩
  dsimp only at hk hM ⊢
  by_cases hlt : k < 2 * x.e.n
  · have hl := upL_len k p
    (refine R.stepV ?_; (repeat' (first | (with_reducible refine And.intro ?_ ?_) | (with_reducible intro _))); all_goals refine R.Lft.mk ?_)
    refine R.WO_callc1 rfl rfl R.vv ?_
    refine (hp k w2 hlt hM.below).mono ?_
    rintro _ w3 ⟨rfl, hb3⟩
    have hM := hM.call hb3
    refine ⟨_, rfl, ?_⟩
    cases hpk : p (k : Nat) with
    | true =>
      have hu := upL_t hpk
      (refine R.stepV ?_; (repeat' (first | (with_reducible refine And.intro ?_ ?_) | (with_reducible intro _))); all_goals refine R.Lft.mk ?_)
      rename_i A2 c2 _ hM
      have hl2 : (upL (k + 1) p).length = (upL k p).length + 1 := by rw [hu, List.length_append]; rfl
      exact ⟨(k + 1, A2, c2), ⟨rfl, rfl, by dsimp only; rw [hl2]; rfl, rfl, R.viaI rfl (by dsimp only; omega), trivial⟩, ⟨by dsimp only; omega, by dsimp only; rw [hl2, hu]; exact hM⟩, by dsimp only; omega⟩
    | false =>
      have hu := upL_f hpk
      (refine R.stepV ?_; (repeat' (first | (with_reducible refine And.intro ?_ ?_) | (with_reducible intro _))); all_goals refine R.Lft.mk ?_)
      exact ⟨(k + 1, A, c), ⟨rfl, rfl, by dsimp only; rw [hu]; rfl, rfl, R.viaI rfl (by dsimp only; omega), trivial⟩, ⟨by dsimp only; omega, by dsimp only; rw [hu]; assumption⟩, by dsimp only; omega⟩
  · obtain rfl : k = 2 * x.e.n := by omega
    (refine R.stepV ?_; (repeat' (first | (with_reducible refine And.intro ?_ ?_) | (with_reducible intro _))); all_goals refine R.Lft.mk ?_)
    exact ⟨A, c, rfl, hM.gives⟩
instance inh_Nt : Inhabited Nt := ⟨⟨⟨none, 0, 0, []⟩, ⟨none, 0, 0, []⟩, ⟨none, 0, 0, []⟩⟩⟩
instance inh_Rl : Inhabited Rl := ⟨⟨⟨none, 0, 0, []⟩, 0⟩⟩
attribute [local irreducible] wayB tailV headV inW dieB folB turnB takeB in
theorem from1_any (N : List Nt) (V : List Int) (Q : List Rl) (hN : N.length = 1) (hV : V.length = 1) (hQ : Q.length = 1) (g1 g2 g3 : Nat) (u : Int) (w : World) (h1 : R.Inp [] w (some ⟨g1, 0, none⟩) 1 3 (N.flatMap cNt)) (h2 : R.Inp [] w (some ⟨g2, 0, none⟩) 1 1 (V.flatMap R.cI)) (h3 : R.Inp [] w (some ⟨g3, 0, none⟩) 1 2 (Q.flatMap cRl))
    (hG : GNt w (nth N 0)) (hR : GRl w (nth Q 0)) (hv : In64 (nth V 0)) (hu : In64 u) : Calls Tryz.prog 45 ([Value.int .i64 u] ++ [R.ptr (some ⟨g1, 0, none⟩) 0 3 0, R.ptr (some ⟨g2, 0, none⟩) 0 1 0, R.ptr (some ⟨g3, 0, none⟩) 0 2 0]).toArray w fun e w' => e = .returned (.bool (takeB (nth N 0) (nth Q 0) (nth V 0) u)) ∧ Below w.heap.size w w' := by
  have hM := R.Own.start [] w
  have hL := hG.lasts
  have hLR := hR.lasts
  cases hf : folB (nth N 0) (nth V 0) u with
  | false =>
    rw [take_f hf]
    refine R.calls_of_WC (fn := Tryz.f45) Tryz.func45 rfl Tryz.ntmps45 (Nat.le_of_ble_eq_true rfl) ?_
    (refine R.stepV ?_; (repeat' (first | (with_reducible refine And.intro ?_ ?_) | (with_reducible intro _))); all_goals refine R.Lft.mk ?_)
    all_goals first
      | exact ⟨rfl, R.Own.below (by assumption)⟩
      | exact bbw_t (by assumption) hf
  | true =>
    rw [take_t hf]
    have hw := (fol_way hf).1
    refine R.calls_of_WC (fn := Tryz.f45) Tryz.func45 rfl Tryz.ntmps45 (Nat.le_of_ble_eq_true rfl) ?_
    (refine R.stepV ?_; (repeat' (first | (with_reducible refine And.intro ?_ ?_) | (with_reducible intro _))); all_goals refine R.Lft.mk ?_)
    all_goals first
      | exact ⟨rfl, R.Own.below (by assumption)⟩
      | exact bbw_t hf (by assumption)
end Go.Proofs.YtgciglnkofoacaaGreat
