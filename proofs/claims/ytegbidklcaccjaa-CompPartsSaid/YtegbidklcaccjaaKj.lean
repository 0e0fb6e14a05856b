/- The law CompParts: the walk. -/
import Derived.Test.YtegbidklcaccjaaKi
import Derived.Test.YtegbidklcaccjaaKl
namespace Go.Proofs.Ytegbidklcaccjaa
open Go.ChangeShapes Go.WideShapes Go.ChangeAt Go.RowKit
open R (In64 InU64 lo64 nth)
theorem scc_back {A B : Nat → Nat → Prop} (h : ∀ u v, B u v ↔ A v u) (u v : Nat) : scc B u v ↔ scc A u v := by
  have f : ∀ {x y}, Rch B x y → Rch A y x := fun hr => hr.flip fun a b q => (h a b).1 q
  have g : ∀ {x y}, Rch A x y → Rch B y x := fun hr => hr.flip fun a b q => (h b a).2 q
  exact ⟨fun q => ⟨f q.2, f q.1⟩, fun q => ⟨g q.2, g q.1⟩⟩
theorem scc_num {A : Nat → Nat → Prop} {n : Nat} {L L' : List Int} (h : IsNum (scc A) n L) (h' : IsNum (scc A) n L') : L = L' := h.unique h' (fun _ _ q => q.symm) (fun _ _ _ p q => p.trans q)
theorem sz_len {R : Nat → Nat → Prop} {n : Nat} {L : List Int} (h : IsNum R n L) : ∀ k, k ≤ n → SzI R L k (szOf (L.take k)) := by
  intro k
  induction k with
  | zero => intro _; exact SzI.nil R L
  | succ k ih =>
    intro hk
    have := (ih (by omega)).step h (by omega)
    rw [szOf_succ (by rw [h.len]; omega)]
    exact this
/-- What comp.Reach tells. -/
def RchIs (g : Gph) (v : Int) (n m : Nat) (x : Int) (B : List Bool) : Prop := (0 ≤ v ∧ v < (n : Nat) ∧ m = n ∧ x = 0 ∧ B.length = n ∧ ∀ y, y < n → (nth B y = true ↔ Rch (acG g).arc v.toNat y)) ∨ (¬ (0 ≤ v ∧ v < (n : Nat)) ∧ m = 0 ∧ x = 1 ∧ B.length = 0)
theorem bne_tt {a b : Bool} {p : Prop} (e : a = b) (h : (!(a == b)) = true) : p := by subst e; cases a <;> cases h
theorem bool_eq {a b : Bool} (h : a = true ↔ b = true) : a = b := by
  cases a <;> cases b <;> simp at h ⊢
section
variable (g : Gph) (w : World) (hG : GGph w g)
include hG
theorem reach_u (hm : MayG g) (v : Int) : Calls Try.prog 15 #[.agg (cGph g).toArray, .int .i64 v] w fun e w' => ∃ A m c B x, RchIs g v (g.st.n - 1) m x B ∧ e = .returned (.tuple #[.slice A m c, .int .i64 x]) ∧ R.Gives w w' A m c 4 1 (B.flatMap R.cB) := by
  have n1 := hm.n1
  by_cases hv : 0 ≤ v ∧ v < ((g.st.n - 1 : Nat) : Int)
  · obtain ⟨k, rfl⟩ : ∃ k : Nat, v = (k : Nat) := ⟨v.toNat, by omega⟩
    refine (creach_all g w hG hm k (by omega)).mono ?_
    rintro _ w3 ⟨A, c, B, h1, h2, rfl, h3⟩
    exact ⟨A, _, c, B, 0, .inl ⟨hv.1, hv.2, rfl, rfl, h1, h2⟩, rfl, h3⟩
  · refine (creach_not g w v hG (.inr (by omega))).mono ?_
    rintro _ w3 ⟨rfl, hb⟩
    exact ⟨none, 0, 0, [], 1, .inr ⟨hv, rfl, rfl, rfl⟩, rfl, (R.Own.nil ((R.Own.start [] w).call hb) _ _).gives⟩
set_option maxHeartbeats 8000000 in
theorem compParts_any (v : Int) (hv64 : In64 v) : Calls Try.prog 3 #[.agg (cGph g).toArray, .int .i64 v] w fun e w' => e = .returned (.bool true) ∧ Below w.heap.size w w' := by
  have hM := R.Own.start [] w
  have hs63 := hG.1.2.2.1
  refine R.calls_of_WC (fn := Try.f3) Try.func3 rfl Try.ntmps3 (Nat.le_of_ble_eq_true rfl) ?_
  by_cases hl : g.st.n ≤ 40 ∧ g.hd.n ≤ 300 ∧ g.wt.n ≤ 300
  · obtain ⟨l1, l2, l3⟩ := hl
    have hd : decide (g.st.n ≤ 40 ∧ g.hd.n ≤ 300 ∧ g.wt.n ≤ 300) = true := decide_eq_true ⟨l1, l2, l3⟩
    (refine R.stepH ?_; (repeat' (first | (with_reducible refine And.intro ?_ ?_) | (with_reducible intro _))); all_goals refine R.Lft.mk ?_; (all_goals (try (exact ⟨rfl, R.Own.below (by assumption)⟩))))
    have hs : g.st.n ≤ 20 := by omega
    rcases Classical.em (MayG g) with hm | hm
    · have n1 := hm.n1
      obtain ⟨n, hn⟩ : ∃ n, g.st.n - 1 = n := ⟨_, rfl⟩
      have hI := acG_ok hm
      refine R.WO_call1 rfl rfl R.vv ?_
      refine (of_any g _ (GGph.now R.ohm hG) hm).mono ?_
      rintro _ w3 ⟨A1, c1, L, hL, rfl, hG1⟩
      rw [hn] at hL hG1 ⊢
      have hLl := hL.len
      have hM := R.Own.give R.ohm hG1
      refine ⟨_, rfl, ?_⟩
      (refine R.stepH ?_; (repeat' (first | (with_reducible refine And.intro ?_ ?_) | (with_reducible intro _))); all_goals refine R.Lft.mk ?_)
      refine R.WO_call1 rfl rfl R.vv ?_
      refine (sizes_any g _ (GGph.now R.ohm hG) hm).mono ?_
      rintro _ w4 ⟨A2, c2, L2, hL2, rfl, hG2⟩
      rw [hn] at hL2
      obtain rfl := scc_num hL hL2
      have hM := R.Own.give R.ohm hG2
      refine ⟨_, rfl, ?_⟩
      (refine R.stepH ?_; (repeat' (first | (with_reducible refine And.intro ?_ ?_) | (with_reducible intro _))); all_goals refine R.Lft.mk ?_)
      refine R.WO_call2 rfl rfl R.vv R.vv ?_
      refine (reach_u g _ (GGph.now R.ohm hG) hm v).mono ?_
      rintro _ w5 ⟨A3, m, c3, B, x, hR, rfl, hG3⟩
      rw [hn] at hR
      have hM := R.Own.give R.ohm hG3
      refine ⟨_, rfl, ?_⟩
      (refine R.stepH ?_; (repeat' (first | (with_reducible refine And.intro ?_ ?_) | (with_reducible intro _))); all_goals refine R.Lft.mk ?_)
      refine R.WO_call1 rfl rfl R.vv ?_
      refine (rmay_any g _ (GGph.now R.ohm hG)).mono ?_
      rintro _ w6 ⟨rfl, hb6⟩
      have hM := R.Own.call R.ohm hb6
      refine ⟨_, rfl, ?_⟩
      rw [mayG_t hm]
      (refine R.stepH ?_; (repeat' (first | (with_reducible refine And.intro ?_ ?_) | (with_reducible intro _))); all_goals refine R.Lft.mk ?_)
      refine R.WO_call1 rfl rfl R.vv ?_
      refine (rparts43_any g _ (GGph.now R.ohm hG) hm).mono ?_
      rintro _ w7 ⟨A4, c4, L4, hL4, rfl, hG4⟩
      rw [hn] at hL4 hG4 ⊢
      obtain rfl := scc_num hL hL4
      have hM := R.Own.give R.ohm hG4
      refine ⟨_, rfl, ?_⟩
      (refine R.stepH ?_; (repeat' (first | (with_reducible refine And.intro ?_ ?_) | (with_reducible intro _))); all_goals refine R.Lft.mk ?_)
      rename_i gb _ _ _ _ _ _ _ _ _ _ As cs _ hM
      refine R.WC_loop (fun i : Nat × Option Addr × Nat × List Int => [(1, .int .i64 v), (2, .pointer (some ⟨gb, 0, none⟩)), (4, .bool false), (5, .slice A1 n c1), (6, .int .i64 0), (7, .slice A2 (szOf L).length c2), (8, .int .i64 0), (9, .slice A3 m c3), (10, .int .i64 x), (11, .slice A4 n c4), (12, .slice i.2.1 i.2.2.2.length i.2.2.1), (13, .int .i64 (i.1 : Nat))])
        (fun i w2 => i.1 ≤ n ∧ SzI (scc (acG g).arc) L i.1 i.2.2.2 ∧ R.Own [] w w2 [.row i.2.1 i.2.2.2.length i.2.2.1 3 1 (i.2.2.2.flatMap R.cI), .row A4 n c4 3 1 (L.flatMap R.cI), .row A3 m c3 4 1 (B.flatMap R.cB), .row A2 (szOf L).length c2 3 1 ((szOf L).flatMap R.cI), .row A1 n c1 3 1 (L.flatMap R.cI), .blk gb 24 (cGph g)]) (fun i => n - i.1)
        ⟨(0, As, cs, []), ⟨rfl, rfl, rfl, rfl, rfl, rfl, rfl, rfl, rfl, rfl, rfl, rfl, trivial⟩, Nat.zero_le _, .nil _ _, hM⟩ ?_
      clear hM
      rintro ⟨k, As, cs, s⟩ f w8 ⟨hk, hS, hM⟩
      dsimp only at hk hS hM ⊢
      by_cases hlt : k < n
      · have hz := hL.sz k hlt
        have hst := hS.step hL hlt
        have hsl := hS.len
        have hfl := fresh_le (R := scc (acG g).arc) (v := k)
        have hat := hS.atS (p := nth L k) (i := (nth L k).toNat)
        have estep : szStep s (nth L k) = (szS s (nth L k)).set (nth L k).toNat (nth (szS s (nth L k)) (nth L k).toNat + 1) := rfl
        by_cases hnew : nth L k = (s.length : Nat)
        · rw [szS_new hnew] at hat estep
          have el : s.length + 1 = (szStep s (nth L k)).length := by rw [estep]; simp
          (refine R.stepH ?_; (repeat' (first | (with_reducible refine And.intro ?_ ?_) | (with_reducible intro _))); all_goals refine R.Lft.mk ?_)
          rename_i Ax cx _ _ _ hM
          rw [← estep, el] at hM
          exact ⟨(k + 1, Ax, cx, szStep s (nth L k)), ⟨rfl, rfl, rfl, rfl, rfl, rfl, rfl, rfl, rfl, rfl, R.viaS rfl el, R.viaI rfl (by dsimp only; omega), trivial⟩, ⟨by dsimp only; omega, hst, R.ohm⟩, by dsimp only; omega⟩
        · rw [szS_old hnew] at hat estep
          have el : s.length = (szStep s (nth L k)).length := by rw [estep]; simp
          have hltz : nth L k < (s.length : Nat) := by omega
          obtain ⟨gA, curA, rfl, _⟩ := row_form (R.Own.ok hM _ (.head _)) (by omega)
          (refine R.stepH ?_; (repeat' (first | (with_reducible refine And.intro ?_ ?_) | (with_reducible intro _))); all_goals refine R.Lft.mk ?_)
          rename_i hM
          rw [← estep] at hM
          refine ⟨(k + 1, some ⟨gA, 0, none⟩, cs, szStep s (nth L k)), ⟨rfl, rfl, rfl, rfl, rfl, rfl, rfl, rfl, rfl, rfl, R.viaS rfl el, R.viaI rfl (by dsimp only; omega), trivial⟩, ⟨by dsimp only; omega, hst, ?_⟩, by dsimp only; omega⟩
          dsimp only
          rw [← el]
          exact hM
      · obtain rfl : k = n := by omega
        have e := hS.eq
        rw [← hLl, List.take_length] at e
        subst e
        have hlz : (szOf L).length ≤ k := by
          have q1 := (sz_len hL k (Nat.le_refl _)).len
          rw [← hLl, List.take_length, hLl] at q1
          rw [q1]
          exact fresh_le
        (refine R.stepH ?_; (repeat' (first | (with_reducible refine And.intro ?_ ?_) | (with_reducible intro _))); all_goals refine R.Lft.mk ?_)
        refine R.WO_call1 rfl rfl R.vv ?_
        refine (aback_any g _ (GGph.now R.ohm hG) hm).mono ?_
        rintro _ w9 ⟨b, M, hb, hbi, rfl, hOb⟩
        rw [hn] at hb hbi
        have hM := R.Own.giveN R.ohm hOb
        simp only [List.cons_append, List.nil_append] at hM
        unfold bRows at hM
        have hbk := hbi.bks hm hn
        have hoff : off M k ≤ 200000 := by rw [hbi.cnt]; omega
        have hbm := hbk.may hb (by omega) hoff
        have harc : ∀ u v, (acG b).arc u v ↔ (acG g).arc v u := fun u v => hbi.arc hm hn hb
        have hbn : b.st.n - 1 = k := by rw [hb.sn]; rfl
        refine ⟨_, rfl, ?_⟩
        (refine R.stepH ?_; (repeat' (first | (with_reducible refine And.intro ?_ ?_) | (with_reducible intro _))); all_goals refine R.Lft.mk ?_)
        refine R.WO_call1 rfl rfl R.vv ?_
        refine (of_any b _ (bk_GG R.ohm (by unfold bRows; intro r hr; simp only [List.mem_cons, List.not_mem_nil, or_false] at hr ⊢; rcases hr with h | h | h <;> simp [h]) hbk hb (by omega) hoff) hbm).mono ?_
        rintro _ w10 ⟨A6, c6, L6, hL6, rfl, hG6⟩
        rw [hbn] at hL6 hG6 ⊢
        have hL7 := hL6.congr (R' := scc (acG g).arc) fun u v _ _ => scc_back harc u v
        obtain rfl := scc_num hL hL7
        have hM := R.Own.give R.ohm hG6
        refine ⟨_, rfl, ?_⟩
        have hdl : decide (L = L) = true := decide_eq_true rfl
        have hds : decide (szOf L = szOf L) = true := decide_eq_true rfl
        (refine R.stepH ?_; (repeat' (first | (with_reducible refine And.intro ?_ ?_) | (with_reducible intro _))); all_goals refine R.Lft.mk ?_)
        refine R.WO_call2 rfl rfl R.vv R.vv ?_
        refine (same01 A1 A4 _ c1 _ c4 L L _ (R.Own.inp R.ohm R.memb) hLl.symm (by omega) (R.Own.inp R.ohm R.memb) hLl.symm).mono ?_
        rintro _ w11 ⟨rfl, hb11⟩
        have hM := R.Own.call R.ohm hb11
        refine ⟨_, rfl, ?_⟩
        rw [hdl]
        (refine R.stepH ?_; (repeat' (first | (with_reducible refine And.intro ?_ ?_) | (with_reducible intro _))); all_goals refine R.Lft.mk ?_)
        refine R.WO_call2 rfl rfl R.vv R.vv ?_
        refine (same01 A2 As _ c2 _ cs (szOf L) (szOf L) _ (R.Own.inp R.ohm R.memb) rfl (by omega) (R.Own.inp R.ohm R.memb) rfl).mono ?_
        rintro _ w12 ⟨rfl, hb12⟩
        have hM := R.Own.call R.ohm hb12
        refine ⟨_, rfl, ?_⟩
        rw [hds]
        (refine R.stepH ?_; (repeat' (first | (with_reducible refine And.intro ?_ ?_) | (with_reducible intro _))); all_goals refine R.Lft.mk ?_)
        refine R.WO_call2 rfl rfl R.vv R.vv ?_
        refine (same01 A6 A4 _ c6 _ c4 L L _ (R.Own.inp R.ohm R.memb) hLl.symm (by omega) (R.Own.inp R.ohm R.memb) hLl.symm).mono ?_
        rintro _ w13 ⟨rfl, hb13⟩
        have hM := R.Own.call R.ohm hb13
        refine ⟨_, rfl, ?_⟩
        rw [hdl]
        rcases hR with ⟨v0, v1, rfl, rfl, hBl, hBr⟩ | ⟨hno, rfl, rfl, hBl⟩
        · obtain ⟨j, rfl⟩ : ∃ j : Nat, v = (j : Nat) := ⟨v.toNat, by omega⟩
          rw [Int.toNat_natCast] at hBr
          (refine R.stepH ?_; (repeat' (first | (with_reducible refine And.intro ?_ ?_) | (with_reducible intro _))); all_goals refine R.Lft.mk ?_)
          refine R.WO_call2 rfl rfl R.vv R.vv ?_
          refine (rreach43_any g _ (GGph.now R.ohm hG) hm j (by omega)).mono ?_
          rintro _ w14 ⟨A7, c7, B7, hBl7, hBr7, rfl, hG7⟩
          rw [hn] at hBl7 hBr7 hG7 ⊢
          have hM := R.Own.give R.ohm hG7
          refine ⟨_, rfl, ?_⟩
          (refine R.stepH ?_; (repeat' (first | (with_reducible refine And.intro ?_ ?_) | (with_reducible intro _))); all_goals refine R.Lft.mk ?_)
          refine R.WC_loop (fun i : Nat => [(4, .bool false), (9, .slice A3 m c3), (18, .slice A7 m c7), (19, .int .i64 (i : Nat))])
            (fun i w2 => i ≤ m ∧ R.Own [] w w2 [.row A7 m c7 4 1 (B7.flatMap R.cB), .row A3 m c3 4 1 (B.flatMap R.cB)]) (fun i => m - i)
            ⟨0, ⟨rfl, rfl, rfl, rfl, trivial⟩, Nat.zero_le _, R.pk (r := .row A7 _ _ _ _ _) (R.pk (r := .row A3 _ _ _ _ _) R.ohm) |>.sub (List.sublist_append_left [_, _] _)⟩ ?_
          clear hM
          rintro i f w15 ⟨hi, hM⟩
          by_cases hil : i < m
          · have heq : nth B i = nth B7 i := bool_eq ((hBr i hil).trans (hBr7 i hil).symm)
            (refine R.stepH ?_; (repeat' (first | (with_reducible refine And.intro ?_ ?_) | (with_reducible intro _))); all_goals refine R.Lft.mk ?_)
            · exact bne_tt heq (by assumption)
            · exact ⟨i + 1, ⟨rfl, rfl, rfl, R.viaI rfl (by omega), trivial⟩, ⟨by omega, R.ohm⟩, by omega⟩
          · (refine R.stepH ?_; (repeat' (first | (with_reducible refine And.intro ?_ ?_) | (with_reducible intro _))); all_goals refine R.Lft.mk ?_; (all_goals (try (exact ⟨rfl, R.Own.below (by assumption)⟩))))
        · (refine R.stepH ?_; (repeat' (first | (with_reducible refine And.intro ?_ ?_) | (with_reducible intro _))); all_goals refine R.Lft.mk ?_; (all_goals (try (exact ⟨rfl, R.Own.below (by assumption)⟩))))
    · refine R.WO_call1 rfl rfl R.vv ?_
      refine (of_not g _ (GGph.now R.ohm hG) hm).mono ?_
      rintro _ w3 ⟨rfl, hb3⟩
      have hM := R.Own.call R.ohm hb3
      refine ⟨_, rfl, ?_⟩
      (refine R.stepH ?_; (repeat' (first | (with_reducible refine And.intro ?_ ?_) | (with_reducible intro _))); all_goals refine R.Lft.mk ?_)
      refine R.WO_call1 rfl rfl R.vv ?_
      refine (sizes_not g _ (GGph.now R.ohm hG) hm).mono ?_
      rintro _ w4 ⟨rfl, hb4⟩
      have hM := R.Own.call R.ohm hb4
      refine ⟨_, rfl, ?_⟩
      (refine R.stepH ?_; (repeat' (first | (with_reducible refine And.intro ?_ ?_) | (with_reducible intro _))); all_goals refine R.Lft.mk ?_)
      refine R.WO_call2 rfl rfl R.vv R.vv ?_
      refine (creach_not g _ v (GGph.now R.ohm hG) (.inl hm)).mono ?_
      rintro _ w5 ⟨rfl, hb5⟩
      have hM := R.Own.call R.ohm hb5
      refine ⟨_, rfl, ?_⟩
      (refine R.stepH ?_; (repeat' (first | (with_reducible refine And.intro ?_ ?_) | (with_reducible intro _))); all_goals refine R.Lft.mk ?_)
      refine R.WO_call1 rfl rfl R.vv ?_
      refine (rmay_any g _ (GGph.now R.ohm hG)).mono ?_
      rintro _ w6 ⟨rfl, hb6⟩
      have hM := R.Own.call R.ohm hb6
      refine ⟨_, rfl, ?_⟩
      rw [mayG_f hm]
      (refine R.stepH ?_; (repeat' (first | (with_reducible refine And.intro ?_ ?_) | (with_reducible intro _))); all_goals refine R.Lft.mk ?_; (all_goals (try (exact ⟨rfl, R.Own.below (by assumption)⟩))))
  · have hd : decide (g.st.n ≤ 40 ∧ g.hd.n ≤ 300 ∧ g.wt.n ≤ 300) = false := decide_eq_false hl
    (refine R.stepH ?_; (repeat' (first | (with_reducible refine And.intro ?_ ?_) | (with_reducible intro _))); all_goals refine R.Lft.mk ?_; (all_goals (try (exact ⟨rfl, R.Own.below (by assumption)⟩))))
    exact xb_f hd (by assumption)
end
set_option maxRecDepth 100000 in
theorem walk_CompParts {H : Type} {enc : TypeId × Value → H} (W : World) (base : Nat) (args : Array Value) (ds : List (DataW H)) (ps : List MemPlace) (hA : DataW.TrodAll enc Try.prog W 0 (fun _ => true) true [24, 3] args.toList ds ps)
    (hval : ∀ (j : Nat) t v, #[24, 3][j]? = some t → args[j]? = some v → Value.okWide Try.prog W .any base t v) :
    Calls Try.prog 3 args W fun e W' => e = .returned (.bool true) ∧ Below W.heap.size W W' := by
  obtain ⟨v0, v1, d0, d1, p0, p1, rfl, rfl, rfl, h0, h1⟩ := trodAll_two hA
  obtain ⟨z0, q0, g0, a0, b0⟩ := R.open_arg (hval 0 24 v0 rfl rfl) h0
  obtain ⟨z1, q1, g1, a1, b1⟩ := R.open_arg (hval 1 3 v1 rfl rfl) h1
  obtain rfl := a0 (by kernel_rfl)
  obtain rfl := b1 (by kernel_rfl) _ rfl
  exact compParts_any z0 W g0 z1 (by have := bounds_i64 g1; unfold In64; omega)
end Go.Proofs.Ytegbidklcaccjaa
