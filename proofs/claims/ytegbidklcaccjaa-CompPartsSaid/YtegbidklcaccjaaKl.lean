/- comp.Sizes; the laws' own example; the law CompOrder, walked. -/
import Derived.Test.YtegbidklcaccjaaKg
import Derived.Test.YtegbidklcaccjaaGn
namespace Go.Proofs.Ytegbidklcaccjaa
open Go.ChangeShapes Go.WideShapes Go.ChangeAt Go.RowKit
open R (In64 InU64 lo64 nth)
theorem back_not (g : Gph) (w : World) (hG : GGph w g) (hm : ¬ MayG g) : Calls Try.prog 18 #[.agg (cGph g).toArray] w fun e w' => e = .returned (.tuple #[.agg #[.slice none 0 0, .slice none 0 0, .slice none 0 0], .int .i64 1]) ∧ Below w.heap.size w w' := by
  have hM := R.Own.start [] w
  refine R.calls_of_WC (fn := Try.f18) Try.func18 rfl Try.ntmps18 (Nat.le_of_ble_eq_true rfl) ?_
  (refine R.stepH ?_; (repeat' (first | (with_reducible refine And.intro ?_ ?_) | (with_reducible intro _))); all_goals refine R.Lft.mk ?_)
  refine R.WO_call1 rfl rfl R.vv ?_
  refine (amay_any g _ (GGph.now R.ohm hG)).mono ?_
  rintro _ w3 ⟨rfl, hb3⟩
  have hM := R.Own.call R.ohm hb3
  refine ⟨_, rfl, ?_⟩
  rw [mayG_f hm]
  (refine R.stepH ?_; (repeat' (first | (with_reducible refine And.intro ?_ ?_) | (with_reducible intro _))); all_goals refine R.Lft.mk ?_; (all_goals (try (exact ⟨rfl, R.Own.below (by assumption)⟩))))
theorem of_not (g : Gph) (w : World) (hG : GGph w g) (hm : ¬ MayG g) : Calls Try.prog 13 #[.agg (cGph g).toArray] w fun e w' => e = .returned (.tuple #[.slice none 0 0, .int .i64 1]) ∧ Below w.heap.size w w' := by
  have hM := R.Own.start [] w
  refine R.calls_of_WC (fn := Try.f13) Try.func13 rfl Try.ntmps13 (Nat.le_of_ble_eq_true rfl) ?_
  (refine R.stepH ?_; (repeat' (first | (with_reducible refine And.intro ?_ ?_) | (with_reducible intro _))); all_goals refine R.Lft.mk ?_)
  refine R.WO_call1 rfl rfl R.vv ?_
  refine (back_not g _ (GGph.now R.ohm hG) hm).mono ?_
  rintro _ w3 ⟨rfl, hb3⟩
  have hM := R.Own.call R.ohm hb3
  refine ⟨_, rfl, ?_⟩
  (refine R.stepH ?_; (repeat' (first | (with_reducible refine And.intro ?_ ?_) | (with_reducible intro _))); all_goals refine R.Lft.mk ?_; (all_goals (try (exact ⟨rfl, R.Own.below (by assumption)⟩))))
theorem sizes_not (g : Gph) (w : World) (hG : GGph w g) (hm : ¬ MayG g) : Calls Try.prog 14 #[.agg (cGph g).toArray] w fun e w' => e = .returned (.tuple #[.slice none 0 0, .int .i64 1]) ∧ Below w.heap.size w w' := by
  have hM := R.Own.start [] w
  refine R.calls_of_WC (fn := Try.f14) Try.func14 rfl Try.ntmps14 (Nat.le_of_ble_eq_true rfl) ?_
  (refine R.stepH ?_; (repeat' (first | (with_reducible refine And.intro ?_ ?_) | (with_reducible intro _))); all_goals refine R.Lft.mk ?_)
  refine R.WO_call1 rfl rfl R.vv ?_
  refine (of_not g _ (GGph.now R.ohm hG) hm).mono ?_
  rintro _ w3 ⟨rfl, hb3⟩
  have hM := R.Own.call R.ohm hb3
  refine ⟨_, rfl, ?_⟩
  (refine R.stepH ?_; (repeat' (first | (with_reducible refine And.intro ?_ ?_) | (with_reducible intro _))); all_goals refine R.Lft.mk ?_)
  refine R.WC_loop (fun i : Nat => [(2, .slice none 0 0), (4, .slice none 0 0), (6, .int .i64 1), (14, .slice none 0 0), (15, .int .i64 0), (16, .int .i64 0)])
    (fun i w2 => R.Own [] w w2 []) (fun i => 0) ⟨0, ⟨rfl, rfl, rfl, rfl, rfl, rfl, trivial⟩, R.Own.nul R.ohm⟩ ?_
  clear hM
  rintro i f w2 hM
  (refine R.stepH ?_; (repeat' (first | (with_reducible refine And.intro ?_ ?_) | (with_reducible intro _))); all_goals refine R.Lft.mk ?_; (all_goals (try (exact ⟨rfl, R.Own.below (by assumption)⟩))))
section
variable (g : Gph) (w : World) (hG : GGph w g) (hm : MayG g)
include hG hm
set_option maxHeartbeats 4000000 in
theorem sizes_any : Calls Try.prog 14 #[.agg (cGph g).toArray] w fun e w' => ∃ A c L, IsNum (scc (acG g).arc) (g.st.n - 1) L ∧ e = .returned (.tuple #[.slice A (szOf L).length c, .int .i64 0]) ∧ R.Gives w w' A (szOf L).length c 3 1 ((szOf L).flatMap R.cI) := by
  have hM := R.Own.start [] w
  have n1 := hm.n1
  have n2 := hm.n2
  obtain ⟨n, hn⟩ : ∃ n, g.st.n - 1 = n := ⟨_, rfl⟩
  refine R.calls_of_WC (fn := Try.f14) Try.func14 rfl Try.ntmps14 (Nat.le_of_ble_eq_true rfl) ?_
  (refine R.stepH ?_; (repeat' (first | (with_reducible refine And.intro ?_ ?_) | (with_reducible intro _))); all_goals refine R.Lft.mk ?_)
  refine R.WO_call1 rfl rfl R.vv ?_
  refine (of_any g _ (GGph.now R.ohm hG) hm).mono ?_
  rintro _ w3 ⟨Al, cl, L, hL, rfl, hGl⟩
  rw [hn] at hL hGl ⊢
  have hLl := hL.len
  have hM := R.Own.give R.ohm hGl
  refine ⟨_, rfl, ?_⟩
  (refine R.stepH ?_; (repeat' (first | (with_reducible refine And.intro ?_ ?_) | (with_reducible intro _))); all_goals refine R.Lft.mk ?_)
  refine R.WC_loop (fun i : Nat × Option Addr × Nat × List Int => [(2, .slice none 0 0), (4, .slice i.2.1 i.2.2.2.length i.2.2.1), (6, .int .i64 0), (14, .slice Al n cl), (15, .int .i64 (n : Nat)), (16, .int .i64 (i.1 : Nat))])
    (fun i w2 => i.1 ≤ n ∧ SzI (scc (acG g).arc) L i.1 i.2.2.2 ∧ R.Own [] w w2 [.row i.2.1 i.2.2.2.length i.2.2.1 3 1 (i.2.2.2.flatMap R.cI), .row Al n cl 3 1 (L.flatMap R.cI)]) (fun i => n - i.1)
    ⟨(0, none, 0, []), ⟨rfl, rfl, rfl, rfl, rfl, rfl, trivial⟩, Nat.zero_le _, .nil _ _, R.Own.nil (R.Own.sub R.ohm R.subl) _ _⟩ ?_
  clear hM
  rintro ⟨k, A, c, s⟩ f w4 ⟨hk, hS, hM⟩
  dsimp only at hk hS hM ⊢
  by_cases hlt : k < n
  · have hz := hL.sz k hlt
    have hst := hS.step hL hlt
    have hsl := hS.len
    have hfl := fresh_le (R := scc (acG g).arc) (v := k)
    have hat := hS.atS (p := nth L k) (i := (nth L k).toNat)
    have estep : szStep s (nth L k) = (szS s (nth L k)).set (nth L k).toNat (nth (szS s (nth L k)) (nth L k).toNat + 1) := rfl
    by_cases hnew : nth L k = (s.length : Nat)
    · rw [szS_new hnew] at hat estep
      have el : s.length + 1 = (szStep s (nth L k)).length := by rw [estep]; simp
      (refine R.stepH ?_; (repeat' (first | (with_reducible refine And.intro ?_ ?_) | (with_reducible intro _))); all_goals refine R.Lft.mk ?_)
      rename_i A2 c2 _ _ _ hM
      rw [← estep, el] at hM
      exact ⟨(k + 1, A2, c2, szStep s (nth L k)), ⟨rfl, R.viaS rfl el, rfl, rfl, rfl, R.viaI rfl (by dsimp only; omega), trivial⟩, ⟨by dsimp only; omega, hst, R.ohm⟩, by dsimp only; omega⟩
    · rw [szS_old hnew] at hat estep
      have el : s.length = (szStep s (nth L k)).length := by rw [estep]; simp
      obtain ⟨gA, curA, rfl, _⟩ := row_form (R.Own.ok hM _ (.head _)) (by omega)
      (refine R.stepH ?_; (repeat' (first | (with_reducible refine And.intro ?_ ?_) | (with_reducible intro _))); all_goals refine R.Lft.mk ?_)
      rename_i hM
      rw [← estep] at hM
      refine ⟨(k + 1, some ⟨gA, 0, none⟩, c, szStep s (nth L k)), ⟨rfl, R.viaS rfl el, rfl, rfl, rfl, R.viaI rfl (by dsimp only; omega), trivial⟩, ⟨by dsimp only; omega, hst, ?_⟩, by dsimp only; omega⟩
      dsimp only
      rw [← el]
      exact hM
  · obtain rfl : k = n := by omega
    have e := hS.eq
    rw [← hLl, List.take_length] at e
    (refine R.stepH ?_; (repeat' (first | (with_reducible refine And.intro ?_ ?_) | (with_reducible intro _))); all_goals refine R.Lft.mk ?_)
    subst e
    exact ⟨A, c, L, hL, rfl, R.Own.gives R.ohm⟩
end
def PairOk (W : World) (g : Gph) : Prop := GGph W g ∧ g.st.n = 4 ∧ g.hd.n = 2 ∧ g.wt.n = 2 ∧ g.st.L = [0, 1, 2, 2] ∧ g.hd.L = [1, 0] ∧ g.wt.L = [5, 6]
theorem pair_may {W : World} {g : Gph} (h : PairOk W g) : MayG g := by
  obtain ⟨_, h1, h2, h3, h4, h5, h6⟩ := h
  refine { n1 := by omega, n2 := by omega, n3 := by omega, n4 := by omega, s0 := by rw [h4]; rfl, s1 := by rw [h4, h1, h2]; rfl, up := fun v hv => ?_, arc := fun v i hv g1 g2 => ?_ }
  · rw [h4]
    have : v = 0 ∨ v = 1 ∨ v = 2 := by omega
    rcases this with rfl | rfl | rfl <;> decide
  · unfold okArc
    rw [h4] at g1 g2 ⊢
    rw [h5, h6, h1]
    have : v = 0 ∨ v = 1 ∨ v = 2 := by omega
    rcases this with rfl | rfl | rfl
    · have g2 : ((i : Nat) : Int) < 1 := g2
      obtain rfl : i = 0 := by omega
      decide
    · have g1 : (1 : Int) ≤ ((i : Nat) : Int) := g1
      have g2 : ((i : Nat) : Int) < 2 := g2
      obtain rfl : i = 1 := by omega
      decide
    · have g1 : (2 : Int) ≤ ((i : Nat) : Int) := g1
      have g2 : ((i : Nat) : Int) < 2 := g2
      omega
theorem pair_num {W : World} {g : Gph} (h : PairOk W g) {L : List Int} (hL : IsNum (scc (acG g).arc) (g.st.n - 1) L) : L = [0, 0, 1] := by
  obtain ⟨_, h1, h2, h3, h4, h5, h6⟩ := h
  have hS : ∀ v, (acG g).S v = (nth ([0, 1, 2, 2] : List Int) v).toNat := fun v => by show (nth g.st.L v).toNat = _; rw [h4]
  have hH : ∀ i, (acG g).H i = (nth ([1, 0] : List Int) i).toNat := fun v => by show (nth g.hd.L v).toNat = _; rw [h5]
  have hn : (acG g).n = 3 := by show g.st.n - 1 = 3; omega
  have s0 : (acG g).S 0 = 0 := hS 0
  have s1 : (acG g).S 1 = 1 := hS 1
  have s2 : (acG g).S 2 = 2 := hS 2
  have s01 : (acG g).S (0 + 1) = 1 := hS 1
  have s12 : (acG g).S (1 + 1) = 2 := hS 2
  have s3 : (acG g).S 3 = 2 := hS 3
  have a0 : (acG g).H 0 = 1 := hH 0
  have a1 : (acG g).H 1 = 0 := hH 1
  have e01 : (acG g).arc 0 1 := ⟨by omega, 0, ⟨by omega, by omega⟩, a0⟩
  have e10 : (acG g).arc 1 0 := ⟨by omega, 1, ⟨by omega, by omega⟩, a1⟩
  have hno : ∀ u, u < 2 → ¬ Rch (acG g).arc u 2 := fun u hu hr => by
    have := hr.stay (X := fun z => z < 2) (fun a b ha ⟨_, i, ⟨q1, q2⟩, e⟩ => by
      have : a = 0 ∨ a = 1 := by omega
      rcases this with rfl | rfl
      · obtain rfl : i = 0 := by omega
        omega
      · obtain rfl : i = 1 := by omega
        omega) hu
    omega
  have r01 : scc (acG g).arc 0 1 := ⟨.one e01, .one e10⟩
  rw [show g.st.n - 1 = 3 by omega] at hL
  have f1 : fresh (scc (acG g).arc) 1 = 1 := fresh_new fun x hx => absurd hx (Nat.not_lt_zero _)
  have f2 : fresh (scc (acG g).arc) 2 = 1 := (fresh_old (v := 1) (x := 0) (by omega) r01).trans f1
  have n0 : nth L 0 = 0 := by
    rcases hL.nu 0 (by omega) with ⟨u, hu, _⟩ | ⟨_, e⟩
    · omega
    · exact e
  have n1 : nth L 1 = 0 := by
    rcases hL.nu 1 (by omega) with ⟨u, hu, _, e⟩ | ⟨q, _⟩
    · rw [e, show u = 0 by omega, n0]
    · exact absurd r01 (q 0 (by omega))
  have n2 : nth L 2 = 1 := by
    rcases hL.nu 2 (by omega) with ⟨u, hu, q, _⟩ | ⟨_, e⟩
    · exact absurd q.1 (hno u hu)
    · rw [e, f2]; rfl
  have hl := hL.len
  match L, hl with
  | [a, b, c], _ =>
    have n0 : a = 0 := n0
    have n1 : b = 0 := n1
    have n2 : c = 1 := n2
    rw [n0, n1, n2]
set_option maxHeartbeats 2000000 in
theorem awake43 (w : World) : Calls Try.prog 12 #[] w fun e w' => e = .returned (.bool true) ∧ Below w.heap.size w w' := by
  have hM := R.Own.start [] w
  refine R.calls_of_WC (fn := Try.f12) Try.func12 rfl Try.ntmps12 (Nat.le_of_ble_eq_true rfl) ?_
  (refine R.stepH ?_; (repeat' (first | (with_reducible refine And.intro ?_ ?_) | (with_reducible intro _))); all_goals refine R.Lft.mk ?_)
  rename_i A1 c1 _ _ A2 c2 _ _ A3 c3 _ _ gb _ _ w1 hM
  have hPr : ∀ w0 l0, R.Own [] w w0 l0 → R.Res.row A1 4 c1 3 1 (([0, 1, 2, 2] : List Int).flatMap R.cI) ∈ l0 → R.Res.row A2 2 c2 3 1 (([1, 0] : List Int).flatMap R.cI) ∈ l0 → R.Res.row A3 2 c3 3 1 (([5, 6] : List Int).flatMap R.cI) ∈ l0 → PairOk w0 ⟨⟨A1, 4, c1, [0, 1, 2, 2]⟩, ⟨A2, 2, c2, [1, 0]⟩, ⟨A3, 2, c3, [5, 6]⟩⟩ := fun w0 l0 hM h1 h2 h3 =>
    ⟨⟨⟨R.Own.inp hM h1, rfl, cap_ofD hM h1, wfs (show ∀ v ∈ ([0, 1, 2, 2] : List Int), -1000 ≤ v ∧ v ≤ 1000 by decide) w0⟩, ⟨R.Own.inp hM h2, rfl, cap_ofD hM h2, wfs (show ∀ v ∈ ([1, 0] : List Int), -1000 ≤ v ∧ v ≤ 1000 by decide) w0⟩, ⟨R.Own.inp hM h3, rfl, cap_ofD hM h3, wfs (show ∀ v ∈ ([5, 6] : List Int), -1000 ≤ v ∧ v ≤ 1000 by decide) w0⟩⟩, rfl, rfl, rfl, rfl, rfl, rfl⟩
  refine R.WO_call1 rfl rfl R.vv ?_
  have hp := hPr _ _ R.ohm (.tail _ (.tail _ (.tail _ (.head _)))) (.tail _ (.tail _ (.head _))) (.tail _ (.head _))
  refine (of_any ⟨⟨A1, 4, c1, [0, 1, 2, 2]⟩, ⟨A2, 2, c2, [1, 0]⟩, ⟨A3, 2, c3, [5, 6]⟩⟩ _ hp.1 (pair_may hp)).mono ?_
  rintro _ w3 ⟨A4, c4, L, hL, rfl, hGv⟩
  obtain rfl := pair_num hp hL
  have hGv : R.Gives _ w3 A4 3 c4 3 1 (([0, 0, 1] : List Int).flatMap R.cI) := hGv
  have hM := R.Own.give R.ohm hGv
  refine ⟨.tuple #[.slice A4 3 c4, .int .i64 0], rfl, ?_⟩
  (refine R.stepH ?_; (repeat' (first | (with_reducible refine And.intro ?_ ?_) | (with_reducible intro _))); all_goals refine R.Lft.mk ?_)
  refine R.WO_call1 rfl rfl R.vv ?_
  have hp := hPr _ _ R.ohm (.tail _ (.tail _ (.tail _ (.tail _ (.head _))))) (.tail _ (.tail _ (.tail _ (.head _)))) (.tail _ (.tail _ (.head _)))
  refine (sizes_any ⟨⟨A1, 4, c1, [0, 1, 2, 2]⟩, ⟨A2, 2, c2, [1, 0]⟩, ⟨A3, 2, c3, [5, 6]⟩⟩ _ hp.1 (pair_may hp)).mono ?_
  rintro _ w4 ⟨A5, c5, L, hL, rfl, hGv⟩
  obtain rfl := pair_num hp hL
  have hGv : R.Gives _ w4 A5 2 c5 3 1 (([2, 1] : List Int).flatMap R.cI) := hGv
  have hM := R.Own.give R.ohm hGv
  refine ⟨.tuple #[.slice A5 2 c5, .int .i64 0], rfl, ?_⟩
  (refine R.stepH ?_; (repeat' (first | (with_reducible refine And.intro ?_ ?_) | (with_reducible intro _))); all_goals refine R.Lft.mk ?_)
  exact ⟨rfl, R.Own.below R.ohm⟩
instance con_awake43 : R.ConB Try.prog 12 #[] Unit (fun _ _ => True) (fun _ => .bool true) := ⟨fun _ w _ => awake43 w⟩
theorem corder_not (g : Gph) (w : World) (hG : GGph w g) (hm : ¬ MayG g) : Calls Try.prog 44 #[.agg (cGph g).toArray] w fun e w' => e = .returned (.tuple #[.slice none 0 0, .bool false, .int .i64 1]) ∧ Below w.heap.size w w' := by
  have hM := R.Own.start [] w
  refine R.calls_of_WC (fn := Try.f44) Try.func44 rfl Try.ntmps44 (Nat.le_of_ble_eq_true rfl) ?_
  (refine R.stepH ?_; (repeat' (first | (with_reducible refine And.intro ?_ ?_) | (with_reducible intro _))); all_goals refine R.Lft.mk ?_)
  refine R.WO_call1 rfl rfl R.vv ?_
  refine (amay_any g _ (GGph.now R.ohm hG)).mono ?_
  rintro _ w3 ⟨rfl, hb3⟩
  have hM := R.Own.call R.ohm hb3
  refine ⟨_, rfl, ?_⟩
  rw [mayG_f hm]
  (refine R.stepH ?_; (repeat' (first | (with_reducible refine And.intro ?_ ?_) | (with_reducible intro _))); all_goals refine R.Lft.mk ?_; (all_goals (try (exact ⟨rfl, R.Own.below (by assumption)⟩))))
theorem ordEnd_same {n : Nat} {S : List Nat} {L L' : List Int} {ok ok' : Bool} (h : OrdEnd n S L ok) (h' : OrdEnd n S L' ok') : L = L' ∧ ok = ok' := by
  rcases h with ⟨a1, a2, a3⟩ | ⟨a1, a2, a3⟩ <;> rcases h' with ⟨b1, b2, b3⟩ | ⟨b1, b2, b3⟩
  · exact ⟨by rw [a3, b3], by rw [a2, b2]⟩
  · omega
  · omega
  · exact ⟨by rw [a3, b3], by rw [a2, b2]⟩
theorem ordEnd_len {I : Ac} {n : Nat} {S : List Nat} {L : List Int} {ok : Bool} (h : OrdEnd n S L ok) (_hF : FullK I S) (_hn : I.n = n) : L.length ≤ n := by
  rcases h with ⟨a1, a2, a3⟩ | ⟨a1, a2, a3⟩
  · rw [a3]; exact Nat.zero_le _
  · rw [a3, asI_len]; omega
set_option maxHeartbeats 4000000 in
theorem compOrder_any (g : Gph) (w : World) (hG : GGph w g) : Calls Try.prog 10 #[.agg (cGph g).toArray] w fun e w' => e = .returned (.bool true) ∧ Below w.heap.size w w' := by
  have hM := R.Own.start [] w
  have hs63 := hG.1.2.2.1
  refine R.calls_of_WC (fn := Try.f10) Try.func10 rfl Try.ntmps10 (Nat.le_of_ble_eq_true rfl) ?_
  by_cases hl : g.st.n ≤ 40 ∧ g.hd.n ≤ 300 ∧ g.wt.n ≤ 300
  · obtain ⟨l1, l2, l3⟩ := hl
    have hd : decide (g.st.n ≤ 40 ∧ g.hd.n ≤ 300 ∧ g.wt.n ≤ 300) = true := decide_eq_true ⟨l1, l2, l3⟩
    (refine R.stepH ?_; (repeat' (first | (with_reducible refine And.intro ?_ ?_) | (with_reducible intro _))); all_goals refine R.Lft.mk ?_; (all_goals (try (exact ⟨rfl, R.Own.below (by assumption)⟩))))
    have hs : g.st.n ≤ 20 := by omega
    rcases Classical.em (MayG g) with hm | hm
    · refine R.WO_call1 rfl rfl R.vv ?_
      refine (corder_any g _ (GGph.now R.ohm hG) hm (by omega) (by omega)).mono ?_
      rintro _ w3 ⟨S, A1, c1, L1, ok1, hF1, hE1, rfl, hG1⟩
      have hM := R.Own.give R.ohm hG1
      refine ⟨_, rfl, ?_⟩
      (refine R.stepH ?_; (repeat' (first | (with_reducible refine And.intro ?_ ?_) | (with_reducible intro _))); all_goals refine R.Lft.mk ?_)
      refine R.WO_call1 rfl rfl R.vv ?_
      refine (rmay_any g _ (GGph.now R.ohm hG)).mono ?_
      rintro _ w4 ⟨rfl, hb4⟩
      have hM := R.Own.call R.ohm hb4
      refine ⟨_, rfl, ?_⟩
      rw [mayG_t hm]
      (refine R.stepH ?_; (repeat' (first | (with_reducible refine And.intro ?_ ?_) | (with_reducible intro _))); all_goals refine R.Lft.mk ?_)
      refine R.WO_call1 rfl rfl R.vv ?_
      refine (rorder_any g _ (GGph.now R.ohm hG) hm (by omega)).mono ?_
      rintro _ w5 ⟨S2, A2, c2, L2, ok2, hF2, hE2, rfl, hG2⟩
      obtain rfl := hF1.unique hF2
      obtain ⟨rfl, rfl⟩ := ordEnd_same hE1 hE2
      have hll := ordEnd_len hE1 hF1 (n := g.st.n - 1) rfl
      have hM := R.Own.give R.ohm hG2
      refine ⟨_, rfl, ?_⟩
      have hok : decide (ok1 = ok1) = true := decide_eq_true rfl
      (refine R.stepH ?_; (repeat' (first | (with_reducible refine And.intro ?_ ?_) | (with_reducible intro _))); all_goals refine R.Lft.mk ?_)
      · refine R.WO_call2 rfl rfl R.vv R.vv ?_
        refine (same01 A1 A2 _ c1 _ c2 L1 L1 _ (R.Own.inp R.ohm R.memb) rfl (by omega) (R.Own.inp R.ohm (.head _)) rfl).mono ?_
        rintro _ w6 ⟨rfl, hb6⟩
        have hM := R.Own.call R.ohm hb6
        refine ⟨_, rfl, ?_⟩
        have hdl : decide (L1 = L1) = true := decide_eq_true rfl
        rw [hdl]
        (refine R.stepH ?_; (repeat' (first | (with_reducible refine And.intro ?_ ?_) | (with_reducible intro _))); all_goals refine R.Lft.mk ?_; (all_goals (try (exact ⟨rfl, R.Own.below (by assumption)⟩))))
      · exact absurd rfl (by assumption)
    · refine R.WO_call1 rfl rfl R.vv ?_
      refine (corder_not g _ (GGph.now R.ohm hG) hm).mono ?_
      rintro _ w3 ⟨rfl, hb3⟩
      have hM := R.Own.call R.ohm hb3
      refine ⟨_, rfl, ?_⟩
      (refine R.stepH ?_; (repeat' (first | (with_reducible refine And.intro ?_ ?_) | (with_reducible intro _))); all_goals refine R.Lft.mk ?_)
      refine R.WO_call1 rfl rfl R.vv ?_
      refine (rmay_any g _ (GGph.now R.ohm hG)).mono ?_
      rintro _ w4 ⟨rfl, hb4⟩
      have hM := R.Own.call R.ohm hb4
      refine ⟨_, rfl, ?_⟩
      rw [mayG_f hm]
      (refine R.stepH ?_; (repeat' (first | (with_reducible refine And.intro ?_ ?_) | (with_reducible intro _))); all_goals refine R.Lft.mk ?_; (all_goals (try (exact ⟨rfl, R.Own.below (by assumption)⟩))))
  · have hd : decide (g.st.n ≤ 40 ∧ g.hd.n ≤ 300 ∧ g.wt.n ≤ 300) = false := decide_eq_false hl
    (refine R.stepH ?_; (repeat' (first | (with_reducible refine And.intro ?_ ?_) | (with_reducible intro _))); all_goals refine R.Lft.mk ?_; (all_goals (try (exact ⟨rfl, R.Own.below (by assumption)⟩))))
    exact xb_f hd (by assumption)
set_option maxRecDepth 100000 in
theorem walk_CompOrder {H : Type} {enc : TypeId × Value → H} (W : World) (base : Nat) (args : Array Value) (ds : List (DataW H)) (ps : List MemPlace) (hA : DataW.TrodAll enc Try.prog W 0 (fun _ => true) true [24] args.toList ds ps)
    (hval : ∀ (j : Nat) t v, #[24][j]? = some t → args[j]? = some v → Value.okWide Try.prog W .any base t v) :
    Calls Try.prog 10 args W fun e W' => e = .returned (.bool true) ∧ Below W.heap.size W W' := by
  obtain ⟨v0, d0, rfl, rfl, h0⟩ := trodAll_one hA
  obtain ⟨z0, q0, g0, a0, b0⟩ := R.open_arg (hval 0 24 v0 rfl rfl) h0
  obtain rfl := a0 (by kernel_rfl)
  exact compOrder_any z0 W g0
end Go.Proofs.Ytegbidklcaccjaa
