/- What the document says a walk leads to: the walk; comp.Reach. -/
import Derived.Test.YtegbidklcaccjaaKe
import Derived.Test.YtegbidklcaccjaaKg
namespace Go.Proofs.Ytegbidklcaccjaa
open Go.RowKit
open R (In64 InU64 lo64 nth)
theorem met_iff {I : Ac} {n v : Nat} {B : List Bool} {L : List Nat} (h : Met I.arc n (List.replicate n false) B v L) (_hv : ∀ u w, I.arc u w → w < n) (hu : ∀ u w, I.arc u w → u < n) {x : Nat} (hx : x < n) (_hvn : v < n) : nth B x = true ↔ Rch I.arc v x := by
  have hm : ∀ x, x < n → (nth B x = true ↔ x ∈ L) := fun x hx => by
    rw [h.mem x hx, nth_rep_f]
    simp
  constructor
  · intro q
    exact (h.new x ((hm x hx).1 q)).2.2
  · intro q
    exact q.stay (X := fun z => nth B z = true) (fun a b ha hab => h.cl a ((hm a (hu a b hab)).1 ha) b hab) h.at_
section
variable (g : Gph) (w : World) (hG : GGph w g) (hm : MayG g)
include hG hm
set_option maxHeartbeats 4000000 in
theorem rreach43_any (v : Nat) (hv : v + 1 < g.st.n) : Calls Try.prog 20 #[.agg (cGph g).toArray, .int .i64 (v : Nat)] w fun e w' => ∃ A c B, B.length = g.st.n - 1 ∧ (∀ x, x < g.st.n - 1 → (nth B x = true ↔ Rch (acG g).arc v x)) ∧ e = .returned (.slice A (g.st.n - 1) c) ∧ R.Gives w w' A (g.st.n - 1) c 4 1 (B.flatMap R.cB) := by
  have hM := R.Own.start [] w
  have hI := acG_ok hm
  have n1 := hm.n1
  have n2 := hm.n2
  have n3 := hm.n3
  have n4 := hm.n4
  obtain ⟨n, hn⟩ : ∃ n, g.st.n - 1 = n := ⟨_, rfl⟩
  have hgn : (g.st.n : Int) - 1 = (n : Nat) := by omega
  have hIn : (acG g).n = n := hn
  have hsn : g.st.n = n + 1 := by omega
  rw [hn]
  have ek : ((g.st.n : Int) - 1).toNat = n := by omega
  have hG0 := hG
  obtain ⟨⟨hA, hal, hac, hag⟩, ⟨hB, hbl, hbc, hbg⟩, ⟨hC, hcl, hcc, hcg⟩⟩ := hG
  refine R.calls_of_WC (fn := Try.f20) Try.func20 rfl Try.ntmps20 (Nat.le_of_ble_eq_true rfl) ?_
  (refine R.stepH ?_; (repeat' (first | (with_reducible refine And.intro ?_ ?_) | (with_reducible intro _))); all_goals refine R.Lft.mk ?_)
  rename_i gb _ _ _ _ B _ _ w1 hM
  rw [ek] at hM ⊢
  obtain ⟨gB, curB, rfl, _⟩ := row_form (R.Own.ok hM _ (.head _)) (by omega)
  refine R.WC_loop (fun i : Nat × List Bool => [(2, .pointer (some ⟨gb, 0, none⟩)), (4, .slice none 0 0), (5, .slice (some ⟨gB, 0, none⟩) n n), (6, .int .i64 (i.1 : Nat))])
    (fun i w2 => i.1 ≤ n ∧ Rds (acG g) v i.1 i.2 ∧ R.Own [] w w2 [.row (some ⟨gB, 0, none⟩) n n 4 1 (i.2.flatMap R.cB), .blk gb 24 (cGph g)]) (fun i => n - i.1)
    ⟨(0, (List.replicate n false).set v true), ⟨rfl, rfl, rfl, rfl, trivial⟩, Nat.zero_le _, Rds.start hIn (by omega), hM⟩ ?_
  clear hM
  rintro ⟨r, B0⟩ f w2 ⟨hr, hR, hM⟩
  dsimp only at hr hR hM ⊢
  by_cases hlt : r < n
  · (refine R.stepH ?_; (repeat' (first | (with_reducible refine And.intro ?_ ?_) | (with_reducible intro _))); all_goals refine R.Lft.mk ?_)
    refine R.WC_loop (fun i : Nat × List Bool => [(2, .pointer (some ⟨gb, 0, none⟩)), (4, .slice none 0 0), (5, .slice (some ⟨gB, 0, none⟩) n n), (6, .int .i64 (r : Nat)), (7, .int .i64 (i.1 : Nat))])
      (fun i w2 => i.1 ≤ n ∧ Rin (acG g) v B0 i.2 i.1 ((acG g).S i.1) ∧ R.Own [] w w2 [.row (some ⟨gB, 0, none⟩) n n 4 1 (i.2.flatMap R.cB), .blk gb 24 (cGph g)]) (fun i => n - i.1)
      ⟨(0, B0), ⟨rfl, rfl, rfl, rfl, rfl, trivial⟩, Nat.zero_le _, Rin.start hR.1 _ (fun t ht => ht.1), R.ohm⟩ ?_
    clear hM
    rintro ⟨u, B1⟩ f w3 ⟨hu, hN, hM⟩
    dsimp only at hu hN hM ⊢
    have hBl := hN.r.len
    rw [hIn] at hBl
    by_cases hul : u < n
    · have hlo := hm.lo (v := u) (by omega)
      have hup := hm.up u (by omega)
      have hhi := hm.hi (v := u + 1) (by omega)
      have ek2 : ((u : Int) + 1).toNat = u + 1 := by omega
      have hS : (acG g).S u = (nth g.st.L u).toNat := rfl
      have hS1 : (acG g).S (u + 1) = (nth g.st.L (u + 1)).toNat := rfl
      (refine R.stepH ?_; (repeat' (first | (with_reducible refine And.intro ?_ ?_) | (with_reducible intro _))); all_goals refine R.Lft.mk ?_)
      refine R.WC_loop (fun i : Nat × List Bool => [(2, .pointer (some ⟨gb, 0, none⟩)), (4, .slice none 0 0), (5, .slice (some ⟨gB, 0, none⟩) n n), (6, .int .i64 (r : Nat)), (7, .int .i64 (u : Nat)), (8, .int .i64 (i.1 : Nat))])
        (fun i w2 => (acG g).S u ≤ i.1 ∧ i.1 ≤ (acG g).S (u + 1) ∧ Rin (acG g) v B0 i.2 u i.1 ∧ R.Own [] w w2 [.row (some ⟨gB, 0, none⟩) n n 4 1 (i.2.flatMap R.cB), .blk gb 24 (cGph g)]) (fun i => (acG g).S (u + 1) - i.1)
        ⟨((acG g).S u, B1), ⟨rfl, rfl, rfl, rfl, rfl, R.viaI rfl (by dsimp only; omega), trivial⟩, Nat.le_refl _, by dsimp only; omega, hN, R.ohm⟩ ?_
      clear hM hN hBl
      rintro ⟨i, B2⟩ f w4 ⟨hi1, hi2, hN, hM⟩
      dsimp only at hi1 hi2 hN hM ⊢
      have hBl := hN.r.len
      rw [hIn] at hBl
      by_cases hil : i < (acG g).S (u + 1)
      · have hlt' : ((i : Nat) : Int) < nth g.st.L ((u : Int) + 1).toNat := by rw [ek2]; omega
        have ha := (hm.arc u i (by omega) (by omega) (by omega))
        have a1 := ha.1
        have a2 := ha.2.1
        cases hb : nth B2 u with
        | true =>
          have hpt := hN.put hI (by rw [hIn]; exact hul) ⟨hi1, hil⟩ hb
          (refine R.stepH ?_; (repeat' (first | (with_reducible refine And.intro ?_ ?_) | (with_reducible intro _))); all_goals refine R.Lft.mk ?_)
          · refine ⟨(i + 1, B2.set ((acG g).H i) true), ⟨rfl, rfl, rfl, rfl, rfl, R.viaI rfl (by dsimp only; omega), trivial⟩, ⟨by dsimp only; omega, by dsimp only; omega, hpt, R.ohm⟩, by dsimp only; omega⟩
          · exact xx_tf hb (by assumption)
        | false =>
          have hnx := hN.next ((acG g).S (u + 1)) (fun t ht => ht.1) (fun q => by
            have := hN.up u q
            rw [hb] at this
            cases this)
          (refine R.stepH ?_; (repeat' (first | (with_reducible refine And.intro ?_ ?_) | (with_reducible intro _))); all_goals refine R.Lft.mk ?_)
          · exact xx_tf (by assumption) hb
          · exact ⟨(u + 1, B2), ⟨rfl, rfl, rfl, rfl, R.viaI rfl (by dsimp only; omega), trivial⟩, ⟨by dsimp only; omega, hnx, R.ohm⟩, by dsimp only; omega⟩
      · obtain rfl : i = (acG g).S (u + 1) := by omega
        have hlt' : ¬ (((acG g).S (u + 1) : Nat) : Int) < nth g.st.L ((u : Int) + 1).toNat := by rw [ek2]; omega
        have hnx := hN.next ((acG g).S (u + 1)) (fun t ht => ht.1) (fun _ t ht => ht.2)
        (refine R.stepH ?_; (repeat' (first | (with_reducible refine And.intro ?_ ?_) | (with_reducible intro _))); all_goals refine R.Lft.mk ?_)
        refine ⟨(u + 1, B2), ⟨rfl, rfl, rfl, rfl, R.viaI rfl (by dsimp only; omega), trivial⟩, ⟨by dsimp only; omega, hnx, R.ohm⟩, by dsimp only; omega⟩
    · obtain rfl : u = n := by omega
      have hst := hR.step (by rw [hIn]; exact hN)
      (refine R.stepH ?_; (repeat' (first | (with_reducible refine And.intro ?_ ?_) | (with_reducible intro _))); all_goals refine R.Lft.mk ?_)
      refine ⟨(r + 1, B1), ⟨rfl, rfl, rfl, R.viaI rfl (by dsimp only; omega), trivial⟩, ⟨by dsimp only; omega, hst, R.ohm⟩, by dsimp only; omega⟩
  · obtain rfl : r = n := by omega
    have hd := fun x hx => hR.done hIn (fun a b h => by have := Ac.arc_lt hI h; omega) (x := x) hx
    have hBl := hR.1.len
    rw [hIn] at hBl
    (refine R.stepH ?_; (repeat' (first | (with_reducible refine And.intro ?_ ?_) | (with_reducible intro _))); all_goals refine R.Lft.mk ?_)
    exact ⟨_, _, B0, hBl, hd, rfl, R.Own.gives (R.Own.sub R.ohm R.subl)⟩
theorem creach_all (v : Nat) (hv : v + 1 < g.st.n) : Calls Try.prog 15 #[.agg (cGph g).toArray, .int .i64 (v : Nat)] w fun e w' => ∃ A c B, B.length = g.st.n - 1 ∧ (∀ x, x < g.st.n - 1 → (nth B x = true ↔ Rch (acG g).arc v x)) ∧ e = .returned (.tuple #[.slice A (g.st.n - 1) c, .int .i64 0]) ∧ R.Gives w w' A (g.st.n - 1) c 4 1 (B.flatMap R.cB) := by
  have hM := R.Own.start [] w
  have hI := acG_ok hm
  have n1 := hm.n1
  have n2 := hm.n2
  obtain ⟨n, hn⟩ : ∃ n, g.st.n - 1 = n := ⟨_, rfl⟩
  have hIn : (acG g).n = n := hn
  have hsn : (g.st.n : Int) = (n : Nat) + 1 := by omega
  rw [hn]
  have ek : ((g.st.n : Int) - 1).toNat = n := by omega
  refine R.calls_of_WC (fn := Try.f15) Try.func15 rfl Try.ntmps15 (Nat.le_of_ble_eq_true rfl) ?_
  (refine R.stepH ?_; (repeat' (first | (with_reducible refine And.intro ?_ ?_) | (with_reducible intro _))); all_goals refine R.Lft.mk ?_)
  refine R.WO_call1 rfl rfl R.vv ?_
  refine (amay_any g _ (GGph.now R.ohm hG)).mono ?_
  rintro _ w3 ⟨rfl, hb3⟩
  have hM := R.Own.call R.ohm hb3
  refine ⟨_, rfl, ?_⟩
  rw [mayG_t hm]
  (refine R.stepH ?_; (repeat' (first | (with_reducible refine And.intro ?_ ?_) | (with_reducible intro _))); all_goals refine R.Lft.mk ?_)
  rename_i gb _ _ Bm _ hM
  rw [ek] at hM ⊢
  have hbl : (List.replicate n false).length = n := by simp
  have hP := (show R.Own [] w _ ([.row Bm n n 4 1 ((List.replicate n false).flatMap R.cB)] ++ [.blk gb 24 (cGph g)]) from hM).perm List.perm_append_comm
  refine R.WO_call3 rfl rfl R.vv R.vv R.vv ?_
  refine (creach_any g _ Bm n (List.replicate n false) v (R.Own.has hP) (GF.on hP (GF.of hG)) hm hn hbl (by omega)).mono ?_
  rintro _ w8 ⟨Al, L, cl, B2, rfl, hMet, hO8⟩
  have hM := R.Own.callF hP hO8
  have hmi := fun x hx => met_iff hMet (fun a b h => by have := Ac.arc_lt hI h; omega) (fun a b h => by have := h.1; omega) (x := x) hx (by omega)
  have hb2 := hMet.len
  rw [hbl] at hb2
  simp only [List.cons_append, List.nil_append] at hM
  refine ⟨_, rfl, ?_⟩
  (refine R.stepH ?_; (repeat' (first | (with_reducible refine And.intro ?_ ?_) | (with_reducible intro _))); all_goals refine R.Lft.mk ?_)
  exact ⟨Bm, n, B2, hb2, hmi, rfl, R.Own.gives (R.Own.sub R.ohm (List.Sublist.cons _ (List.Sublist.cons _ (List.Sublist.refl _))))⟩
end
theorem creach_not (g : Gph) (w : World) (v : Int) (hG : GGph w g) (hm : ¬ MayG g ∨ v < 0 ∨ (g.st.n : Int) - 1 ≤ v) : Calls Try.prog 15 #[.agg (cGph g).toArray, .int .i64 v] w fun e w' => e = .returned (.tuple #[.slice none 0 0, .int .i64 1]) ∧ Below w.heap.size w w' := by
  have hM := R.Own.start [] w
  obtain ⟨⟨hA, hal, hac, hag⟩, _⟩ := id hG
  refine R.calls_of_WC (fn := Try.f15) Try.func15 rfl Try.ntmps15 (Nat.le_of_ble_eq_true rfl) ?_
  (refine R.stepH ?_; (repeat' (first | (with_reducible refine And.intro ?_ ?_) | (with_reducible intro _))); all_goals refine R.Lft.mk ?_)
  refine R.WO_call1 rfl rfl R.vv ?_
  refine (amay_any g _ (GGph.now R.ohm hG)).mono ?_
  rintro _ w3 ⟨rfl, hb3⟩
  have hM := R.Own.call R.ohm hb3
  refine ⟨_, rfl, ?_⟩
  cases hb : mayG g with
  | false =>
    (refine R.stepH ?_; (repeat' (first | (with_reducible refine And.intro ?_ ?_) | (with_reducible intro _))); all_goals refine R.Lft.mk ?_; (all_goals (try (exact ⟨rfl, R.Own.below (by assumption)⟩))))
  | true =>
    have hm := hm.resolve_left fun q => q (mayG_p hb)
    (refine R.stepH ?_; (repeat' (first | (with_reducible refine And.intro ?_ ?_) | (with_reducible intro _))); all_goals refine R.Lft.mk ?_; (all_goals (try (exact ⟨rfl, R.Own.below (by assumption)⟩))))
end Go.Proofs.Ytegbidklcaccjaa
