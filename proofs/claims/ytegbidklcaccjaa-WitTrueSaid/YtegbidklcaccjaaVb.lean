/- The law of chapter 22: the walk, what is past lies above. -/
import Derived.Test.YtegbidklcaccjaaVv
namespace Go.Proofs.Ytegbidklcaccjaa
open Go.ChangeShapes Go.WideShapes Go.ChangeAt Go.RowKit
open R (In64 InU64 lo64 nth)
section
variable (g : Gph) (x : Wt) (w : World) (hG : GGph w g) (hx : GWt w x) (hp : (g.st.n : Int) - 1 ≤ x.past)
include hG hx hp
set_option maxHeartbeats 8000000 in
theorem witTrue_b : Calls Try.prog 7 #[.agg (cGph g).toArray, .agg (cWt x).toArray] w fun e w' => e = .returned (.bool true) ∧ Below w.heap.size w w' := by
  have hM := R.Own.start [] w
  obtain ⟨x1, x2, x3, x4, x5⟩ := hx
  refine R.calls_of_WC (fn := Try.f7) Try.func7 rfl Try.ntmps7 (Nat.le_of_ble_eq_true rfl) ?_
  by_cases hl : g.st.n ≤ 40 ∧ g.hd.n ≤ 300 ∧ g.wt.n ≤ 300
  · obtain ⟨l1, l2, l3⟩ := hl
    have hd : decide (g.st.n ≤ 40 ∧ g.hd.n ≤ 300 ∧ g.wt.n ≤ 300) = true := decide_eq_true ⟨l1, l2, l3⟩
    (refine R.stepH ?_; (repeat' (first | (with_reducible refine And.intro ?_ ?_) | (with_reducible intro _))); all_goals refine R.Lft.mk ?_)
    rename_i gb _ _ xb _ _
    refine R.WC_planO [(0, false), (1, true), (2, false), (3, false), (4, false), (5, true), (6, false), (7, false), (8, false), (9, false), (10, false), (11, false), (12, false), (13, false), (14, false), (15, false), (16, false), (17, true), (18, false), (19, false)] R.mixed (by decide +kernel) R.ohm ?_
    (refine R.stepH ?_; (repeat' (first | (with_reducible refine And.intro ?_ ?_) | (with_reducible intro _))); all_goals refine R.Lft.mk ?_)
    all_goals first
      | exact nb_t hd (by assumption)
      | skip
    refine R.WO_call1 rfl rfl R.vv ?_
    refine (rmay_any g _ (GGph.now R.ohm hG)).mono ?_
    rintro _ w3 ⟨rfl, hb3⟩
    have hM := R.Own.call R.ohm hb3
    refine ⟨_, rfl, ?_⟩
    by_cases hm : ¬ MayG g
    · rw [mayG_f hm]
      (refine R.stepH ?_; (repeat' (first | (with_reducible refine And.intro ?_ ?_) | (with_reducible intro _))); all_goals refine R.Lft.mk ?_; (all_goals (try (exact ⟨rfl, R.Own.below (by assumption)⟩))))
    have hm := Classical.not_not.1 hm
    rw [mayG_t hm]
    have n1 := hm.n1
    have n2 := hm.n2
    by_cases r1 : x.frm < 0
    · (refine R.stepH ?_; (repeat' (first | (with_reducible refine And.intro ?_ ?_) | (with_reducible intro _))); all_goals refine R.Lft.mk ?_; (all_goals (try (exact ⟨rfl, R.Own.below (by assumption)⟩))))
    by_cases r2 : (g.st.n : Int) - 1 ≤ x.frm
    · (refine R.stepH ?_; (repeat' (first | (with_reducible refine And.intro ?_ ?_) | (with_reducible intro _))); all_goals refine R.Lft.mk ?_; (all_goals (try (exact ⟨rfl, R.Own.below (by assumption)⟩))))
    obtain ⟨src, hsrc⟩ : ∃ src : Nat, x.frm = ((src : Nat) : Int) := ⟨x.frm.toNat, by omega⟩
    obtain ⟨n, hn⟩ : ∃ n, g.st.n - 1 = n := ⟨_, rfl⟩
    have hgn : (g.st.n : Int) - 1 = (n : Nat) := by omega
    have hms : MayS g ⟨none, 1, 1, [Item.mk 0 x.frm]⟩ ⟨none, g.st.n - 1, g.st.n - 1, clL (g.st.n - 1) x.past⟩ := ⟨hm, (show 1 ≤ 1000 by decide), fun h => (show g.st.n - 1 + 1 = g.st.n by omega), fun z hz => by
      rw [List.mem_singleton.1 hz]
      exact ⟨(show (0 : Int) ≤ x.frm by omega), (show x.frm + 1 < g.st.n by omega), (show (0 : Int) ≤ 0 by decide), (show (0 : Int) ≤ 1152921504606846976 by decide)⟩⟩
    have hI : (insW g x).Ok := insG_ok hms
    (refine R.stepH ?_; (repeat' (first | (with_reducible refine And.intro ?_ ?_) | (with_reducible intro _))); all_goals refine R.Lft.mk ?_)
    all_goals first
      | (exfalso; exact r1 (by assumption))
      | skip
    refine R.WO_call2 rfl rfl R.vv R.vv ?_
    refine (wrun_any (fid := 38) [.pointer (some ⟨gb, 0, none⟩)] (insW g x) hI (show g.st.n - 1 ≤ 40 by omega) (fun v hv => Nat.le_trans (deg_insG hm _ _ hv) l2) x ⟨x1, x2, x3, x4, x5⟩ src hsrc (show src < g.st.n - 1 by omega) (fun u hu => insW_op hu) _ (fun v w1 hv hb => ?_)).mono ?_
    · have hM2 := R.Own.call R.ohm hb
      have hv1 : v + 1 < g.st.n := by
        have hv : v < g.st.n - 1 := hv
        omega
      have ho : outT g v (degG g v) = outI (insW g x) v := (outT_insG hm _ _ hv1).1
      have := wtc_any g gb v w1 (GGph.now hM2 hG) hm hv1 (R.Own.lt hM2 (.tail _ (.head _)) rfl) (R.Own.rowAt hM2 (.tail _ (.head _)))
      rw [ho] at this
      exact this
    rintro _ w4 ⟨A, c, S, cs, rfl, hGv, hor⟩
    have hM := R.Own.give R.ohm hGv
    refine ⟨_, rfl, ?_⟩
    rw [hgn]
    have hst : (insW g x).st = [(src, 0)] := by
      show [(x.frm.toNat, (0 : Int))] = _
      rw [hsrc]
      rfl
    obtain ⟨C, P, T, hL⟩ := least_one hI hst
    have hCl : C.length = n := by rw [hL.dl]; exact hn
    have hn0 : 0 < n := by omega
    obtain ⟨hSl, hP, hS, hE, hF⟩ : S.length ≤ n ∧ S.Pairwise (fun a b => cs a ≤ cs b) ∧ (∀ u ∈ S, u < n ∧ ((u : Nat) : Int) ≠ x.past ∧ nth C u ≤ cs u ∧ cs u ≤ x.most) ∧ ((n : Int) ≤ x.hops ∧ (n : Int) ≤ x.cnt → ∀ u ∈ S, cs u = nth C u) ∧ ((n : Int) ≤ x.hops ∧ (n : Int) ≤ x.cnt → 0 ≤ x.most → x.frm ≠ x.past → S.Nodup ∧ (∀ u ∈ S, cs u < 4611686018427387904) ∧ ∀ v, v < n → nth C v < 4611686018427387904 → nth C v ≤ x.most → v ∈ S) := by
      have hnn : (insW g x).n = n := hn
      rcases hor with ⟨rfl, h⟩ | ⟨_, _, q1, q2, q3⟩
      · exact ⟨by simp, .nil, fun u hu => by simp at hu, fun _ u hu => by simp at hu, fun _ _ _ => by omega⟩
      · have hT := q3 C P T hL hst
        rw [hnn] at q1
        refine ⟨q1, q2, fun u hu => ?_, fun h => ?_, fun h _ _ => ?_⟩
        · obtain ⟨t1, t2, t3, t4⟩ := hT.inn u hu
          exact ⟨by rw [← hnn]; exact t1, (insW_op t1).1 t2, t3, t4⟩
        · exact (hT.all (by rw [hnn]; exact h.1) (by rw [hnn]; exact h.2)).1
        · refine ⟨hT.nd, hT.fin, fun v hv => ?_⟩
          exact (hT.all (by rw [hnn]; exact h.1) (by rw [hnn]; exact h.2)).2 v (by rw [hnn]; exact hv)
    obtain ⟨L, hLd⟩ : ∃ L, (S.map fun u => Item.mk (cs u) ((u : Nat) : Int)) = L := ⟨_, rfl⟩
    have hLl : L.length = S.length := by rw [← hLd]; simp
    have hit : ∀ k, k < S.length → 0 ≤ (nth L k).at_ ∧ (nth L k).at_ < n ∧ (nth L k).at_ ≠ x.past ∧ nth C (nth L k).at_.toNat ≤ (nth L k).key ∧ (nth L k).key ≤ x.most ∧ (0 < k → (nth L ((k : Int) - 1).toNat).key ≤ (nth L k).key) ∧ ((n : Int) ≤ x.hops ∧ (n : Int) ≤ x.cnt → (nth L k).key = nth C (nth L k).at_.toNat) := fun k hk => by
      have hnk : ∀ j, j < S.length → nth L j = Item.mk (cs (nth S j)) ((nth S j : Nat) : Int) := fun j hj => by
        rw [← hLd, R.nth_eq (by simpa using hj), R.nth_eq hj, List.getElem_map]
      rw [hnk k hk]
      have hmem := R.nth_mem (L := S) hk
      obtain ⟨q1, q2, q3, q4⟩ := hS _ hmem
      refine ⟨Int.natCast_nonneg _, (show ((nth S k : Nat) : Int) < n by omega), q2, q3, q4, fun h0 => ?_, fun h => hE h _ hmem⟩
      have hj : ((k : Int) - 1).toNat < S.length := by omega
      rw [hnk _ hj]
      have := List.pairwise_iff_getElem.1 hP ((k : Int) - 1).toNat k hj hk (by omega)
      rw [← R.nth_eq hj, ← R.nth_eq hk] at this
      exact this
    rw [hLd] at hM
    obtain ⟨B, hB⟩ : ∃ B, clL n x.past = B := ⟨_, rfl⟩
    have hBl : n = B.length := by rw [← hB, clL_len]
    have hms2 : ∀ A2 c2 A1, MayS g ⟨A2, 1, c2, [Item.mk 0 x.frm]⟩ ⟨A1, n, n, B⟩ := fun _ _ _ => by rw [← hB, ← hn]; exact hms
    have hL2 : ∀ A2 c2 A1, Least (insG g ⟨A2, 1, c2, [Item.mk 0 x.frm]⟩ ⟨A1, n, n, B⟩) C P T := fun _ _ _ => by rw [← hB, ← hn]; exact hL
    have p : (n : Int) ≤ x.past := by omega
    all_goals
      (refine R.stepH ?_; (repeat' (first | (with_reducible refine And.intro ?_ ?_) | (with_reducible intro _))); all_goals refine R.Lft.mk ?_)
      rename_i A2 c2 w5 hM
      first
        | rw [show List.replicate n false = B by rw [← hB]; unfold clL; rw [if_neg (by omega)]] at hM
        | rw [show (List.replicate n false).set x.past.toNat true = B by rw [← hB]; unfold clL; rw [if_pos p]] at hM
      refine R.WO_call3 rfl rfl R.vv R.vv R.vv ?_
      refine (rall_a g ⟨A2, 1, c2, [Item.mk 0 x.frm]⟩ ⟨_, n, n, B⟩ _ ⟨GGph.now hM hG, ⟨R.Own.inp hM (.head _), rfl, cap_ofD hM (.head _), fun z hz => ?_⟩, ⟨R.Own.inp hM (.tail _ (.head _)), hBl, ⟨Nat.le_refl n, (show n ≤ 9223372036854775807 by omega)⟩, fun _ _ => trivial⟩⟩ (hms2 _ _ _) (by omega) l2 (hL2 _ _ _)).mono ?_
      · rw [List.mem_singleton.1 hz]
        exact ⟨R.wf64 (show In64 0 by unfold In64; omega), R.wf64 x1⟩
      rintro _ w6 ⟨A3, c3, rfl, hG3⟩
      have hM := R.Own.give R.ohm hG3
      refine ⟨_, rfl, ?_⟩
      rw [hCl] at hM ⊢
      (refine R.stepH ?_; (repeat' (first | (with_reducible refine And.intro ?_ ?_) | (with_reducible intro _))); all_goals refine R.Lft.mk ?_)
      refine R.WC_loop (fun k : Nat => [(3, .pointer (some ⟨xb, 0, none⟩)), (4, .bool false), (5, .int .i64 (n : Nat)), (6, .slice A S.length c), (8, .slice A3 n c3), (9, .int .i64 (k : Nat)), (10, .int .i64 (k : Nat))])
        (fun k w1 => k ≤ S.length ∧ R.Own [] w w1 [.row A3 n c3 3 1 (C.flatMap R.cI), .row A S.length c 72 2 (L.flatMap cItem), .blk xb 67 (cWt x)]) (fun k => S.length - k) ⟨0, ⟨rfl, rfl, rfl, rfl, rfl, rfl, rfl, trivial⟩, Nat.zero_le _, R.Own.sub hM R.subl⟩ ?_
      clear hM hG3
      rintro k f w7 ⟨hk, hM⟩
      by_cases hlt : k < S.length
      · obtain ⟨i1, i2, i3, i4, i5, i6, i7⟩ := hit k hlt
        (refine R.stepH ?_; (repeat' (first | (with_reducible refine And.intro ?_ ?_) | (with_reducible intro _))); all_goals refine R.Lft.mk ?_)
        dsimp only [List.append]
        (refine R.stepH ?_; (repeat' (first | (with_reducible refine And.intro ?_ ?_) | (with_reducible intro _))); all_goals refine R.Lft.mk ?_)
        all_goals
          refine R.WC_planO [(0, false), (1, false), (2, true), (3, false), (4, false), (5, false), (6, false), (7, false), (8, false), (9, false), (10, false), (11, false), (12, false), (13, false), (14, false), (15, false), (16, false), (17, false), (18, false)] R.mixed (by decide +kernel) R.ohm ?_
          (refine R.stepH ?_; (repeat' (first | (with_reducible refine And.intro ?_ ?_) | (with_reducible intro _))); all_goals refine R.Lft.mk ?_)
          all_goals first
            | (exfalso; omega)
            | exact ⟨k + 1, ⟨rfl, rfl, rfl, rfl, rfl, R.viaI rfl (by omega), R.viaI rfl (by omega), trivial⟩, ⟨by omega, by assumption⟩, by omega⟩
      · obtain rfl : k = S.length := by omega
        (refine R.stepH ?_; (repeat' (first | (with_reducible refine And.intro ?_ ?_) | (with_reducible intro _))); all_goals refine R.Lft.mk ?_)
        refine R.WC_planO [(0, false), (1, false), (3, false), (4, false), (5, false), (6, false), (2, true), (7, false), (8, false), (9, false), (10, false), (11, false), (12, false), (13, false), (14, false), (15, false), (16, false), (17, true), (18, false), (19, false), (20, false), (21, false), (22, false), (23, false), (24, false), (25, false), (26, false), (27, false), (28, false), (29, false), (30, false), (31, false)] R.mixed (by decide +kernel) R.ohm ?_
        (refine R.stepH ?_; (repeat' (first | (with_reducible refine And.intro ?_ ?_) | (with_reducible intro _))); all_goals refine R.Lft.mk ?_)
        all_goals first
          | exact ⟨rfl, R.Own.below (by assumption)⟩
          | skip
        all_goals
          have hm0 : 0 ≤ x.most := by omega
          have hne : x.frm ≠ x.past := by omega
          have hen : (n : Int) ≤ x.hops ∧ (n : Int) ≤ x.cnt := by
            have hh : (!decide ((n : Int) ≤ x.hops ∧ (n : Int) ≤ x.cnt)) = false := by assumption
            simpa using hh
          first
            | (exfalso; have hen1 := hen.1; omega)
            | skip
        all_goals
          obtain ⟨hnd, hfin, hall⟩ := hF hen hm0 hne
          have hcount : cntW x.most C n = S.length := by
            unfold cntW
            rw [List.take_of_length_le (by omega)]
            refine cnt_mem hnd fun v => ⟨fun hv => ?_, fun hv => ?_⟩
            · obtain ⟨t1, t2, t3, t4⟩ := hS v hv
              have t5 := hE hen v hv
              have t6 := hfin v hv
              refine ⟨by omega, ?_⟩
              have a1 : nth C v < 4611686018427387904 := by omega
              have a2 : nth C v ≤ x.most := by omega
              simp [prW, a1, a2]
            · obtain ⟨t1, t2⟩ := hv
              simp [prW] at t2
              exact hall v (by omega) t2.1 t2.2
          have h40 : n ≤ 40 := by omega
          refine R.WC_loop (fun j : Nat => [(3, .pointer (some ⟨xb, 0, none⟩)), (4, .bool false), (5, .int .i64 (n : Nat)), (8, .slice A3 n c3), (9, .int .i64 ((S.length : Int) - ((cntW x.most C j : Nat) : Int))), (11, .int .i64 (j : Nat))])
            (fun j w1 => j ≤ n ∧ R.Own [] w w1 [.row A3 n c3 3 1 (C.flatMap R.cI), .row A S.length c 72 2 (L.flatMap cItem), .blk xb 67 (cWt x)]) (fun j => n - j) ⟨0, ⟨rfl, rfl, rfl, rfl, R.viaI rfl (by rw [show cntW x.most C 0 = 0 from rfl]; omega), rfl, trivial⟩, Nat.zero_le _, R.ohm⟩ ?_
          clear hM
          rintro j f2 w8 ⟨hj, hM⟩
          have hcj := cntW_le x.most C j
          by_cases hjn : j < n
          · obtain ⟨u1, u2⟩ := cntW_succ (m := x.most) (C := C) (j := j) (by omega)
            by_cases q : nth C j < 4611686018427387904 ∧ nth C j ≤ x.most
            · have u3 := u1 q
              obtain ⟨q1, q2⟩ := q
              (refine R.stepH ?_; (repeat' (first | (with_reducible refine And.intro ?_ ?_) | (with_reducible intro _))); all_goals refine R.Lft.mk ?_)
              exact ⟨j + 1, ⟨rfl, rfl, rfl, rfl, R.viaI rfl (by omega), R.viaI rfl (by omega), trivial⟩, ⟨by omega, by assumption⟩, by omega⟩
            · have u3 := u2 q
              by_cases q1 : nth C j < 4611686018427387904
              · have q2 : ¬ nth C j ≤ x.most := fun h => q ⟨q1, h⟩
                (refine R.stepH ?_; (repeat' (first | (with_reducible refine And.intro ?_ ?_) | (with_reducible intro _))); all_goals refine R.Lft.mk ?_)
                exact ⟨j + 1, ⟨rfl, rfl, rfl, rfl, R.viaI rfl (by omega), R.viaI rfl (by omega), trivial⟩, ⟨by omega, by assumption⟩, by omega⟩
              · (refine R.stepH ?_; (repeat' (first | (with_reducible refine And.intro ?_ ?_) | (with_reducible intro _))); all_goals refine R.Lft.mk ?_)
                exact ⟨j + 1, ⟨rfl, rfl, rfl, rfl, R.viaI rfl (by omega), R.viaI rfl (by omega), trivial⟩, ⟨by omega, by assumption⟩, by omega⟩
          · obtain rfl : j = n := by omega
            rw [hcount]
            (refine R.stepH ?_; (repeat' (first | (with_reducible refine And.intro ?_ ?_) | (with_reducible intro _))); all_goals refine R.Lft.mk ?_; (all_goals (try (exact ⟨rfl, R.Own.below (by assumption)⟩))))
  · have hd : decide (g.st.n ≤ 40 ∧ g.hd.n ≤ 300 ∧ g.wt.n ≤ 300) = false := decide_eq_false hl
    (refine R.stepH ?_; (repeat' (first | (with_reducible refine And.intro ?_ ?_) | (with_reducible intro _))); all_goals refine R.Lft.mk ?_)
    refine R.WC_planO [(0, false), (1, true), (2, false), (3, false), (4, false), (5, true), (6, false), (7, false), (8, false), (9, false), (10, false), (11, false), (12, false), (13, false), (14, false), (15, false), (16, false), (17, true), (18, false), (19, false)] R.mixed (by decide +kernel) R.ohm ?_
    (refine R.stepH ?_; (repeat' (first | (with_reducible refine And.intro ?_ ?_) | (with_reducible intro _))); all_goals refine R.Lft.mk ?_; (all_goals (try (exact ⟨rfl, R.Own.below (by assumption)⟩))))
    all_goals
      exfalso
      have hh : (!decide (g.st.n ≤ 40 ∧ g.hd.n ≤ 300 ∧ g.wt.n ≤ 300)) = false := by assumption
      rw [hd] at hh
      cases hh
end
end Go.Proofs.Ytegbidklcaccjaa
