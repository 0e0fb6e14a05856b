/- What may be searched: the document's; which arguments the laws take. -/
import Derived.Test.YtegbidklcaccjaaDs
namespace Go.Proofs.Ytegbidklcaccjaa
open Go.RowKit
open R (In64 InU64 lo64 nth)
instance con_light21 (g : Gph) (s : R.Sl Item) (c : R.Sl Bool) : R.ConB Try.prog 29 #[.agg (cGph g).toArray, .slice s.A s.n s.c, .slice c.A c.n c.c] Unit (fun _ _ => True) (fun _ => .bool (decide (g.st.n ≤ 40 ∧ g.hd.n ≤ 300 ∧ g.wt.n ≤ 300 ∧ s.n ≤ 1010 ∧ c.n ≤ 60))) := ⟨fun _ w _ => by
  have hM := R.Own.start [] w
  refine R.calls_of_WC (fn := Try.f29) Try.func29 rfl Try.ntmps29 (Nat.le_of_ble_eq_true rfl) ?_
  by_cases h1 : g.st.n ≤ 40 ∧ g.hd.n ≤ 300 ∧ g.wt.n ≤ 300
  · (refine R.stepH ?_; (repeat' (first | (with_reducible refine And.intro ?_ ?_) | (with_reducible intro _))); all_goals refine R.Lft.mk ?_)
    all_goals
      refine ⟨?_, R.Own.below R.ohm⟩
      by_cases h2 : s.n ≤ 1010 <;> by_cases h3 : c.n ≤ 60 <;> first | (exfalso; omega) | (simp [h1, h2, h3]; done) | (simp [h1, h2, h3]; omega)
  · rw [decide_eq_false fun h => h1 ⟨h.1, h.2.1, h.2.2.1⟩]
    (refine R.stepH ?_; (repeat' (first | (with_reducible refine And.intro ?_ ?_) | (with_reducible intro _))); all_goals refine R.Lft.mk ?_)
    all_goals first
      | exact ⟨rfl, R.Own.below R.ohm⟩
      | (exfalso; simp [h1] at *)⟩
set_option maxHeartbeats 4000000 in
theorem may21_any (g : Gph) (s : R.Sl Item) (c : R.Sl Bool) (w : World) (hG : GGph w g) (hs : R.GSl cItem 2 GItem w s) (hc : R.GSl R.cB 1 GB w c) : Calls Try.prog 32 #[.agg (cGph g).toArray, .slice s.A s.n s.c, .slice c.A c.n c.c] w fun e w' => e = .returned (.bool (mayS g s c)) ∧ Below w.heap.size w w' := by
  have hM := R.Own.start [] w
  have hG0 := hG
  have hn0 := hG.1.2.2.1
  have hs0 := hs.2.2.1
  have hsl := hs.2.1
  have hsI := hs.1
  have hc0 := hc.2.2.1
  refine R.calls_of_WC (fn := Try.f32) Try.func32 rfl Try.ntmps32 (Nat.le_of_ble_eq_true rfl) ?_
  (refine R.stepH ?_; (repeat' (first | (with_reducible refine And.intro ?_ ?_) | (with_reducible intro _))); all_goals refine R.Lft.mk ?_)
  rename_i gb _ _
  refine R.WO_call1 rfl rfl R.vv ?_
  refine (rmay_any g _ (GGph.now R.ohm hG0)).mono ?_
  rintro _ w3 ⟨rfl, hb3⟩
  have hM := R.Own.call R.ohm hb3
  refine ⟨_, rfl, ?_⟩
  cases hmg : mayG g with
  | false =>
    rw [mayS_f fun h => by rw [mayG_t h.1] at hmg; cases hmg]
    (refine R.stepH ?_; (repeat' (first | (with_reducible refine And.intro ?_ ?_) | (with_reducible intro _))); all_goals refine R.Lft.mk ?_; (all_goals (try (exact ⟨rfl, R.Own.below (by assumption)⟩))))
  | true =>
    have hmp := mayG_p hmg
    have n1 := hmp.n1
    have n2 := hmp.n2
    by_cases h1 : 1000 < s.n
    · rw [mayS_f fun h => by have := h.2.1; omega]
      (refine R.stepH ?_; (repeat' (first | (with_reducible refine And.intro ?_ ?_) | (with_reducible intro _))); all_goals refine R.Lft.mk ?_; (all_goals (try (exact ⟨rfl, R.Own.below (by assumption)⟩))))
    by_cases h2 : 0 < c.n ∧ c.n + 1 ≠ g.st.n
    · rw [mayS_f fun h => by have := h.2.2.1 h2.1; exact h2.2 this]
      obtain ⟨h2a, h2b⟩ := h2
      have h2c : (c.n : Int) ≠ (g.st.n : Int) - 1 := by omega
      (refine R.stepH ?_; (repeat' (first | (with_reducible refine And.intro ?_ ?_) | (with_reducible intro _))); all_goals refine R.Lft.mk ?_; (all_goals (try (exact ⟨rfl, R.Own.below (by assumption)⟩))))
    by_cases h4 : 0 < c.n
    · have h2c : (c.n : Int) = (g.st.n : Int) - 1 := by omega
      (refine R.stepH ?_; (repeat' (first | (with_reducible refine And.intro ?_ ?_) | (with_reducible intro _))); all_goals refine R.Lft.mk ?_)
      refine R.WC_loop (fun k : Nat => [(1, .slice s.A s.n s.c), (3, .pointer (some ⟨gb, 0, none⟩)), (6, .bool false), (7, .int .i64 (k : Nat))])
        (fun k w1 => k ≤ s.n ∧ R.Own [] w w1 [.blk gb 24 (cGph g)] ∧ ∀ x ∈ s.L.take k, badS g x = false) (fun k => s.n - k) ⟨0, ⟨rfl, rfl, rfl, rfl, trivial⟩, Nat.zero_le _, R.ohm, fun x hx => by simp at hx⟩ ?_
      clear hM
      rintro k f w4 ⟨hk, hM, hall⟩
      by_cases hlt : k < s.n
      · have hmem := R.nth_mem (L := s.L) (i := k) (by omega)
        have hno : badS g (nth s.L k) = true → mayS g s c = false := fun h => mayS_f fun hm => badS_t h (hm.2.2.2 _ hmem)
        (refine R.stepH ?_; (repeat' (first | (with_reducible refine And.intro ?_ ?_) | (with_reducible intro _))); all_goals refine R.Lft.mk ?_)
        all_goals first
          | exact ⟨by rw [hno (by simp [badS, *])], R.Own.below R.ohm⟩
          | skip
        refine R.WC_planO [(0, false), (1, false), (2, false), (3, false), (4, false), (5, false), (6, false), (7, false), (8, false), (9, false), (10, false), (11, false), (12, false), (13, true), (14, false), (15, false), (16, false), (17, false), (18, false), (19, false), (20, false), (21, false), (22, false), (23, false), (24, false), (25, false), (26, false), (27, false), (28, false), (29, false), (30, false), (31, false)] R.mixed (by decide +kernel) R.ohm ?_
        (refine R.stepH ?_; (repeat' (first | (with_reducible refine And.intro ?_ ?_) | (with_reducible intro _))); all_goals refine R.Lft.mk ?_)
        all_goals first
          | exact ⟨by rw [hno (by simp [badS, *])], R.Own.below R.ohm⟩
          | skip
        refine ⟨k + 1, ⟨rfl, rfl, rfl, R.viaI rfl (by omega), trivial⟩, ⟨by omega, R.ohm, all_snoc (by omega) hall ?_⟩, by omega⟩
        simp [badS]
        omega
      · have hkn : k = s.L.length := by omega
        rw [hkn, List.take_length] at hall
        rw [mayS_t ⟨hmp, by omega, fun h => by omega, fun x hx => badS_f (hall x hx)⟩]
        (refine R.stepH ?_; (repeat' (first | (with_reducible refine And.intro ?_ ?_) | (with_reducible intro _))); all_goals refine R.Lft.mk ?_; (all_goals (try (exact ⟨rfl, R.Own.below (by assumption)⟩))))
    · (refine R.stepH ?_; (repeat' (first | (with_reducible refine And.intro ?_ ?_) | (with_reducible intro _))); all_goals refine R.Lft.mk ?_)
      refine R.WC_loop (fun k : Nat => [(1, .slice s.A s.n s.c), (3, .pointer (some ⟨gb, 0, none⟩)), (6, .bool false), (7, .int .i64 (k : Nat))])
        (fun k w1 => k ≤ s.n ∧ R.Own [] w w1 [.blk gb 24 (cGph g)] ∧ ∀ x ∈ s.L.take k, badS g x = false) (fun k => s.n - k) ⟨0, ⟨rfl, rfl, rfl, rfl, trivial⟩, Nat.zero_le _, R.ohm, fun x hx => by simp at hx⟩ ?_
      clear hM
      rintro k f w4 ⟨hk, hM, hall⟩
      by_cases hlt : k < s.n
      · have hmem := R.nth_mem (L := s.L) (i := k) (by omega)
        have hno : badS g (nth s.L k) = true → mayS g s c = false := fun h => mayS_f fun hm => badS_t h (hm.2.2.2 _ hmem)
        (refine R.stepH ?_; (repeat' (first | (with_reducible refine And.intro ?_ ?_) | (with_reducible intro _))); all_goals refine R.Lft.mk ?_)
        all_goals first
          | exact ⟨by rw [hno (by simp [badS, *])], R.Own.below R.ohm⟩
          | skip
        refine R.WC_planO [(0, false), (1, false), (2, false), (3, false), (4, false), (5, false), (6, false), (7, false), (8, false), (9, false), (10, false), (11, false), (12, false), (13, true), (14, false), (15, false), (16, false), (17, false), (18, false), (19, false), (20, false), (21, false), (22, false), (23, false), (24, false), (25, false), (26, false), (27, false), (28, false), (29, false), (30, false), (31, false)] R.mixed (by decide +kernel) R.ohm ?_
        (refine R.stepH ?_; (repeat' (first | (with_reducible refine And.intro ?_ ?_) | (with_reducible intro _))); all_goals refine R.Lft.mk ?_)
        all_goals first
          | exact ⟨by rw [hno (by simp [badS, *])], R.Own.below R.ohm⟩
          | skip
        refine ⟨k + 1, ⟨rfl, rfl, rfl, R.viaI rfl (by omega), trivial⟩, ⟨by omega, R.ohm, all_snoc (by omega) hall ?_⟩, by omega⟩
        simp [badS]
        omega
      · have hkn : k = s.L.length := by omega
        rw [hkn, List.take_length] at hall
        rw [mayS_t ⟨hmp, by omega, fun h => by omega, fun x hx => badS_f (hall x hx)⟩]
        (refine R.stepH ?_; (repeat' (first | (with_reducible refine And.intro ?_ ?_) | (with_reducible intro _))); all_goals refine R.Lft.mk ?_; (all_goals (try (exact ⟨rfl, R.Own.below (by assumption)⟩))))
end Go.Proofs.Ytegbidklcaccjaa
