/- Package quot: Over. -/
import Derived.Test.YtalaffabcnccgaaQt
namespace Go.Proofs.Ytalaffabcnccgaa
open Go.RowKit
open R (In64 InU64 lo64 nth)

def qW (a b : Wd) : Wd := W (a.n / b.n)
def rW (a b : Wd) : Wd := restW a.n b.n
def eW (b : Wd) : Int := if b.n = 0 then 1 else 0
theorem one_word (b : Wd) : b = W ((wd b.n 0 : Nat) : Int).toNat ↔ b.n < 18446744073709551616 := by
  have h1 := wd_lt b.n 0
  have e : wd b.n 0 = b.n % 18446744073709551616 := by unfold wd; rw [Nat.mul_zero, Nat.pow_zero, Nat.div_one]
  rw [Wd.ext_iff, Int.toNat_natCast, W_n (wsmall h1), e]
  omega
theorem bl_pos {x : Nat} (h : 0 < x) : 0 < bitLen x := by
  rcases Nat.eq_zero_or_pos (bitLen x) with h1 | h1
  · have := (bitLen_spec x).1
    rw [h1] at this; simp at this; omega
  · exact h1
/-- The start of dividing bit by bit. -/
theorem over_start (a b : Wd) (h0 : 0 < b.n) : DivI a.n b.n ((bitLen a.n : Int) - bitLen b.n + 1).toNat 0 a.n := by
  refine DivI.start ?_
  obtain ⟨h1, _⟩ := bitLen_spec a.n
  obtain ⟨_, h2⟩ := bitLen_spec b.n
  have h2 := h2 (by omega)
  have hb := bl_pos h0
  have h3 : 2 ^ (bitLen b.n - 1) * 2 ^ ((bitLen a.n : Int) - bitLen b.n + 1).toNat ≤ b.n * 2 ^ ((bitLen a.n : Int) - bitLen b.n + 1).toNat := Nat.mul_le_mul_right _ h2
  rw [← Nat.pow_add] at h3
  have h4 : 2 ^ bitLen a.n ≤ 2 ^ (bitLen b.n - 1 + ((bitLen a.n : Int) - bitLen b.n + 1).toNat) := Nat.pow_le_pow_right (by decide) (by omega)
  omega
attribute [local irreducible] W512 in
set_option maxHeartbeats 2000000 in
theorem over_any (a b : Wd) (w : World) : Calls Try.prog 53 #[.agg (cW a).toArray, .agg (cW b).toArray] w fun e w' => e = .returned (.tuple #[.agg (cW (qW a b)).toArray, .agg (cW (rW a b)).toArray, .int .i64 (eW b)]) ∧ Below w.heap.size w w' := by
  have hM := R.Own.start [] w
  by_cases h0 : b.n = 0
  · have e1 : qW a b = W 0 := by unfold qW; rw [h0, Nat.div_zero]
    have e2 : rW a b = W 0 := by unfold rW restW; rw [if_pos h0]
    have e3 : eW b = 1 := by unfold eW; rw [if_pos h0]
    rw [e1, e2, e3]
    refine R.calls_of_WC (fn := Try.f53) Try.func53 rfl Try.ntmps53 (Nat.le_of_ble_eq_true rfl) ?_
    (refine R.stepV ?_; (repeat' (first | (with_reducible refine And.intro ?_ ?_) | (with_reducible intro _))); all_goals refine R.Lft.mk ?_; (all_goals (try (exact ⟨rfl, R.Own.below (by assumption)⟩))))
  have e2 : rW a b = W (a.n % b.n) := by unfold rW restW; rw [if_neg h0]
  have e3 : eW b = 0 := by unfold eW; rw [if_neg h0]
  have e1 : qW a b = W (a.n / b.n) := rfl
  have hbl1 := bl_le a
  have hbl2 := bl_le b
  have hbl3 := bl_pos (by omega : 0 < b.n)
  have hmr : a.n % b.n < b.n := Nat.mod_lt _ (by omega)
  have hw0 : InU64 (wd b.n (Int.toNat 0) : Nat) := wd_range _ _
  have hw := one_word b
  by_cases h1 : b.n < 18446744073709551616
  · have hwd : wd b.n (Int.toNat 0) = b.n := by
      rw [show Int.toNat 0 = 0 from rfl]
      unfold wd
      rw [Nat.mul_zero, Nat.pow_zero, Nat.div_one]
      omega
    rw [e1, e3]
    unfold rW
    refine R.calls_of_WC (fn := Try.f53) Try.func53 rfl Try.ntmps53 (Nat.le_of_ble_eq_true rfl) ?_
    (refine R.stepV ?_; (repeat' (first | (with_reducible refine And.intro ?_ ?_) | (with_reducible intro _))); all_goals refine R.Lft.mk ?_; (all_goals (try (exact ⟨rfl, R.Own.below (by assumption)⟩))))
    · rw [hwd, Int.toNat_natCast]
      exact ⟨rfl, R.Own.below (by assumption)⟩
    · rename_i hx _ _
      exact absurd (hw.2 h1) hx
  · rw [e1, e2, e3]
    refine R.calls_of_WC (fn := Try.f53) Try.func53 rfl Try.ntmps53 (Nat.le_of_ble_eq_true rfl) ?_
    (refine R.stepV ?_; (repeat' (first | (with_reducible refine And.intro ?_ ?_) | (with_reducible intro _))); all_goals refine R.Lft.mk ?_; (all_goals (try (exact ⟨rfl, R.Own.below (by assumption)⟩))))
    · exact absurd (hw.1 (by assumption)) h1
    rename_i g1 _ _ g2 _ _ g3 _ _ g4 _ _ _ _ _ _ _ _ hx w1 hM
    refine R.WC_planO [(0, false), (2, false), (1, true), (3, true), (4, false), (5, false)] R.mixed (by decide +kernel) R.ohm ?_
    (refine R.stepV ?_; (repeat' (first | (with_reducible refine And.intro ?_ ?_) | (with_reducible intro _))); all_goals refine R.Lft.mk ?_)
    rename_i w1 hM
    refine R.WC_loop (fun s : Int × Nat × Nat => [(3, .pointer (some ⟨g2, 0, none⟩)), (4, .pointer (some ⟨g3, 0, none⟩)), (5, .pointer (some ⟨g4, 0, none⟩)), (6, .int .i64 0), (7, .int .i64 s.1)])
      (fun s w2 => s.1 ≤ (bitLen a.n : Int) - bitLen b.n ∧ -513 ≤ s.1 ∧ DivI a.n b.n (s.1 + 1).toNat s.2.1 s.2.2 ∧ R.Own [] w w2 [.blk g4 43 (cW (W s.2.2)), .blk g3 43 (cW (W s.2.1)), .blk g2 43 (cW b), .blk g1 43 (cW a)]) (fun s => (s.1 + 1).toNat)
      ⟨((bitLen a.n : Int) - bitLen b.n, 0, a.n), ⟨rfl, rfl, rfl, rfl, rfl, trivial⟩, by dsimp only; omega, by dsimp only; omega, over_start a b (by omega), by dsimp only; rw [W_self]; exact hM⟩ ?_
    clear hM hw hw0 hx
    rintro ⟨by_, q, r⟩ f w2 ⟨hb1, hb2, hI, hM⟩
    dsimp only at hb1 hb2 hI hM ⊢
    have hra : r ≤ a.n := by have := hI.sum; omega
    by_cases hby : by_ < 0
    · rw [show (by_ + 1).toNat = 0 by omega] at hI
      obtain ⟨d1, d2⟩ := hI.done
      (refine R.stepV ?_; (repeat' (first | (with_reducible refine And.intro ?_ ?_) | (with_reducible intro _))); all_goals refine R.Lft.mk ?_; (all_goals (try (exact ⟨rfl, R.Own.below (by assumption)⟩))))
      rw [← d1, ← d2]
      exact ⟨rfl, R.Own.below (by assumption)⟩
    · obtain ⟨m, rfl⟩ : ∃ m : Nat, by_ = m := ⟨by_.toNat, by omega⟩
      rw [show ((m : Int) + 1).toNat = m + 1 by omega] at hI
      have hs := shW_up b m (by omega)
      have hWr := W_val a r hra
      by_cases hlt : r < b.n * 2 ^ m
      · have hI2 := hI.skip hlt
        have hc : cmpI (W r).n (shW b (m : Int)).n < 0 := (cmpI_neg _ _).2 (by rw [hWr, hs]; exact hlt)
        (refine R.stepV ?_; (repeat' (first | (with_reducible refine And.intro ?_ ?_) | (with_reducible intro _))); all_goals refine R.Lft.mk ?_; (all_goals (try (exact ⟨rfl, R.Own.below (by assumption)⟩))))
        rename_i hM
        exact ⟨((m : Int) - 1, q, r), ⟨rfl, rfl, rfl, rfl, rfl, trivial⟩, ⟨by dsimp only; omega, by dsimp only; omega, by dsimp only; rw [show ((m : Int) - 1 + 1).toNat = m by omega]; exact hI2, hM.tl⟩, by dsimp only; omega⟩
      · have hI2 := hI.take (by omega)
        have hc : ¬ cmpI (W r).n (shW b (m : Int)).n < 0 := fun h => hlt (by have := (cmpI_neg _ _).1 h; rwa [hWr, hs] at this)
        have hq2 : q + 2 ^ m ≤ a.n := by
          have h5 := hI2.sum
          have h6 : (q + 2 ^ m) * 1 ≤ (q + 2 ^ m) * b.n := Nat.mul_le_mul_left _ (by omega)
          omega
        have h1m : (shW (W 1) (m : Int)).n = 2 ^ m := by
          rw [shW_up (W 1) m (by rw [bl_one]; have := hbl1; omega), W_n (wsmall (by decide)), Nat.one_mul]
        have u1 : difW (W r) (shW b (m : Int)) = W (r - b.n * 2 ^ m) := Wd.ext_ (by
          show dif (W r).n (shW b (m : Int)).n = _
          rw [dif_of_le (W r).lt (by rw [hWr, hs]; omega), hWr, hs, W_val a _ (by omega)])
        have u2 : (W q).n + (shW (W (Int.toNat 1)) (m : Int)).n = q + 2 ^ m := by rw [show Int.toNat 1 = 1 from rfl, h1m, W_val a q (by omega)]
        (refine R.stepV ?_; (repeat' (first | (with_reducible refine And.intro ?_ ?_) | (with_reducible intro _))); all_goals refine R.Lft.mk ?_; (all_goals (try (exact ⟨rfl, R.Own.below (by assumption)⟩))))
        refine R.WC_planX [(0, false), (2, false), (1, true), (3, true), (4, true), (5, false), (6, false), (7, false), (8, true)] R.mixed (by decide +kernel) R.ohm ?_
        (refine R.stepV ?_; (repeat' (first | (with_reducible refine And.intro ?_ ?_) | (with_reducible intro _))); all_goals refine R.Lft.mk ?_; (all_goals (try (exact ⟨rfl, R.Own.below (by assumption)⟩))))
        rename_i hM
        rw [u1, u2] at hM
        exact ⟨((m : Int) - 1, q + 2 ^ m, r - b.n * 2 ^ m), ⟨rfl, rfl, rfl, rfl, rfl, trivial⟩, ⟨by dsimp only; omega, by dsimp only; omega, by dsimp only; rw [show ((m : Int) - 1 + 1).toNat = m by omega]; exact hI2, hM.tl⟩, by dsimp only; omega⟩
instance con_qover (a b : Wd) : R.ConB Try.prog 53 #[.agg (cW a).toArray, .agg (cW b).toArray] Unit (fun _ _ => True) (fun _ => .tuple #[.agg (cW (qW a b)).toArray, .agg (cW (rW a b)).toArray, .int .i64 (eW b)]) := ⟨fun _ w _ => over_any a b w⟩
end Go.Proofs.Ytalaffabcnccgaa
