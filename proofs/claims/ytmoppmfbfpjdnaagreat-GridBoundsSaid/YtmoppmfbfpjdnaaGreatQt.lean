/- Package quot: short and Over. Package quot: Over. snicketref04: Over. -/
import Derived.Test.YtmoppmfbfpjdnaaGreatVGo
import Derived.Test.YtmoppmfbfpjdnaaGreatOv
import Derived.Test.YtmoppmfbfpjdnaaGreatDv
import Derived.Test.YtmoppmfbfpjdnaaGreatWb
namespace Go.Proofs.YtmoppmfbfpjdnaaGreat
open Go.RowKit
open R (In64 InU64 lo64 nth)

theorem word_down (a k : Nat) : a / wsz k = a / wsz (k + 1) * 18446744073709551616 + wd a k := by
  unfold wd
  rw [← wsz_eq, ← wsz_eq, show 64 * (k + 1) = 64 * k + 64 by omega, Nat.pow_add, ← Nat.div_div_eq_div_mul, show (2 : Nat) ^ 64 = 18446744073709551616 from rfl]
  generalize a / 2 ^ (64 * k) = x
  omega
/-- The quotient behind some words. -/
theorem short_step {a y k : Nat} (ha : a < W512) (hk : k < 8) (hy : 0 < y) :
    stW (W (a / wsz (k + 1) / y * wsz (k + 1))) k (((a / wsz (k + 1) % y * 18446744073709551616 + wd a k) / y : Nat) : Int) = W (a / wsz k / y * wsz k) ∧ (a / wsz (k + 1) % y * 18446744073709551616 + wd a k) % y = a / wsz k % y ∧ (a / wsz (k + 1) % y * 18446744073709551616 + wd a k) / y < 18446744073709551616 := by
  have hw := wd_lt a k
  obtain ⟨h1, h2⟩ := step_div (A := a / wsz (k + 1)) (w := wd a k) (M := 18446744073709551616) hy
  rw [← word_down] at h1 h2
  have hlt : (a / wsz (k + 1) % y * 18446744073709551616 + wd a k) / y < 18446744073709551616 := by
    refine (Nat.div_lt_iff_lt_mul hy).2 ?_
    have h3 := Nat.mod_lt (a / wsz (k + 1)) hy
    have h4 : (a / wsz (k + 1) % y + 1) * 18446744073709551616 ≤ y * 18446744073709551616 := Nat.mul_le_mul_right _ h3
    generalize a / wsz (k + 1) % y = r at *
    omega
  refine ⟨?_, h2.symm, hlt⟩
  have hb : ∀ k, a / wsz k / y * wsz k < W512 := fun k => by
    refine Nat.lt_of_le_of_lt ?_ ha
    rw [Nat.div_div_eq_div_mul, Nat.mul_comm (wsz k), ← Nat.div_div_eq_div_mul]
    exact Nat.le_trans (Nat.div_mul_le_self _ _) (Nat.div_le_self _ _)
  refine Wd.ext_ ?_
  rw [stW_n hk ⟨Int.natCast_nonneg _, Int.ofNat_lt.2 hlt⟩, W_n (hb _), W_n (hb _), Int.toNat_natCast, h1]
  generalize (a / wsz (k + 1) % y * 18446744073709551616 + wd a k) / y = d at *
  generalize a / wsz (k + 1) / y = t at *
  unfold setw
  have e : wsz (k + 1) = wsz k * 18446744073709551616 := by rw [← wsz_eq, ← wsz_eq, show 64 * (k + 1) = 64 * k + 64 by omega, Nat.pow_add]
  have e1 : t * wsz (k + 1) % wsz k = 0 := by rw [e, Nat.mul_left_comm, Nat.mul_mod_right]
  have e2 : t * wsz (k + 1) / wsz (k + 1) = t := Nat.mul_div_cancel _ (wsz_pos _)
  simp only [wsz_eq]
  rw [e1, e2, Nat.zero_add, Nat.mul_comm (wsz k), Nat.add_comm d, Nat.mul_comm t]
theorem dvQ_nat (h l y : Nat) (hy : h < y) : dvQ (h : Int) l y = ((h * 18446744073709551616 + l) / y : Nat) ∧ dvR (h : Int) l y = ((h * 18446744073709551616 + l) % y : Nat) := by
  unfold dvQ dvR
  rw [if_pos (by omega), if_pos (by omega)]
  exact ⟨by rw [Int.natCast_ediv, Int.natCast_add, Int.natCast_mul]; rfl, by rw [Int.natCast_emod, Int.natCast_add, Int.natCast_mul]; rfl⟩
theorem Wd.lt8 (a : Wd) : a.n < wsz 8 := a.lt
attribute [local irreducible] W512 in
set_option maxHeartbeats 1000000 in
theorem short_any (a : Wd) (y : Int) (hy : InU64 y) (hy0 : 0 < y) (w : World) : Calls Tryz.prog 113 #[.agg (cW a).toArray, .int .u64 y] w fun e w' => e = .returned (.tuple #[.agg (cW (W (a.n / y.toNat))).toArray, .agg (cW (W (a.n % y.toNat))).toArray]) ∧ Below w.heap.size w w' := by
  have hM := R.Own.start [] w
  unfold InU64 at hy
  obtain ⟨y, rfl⟩ := Int.eq_ofNat_of_zero_le hy.1
  rw [Int.toNat_natCast]
  have hy0' : 0 < y := by omega
  refine R.calls_of_WC (fn := Tryz.f113) Tryz.func113 rfl Tryz.ntmps113 (Nat.le_of_ble_eq_true rfl) ?_
  (refine R.stepV ?_; (repeat' (first | (with_reducible refine And.intro ?_ ?_) | (with_reducible intro _))); all_goals refine R.Lft.mk ?_)
  rename_i g1 _ _ g2 _ _ g3 w1 hM
  refine R.WC_loop (fun k : Nat => [(1, .int .u64 (y : Nat)), (2, .pointer (some ⟨g1, 0, none⟩)), (4, .pointer (some ⟨g2, 0, none⟩)), (5, .pointer (some ⟨g3, 0, none⟩)), (6, .int .u64 (a.n / wsz k % y : Nat)), (7, .int .i64 ((k : Int) - 1))])
    (fun k w2 => k ≤ 8 ∧ R.Own [] w w2 [.blk g3 44 (cW (W 0)), .blk g2 44 (cW (W (a.n / wsz k / y * wsz k))), .blk g1 44 (cW a)]) (fun k => k)
    ⟨8, ⟨rfl, rfl, rfl, rfl, R.viaI rfl ?_, rfl, trivial⟩, by omega, ?_⟩ ?_
  · rw [Nat.div_eq_of_lt a.lt8, Nat.zero_mod]; rfl
  · rw [Nat.div_eq_of_lt a.lt8, Nat.zero_div, Nat.zero_mul]; exact hM
  rintro k f w2 ⟨hk, hM⟩
  rcases k with _ | k
  · simp only [show wsz 0 = 1 from rfl, Nat.div_one, Nat.mul_one] at hM ⊢
    have hml := Nat.mod_lt a.n hy0'
    have hK := R.Lft.mk hM
    clear hM
    (refine R.stepV ?_; (repeat' (first | (with_reducible refine And.intro ?_ ?_) | (with_reducible intro _))); all_goals refine R.Lft.mk ?_)
    have hM := hK.out
    refine R.WC_planD1 [(0, false), (1, false), (2, true), (3, true), (4, true)] R.mixed (by decide +kernel) R.ohm ?_
    (refine R.stepV ?_; (repeat' (first | (with_reducible refine And.intro ?_ ?_) | (with_reducible intro _))); all_goals refine R.Lft.mk ?_)
    rw [Int.toNat_natCast]
    exact ⟨rfl, R.Own.below (by assumption)⟩
  · have e3 : (((k + 1 : Nat) : Int) - 1) = (k : Nat) := by omega
    rw [e3]
    obtain ⟨s1, s2, s3⟩ := short_step a.lt (by omega : k < 8) hy0'
    have hml := Nat.mod_lt (a.n / wsz (k + 1)) hy0'
    have hw := wd_lt a.n k
    obtain ⟨d1, d2⟩ := dvQ_nat (a.n / wsz (k + 1) % y) (wd a.n k) y hml
    have d3 : 0 ≤ dvQ ((a.n / wsz (k + 1) % y : Nat) : Int) (wd a.n k : Nat) y ∧ dvQ ((a.n / wsz (k + 1) % y : Nat) : Int) (wd a.n k : Nat) y < 18446744073709551616 := by rw [d1]; exact ⟨Int.natCast_nonneg _, Int.ofNat_lt.2 s3⟩
    have d4 : dvR ((a.n / wsz (k + 1) % y : Nat) : Int) (wd a.n k : Nat) y = ((a.n / wsz k % y : Nat) : Int) := by rw [d2, s2]
    rw [← d1] at s1
    (refine R.stepV ?_; (repeat' (first | (with_reducible refine And.intro ?_ ?_) | (with_reducible intro _))); all_goals refine R.Lft.mk ?_)
    rename_i w5 hM
    rw [s1] at hM
    exact ⟨k, ⟨rfl, rfl, rfl, rfl, R.viaI rfl d4, R.viaI rfl (by omega), trivial⟩, ⟨by omega, hM⟩, by omega⟩
attribute [local irreducible] W512 in
set_option maxHeartbeats 1000000 in
theorem short_zero (a : Wd) (w : World) : Calls Tryz.prog 113 #[.agg (cW a).toArray, .int .u64 0] w fun e w' => e = .returned (.tuple #[.agg (cW (W 0)).toArray, .agg (cW (W 0)).toArray]) ∧ Below w.heap.size w w' := by
  have hM := R.Own.start [] w
  refine R.calls_of_WC (fn := Tryz.f113) Tryz.func113 rfl Tryz.ntmps113 (Nat.le_of_ble_eq_true rfl) ?_
  (refine R.stepV ?_; (repeat' (first | (with_reducible refine And.intro ?_ ?_) | (with_reducible intro _))); all_goals refine R.Lft.mk ?_)
  rename_i g1 _ _ g2 _ _ g3 w1 hM
  refine R.WC_loop (fun k : Nat => [(1, .int .u64 0), (2, .pointer (some ⟨g1, 0, none⟩)), (4, .pointer (some ⟨g2, 0, none⟩)), (5, .pointer (some ⟨g3, 0, none⟩)), (6, .int .u64 0), (7, .int .i64 ((k : Int) - 1))])
    (fun k w2 => k ≤ 8 ∧ R.Own [] w w2 [.blk g3 44 (cW (W 0)), .blk g2 44 (cW (W 0)), .blk g1 44 (cW a)]) (fun k => k)
    ⟨8, ⟨rfl, rfl, rfl, rfl, rfl, rfl, trivial⟩, by omega, hM⟩ ?_
  rintro k f w2 ⟨hk, hM⟩
  rcases k with _ | k
  · have hK := R.Lft.mk hM
    clear hM
    (refine R.stepV ?_; (repeat' (first | (with_reducible refine And.intro ?_ ?_) | (with_reducible intro _))); all_goals refine R.Lft.mk ?_)
    have hM := hK.out
    refine R.WC_planD1 [(0, false), (1, false), (2, true), (3, true), (4, true)] R.mixed (by decide +kernel) R.ohm ?_
    (refine R.stepV ?_; (repeat' (first | (with_reducible refine And.intro ?_ ?_) | (with_reducible intro _))); all_goals refine R.Lft.mk ?_)
    exact ⟨rfl, R.Own.below (by assumption)⟩
  · have e3 : (((k + 1 : Nat) : Int) - 1) = (k : Nat) := by omega
    rw [e3]
    have hw := wd_lt a.n k
    have d1 : dvQ 0 (wd a.n k : Nat) 0 = 0 := by unfold dvQ; rw [if_neg (by omega)]
    have d2 : dvR 0 (wd a.n k : Nat) 0 = 0 := by unfold dvR; rw [if_neg (by omega)]
    have s1 : stW (W 0) k 0 = W 0 := by
      refine Wd.ext_ ?_
      rw [stW_n (by omega) (by unfold InU64; omega), W_n W512_pos]
      simp [setw]
    (refine R.stepV ?_; (repeat' (first | (with_reducible refine And.intro ?_ ?_) | (with_reducible intro _))); all_goals refine R.Lft.mk ?_)
    rename_i w5 hM
    rw [d1, s1] at hM
    exact ⟨k, ⟨rfl, rfl, rfl, rfl, R.viaI rfl d2, R.viaI rfl (by omega), trivial⟩, ⟨by omega, hM⟩, by omega⟩
/-- The rest; nought where nothing is divided. -/
def restW (a y : Nat) : Wd := if y = 0 then W 0 else W (a % y)
instance con_short (a : Wd) (y : Int) : R.ConB Tryz.prog 113 #[.agg (cW a).toArray, .int .u64 y] Unit (fun _ _ => InU64 y) (fun _ => .tuple #[.agg (cW (W (a.n / y.toNat))).toArray, .agg (cW (restW a.n y.toNat)).toArray]) := ⟨fun _ w h => by
  unfold restW
  by_cases h0 : y = 0
  · subst h0
    rw [show (0 : Int).toNat = 0 from rfl, Nat.div_zero, if_pos rfl]
    exact short_zero a w
  · have : 0 < y := by unfold InU64 at h; omega
    rw [if_neg (by omega)]
    exact short_any a y h this w⟩
theorem shW_up (b : Wd) (k : Nat) (h : bitLen b.n + k ≤ 512) : (shW b (k : Int)).n = b.n * 2 ^ k := by
  show shI b.n k = _
  rw [shI_up, Nat.mod_eq_of_lt (fits_up _ _ h)]
theorem cmpI_neg (x y : Nat) : cmpI x y < 0 ↔ x < y := by
  unfold cmpI
  split
  · simp [*]
  · split <;> simp [*]
theorem W_val (a : Wd) (n : Nat) (h : n ≤ a.n) : (W n).n = n := W_n (Nat.lt_of_le_of_lt h a.lt)
theorem bl_one : bitLen (W 1).n = 1 := by rw [W_n (wsmall (by decide))]; rfl
end Go.Proofs.YtmoppmfbfpjdnaaGreat
namespace Go.Proofs.YtmoppmfbfpjdnaaGreat
open Go.RowKit
open R (In64 InU64 lo64 nth)

def qW (a b : Wd) : Wd := W (a.n / b.n)
def rW (a b : Wd) : Wd := restW a.n b.n
def eW (b : Wd) : Int := if b.n = 0 then 1 else 0
theorem one_word (b : Wd) : b = W ((wd b.n 0 : Nat) : Int).toNat ↔ b.n < 18446744073709551616 := by
  have h1 := wd_lt b.n 0
  have e : wd b.n 0 = b.n % 18446744073709551616 := by unfold wd; rw [Nat.mul_zero, Nat.pow_zero, Nat.div_one]
  rw [Wd.ext_iff, Int.toNat_natCast, W_n (wsmall h1), e]
  omega
theorem bl_pos {x : Nat} (h : 0 < x) : 0 < bitLen x := by
  rcases Nat.eq_zero_or_pos (bitLen x) with h1 | h1
  · have := (bitLen_spec x).1
    rw [h1] at this; simp at this; omega
  · exact h1
/-- The start of dividing bit by bit. -/
theorem over_start (a b : Wd) (h0 : 0 < b.n) : DivI a.n b.n ((bitLen a.n : Int) - bitLen b.n + 1).toNat 0 a.n := by
  refine DivI.start ?_
  obtain ⟨h1, _⟩ := bitLen_spec a.n
  obtain ⟨_, h2⟩ := bitLen_spec b.n
  have h2 := h2 (by omega)
  have hb := bl_pos h0
  have h3 : 2 ^ (bitLen b.n - 1) * 2 ^ ((bitLen a.n : Int) - bitLen b.n + 1).toNat ≤ b.n * 2 ^ ((bitLen a.n : Int) - bitLen b.n + 1).toNat := Nat.mul_le_mul_right _ h2
  rw [← Nat.pow_add] at h3
  have h4 : 2 ^ bitLen a.n ≤ 2 ^ (bitLen b.n - 1 + ((bitLen a.n : Int) - bitLen b.n + 1).toNat) := Nat.pow_le_pow_right (by decide) (by omega)
  omega
attribute [local irreducible] W512 in
set_option maxHeartbeats 2000000 in
theorem over_any (a b : Wd) (w : World) : Calls Tryz.prog 101 #[.agg (cW a).toArray, .agg (cW b).toArray] w fun e w' => e = .returned (.tuple #[.agg (cW (qW a b)).toArray, .agg (cW (rW a b)).toArray, .int .i64 (eW b)]) ∧ Below w.heap.size w w' := by
  have hM := R.Own.start [] w
  by_cases h0 : b.n = 0
  · have e1 : qW a b = W 0 := by unfold qW; rw [h0, Nat.div_zero]
    have e2 : rW a b = W 0 := by unfold rW restW; rw [if_pos h0]
    have e3 : eW b = 1 := by unfold eW; rw [if_pos h0]
    rw [e1, e2, e3]
    refine R.calls_of_WC (fn := Tryz.f101) Tryz.func101 rfl Tryz.ntmps101 (Nat.le_of_ble_eq_true rfl) ?_
    (refine R.stepV ?_; (repeat' (first | (with_reducible refine And.intro ?_ ?_) | (with_reducible intro _))); all_goals refine R.Lft.mk ?_; (all_goals (try (exact ⟨rfl, R.Own.below (by assumption)⟩))))
  have e2 : rW a b = W (a.n % b.n) := by unfold rW restW; rw [if_neg h0]
  have e3 : eW b = 0 := by unfold eW; rw [if_neg h0]
  have e1 : qW a b = W (a.n / b.n) := rfl
  have hbl1 := bl_le a
  have hbl2 := bl_le b
  have hbl3 := bl_pos (by omega : 0 < b.n)
  have hmr : a.n % b.n < b.n := Nat.mod_lt _ (by omega)
  have hw0 : InU64 (wd b.n (Int.toNat 0) : Nat) := wd_range _ _
  have hw := one_word b
  by_cases h1 : b.n < 18446744073709551616
  · have hwd : wd b.n (Int.toNat 0) = b.n := by
      rw [show Int.toNat 0 = 0 from rfl]
      unfold wd
      rw [Nat.mul_zero, Nat.pow_zero, Nat.div_one]
      omega
    rw [e1, e3]
    unfold rW
    refine R.calls_of_WC (fn := Tryz.f101) Tryz.func101 rfl Tryz.ntmps101 (Nat.le_of_ble_eq_true rfl) ?_
    (refine R.stepV ?_; (repeat' (first | (with_reducible refine And.intro ?_ ?_) | (with_reducible intro _))); all_goals refine R.Lft.mk ?_; (all_goals (try (exact ⟨rfl, R.Own.below (by assumption)⟩))))
    · rw [hwd, Int.toNat_natCast]
      exact ⟨rfl, R.Own.below (by assumption)⟩
    · rename_i hx _ _
      exact absurd (hw.2 h1) hx
  · rw [e1, e2, e3]
    refine R.calls_of_WC (fn := Tryz.f101) Tryz.func101 rfl Tryz.ntmps101 (Nat.le_of_ble_eq_true rfl) ?_
    (refine R.stepV ?_; (repeat' (first | (with_reducible refine And.intro ?_ ?_) | (with_reducible intro _))); all_goals refine R.Lft.mk ?_; (all_goals (try (exact ⟨rfl, R.Own.below (by assumption)⟩))))
    · exact absurd (hw.1 (by assumption)) h1
    rename_i g1 _ _ g2 _ _ g3 _ _ g4 _ _ _ _ _ _ _ _ hx w1 hM
    refine R.WC_planO [(0, false), (2, false), (1, true), (3, true), (4, false), (5, false)] R.mixed (by decide +kernel) R.ohm ?_
    (refine R.stepV ?_; (repeat' (first | (with_reducible refine And.intro ?_ ?_) | (with_reducible intro _))); all_goals refine R.Lft.mk ?_)
    rename_i w1 hM
    refine R.WC_loop (fun s : Int × Nat × Nat => [(3, .pointer (some ⟨g2, 0, none⟩)), (4, .pointer (some ⟨g3, 0, none⟩)), (5, .pointer (some ⟨g4, 0, none⟩)), (6, .int .i64 0), (7, .int .i64 s.1)])
      (fun s w2 => s.1 ≤ (bitLen a.n : Int) - bitLen b.n ∧ -513 ≤ s.1 ∧ DivI a.n b.n (s.1 + 1).toNat s.2.1 s.2.2 ∧ R.Own [] w w2 [.blk g4 44 (cW (W s.2.2)), .blk g3 44 (cW (W s.2.1)), .blk g2 44 (cW b), .blk g1 44 (cW a)]) (fun s => (s.1 + 1).toNat)
      ⟨((bitLen a.n : Int) - bitLen b.n, 0, a.n), ⟨rfl, rfl, rfl, rfl, rfl, trivial⟩, by dsimp only; omega, by dsimp only; omega, over_start a b (by omega), by dsimp only; rw [W_self]; exact hM⟩ ?_
    clear hM hw hw0 hx
    rintro ⟨by_, q, r⟩ f w2 ⟨hb1, hb2, hI, hM⟩
    dsimp only at hb1 hb2 hI hM ⊢
    have hra : r ≤ a.n := by have := hI.sum; omega
    by_cases hby : by_ < 0
    · rw [show (by_ + 1).toNat = 0 by omega] at hI
      obtain ⟨d1, d2⟩ := hI.done
      (refine R.stepV ?_; (repeat' (first | (with_reducible refine And.intro ?_ ?_) | (with_reducible intro _))); all_goals refine R.Lft.mk ?_; (all_goals (try (exact ⟨rfl, R.Own.below (by assumption)⟩))))
      rw [← d1, ← d2]
      exact ⟨rfl, R.Own.below (by assumption)⟩
    · obtain ⟨m, rfl⟩ : ∃ m : Nat, by_ = m := ⟨by_.toNat, by omega⟩
      rw [show ((m : Int) + 1).toNat = m + 1 by omega] at hI
      have hs := shW_up b m (by omega)
      have hWr := W_val a r hra
      by_cases hlt : r < b.n * 2 ^ m
      · have hI2 := hI.skip hlt
        have hc : cmpI (W r).n (shW b (m : Int)).n < 0 := (cmpI_neg _ _).2 (by rw [hWr, hs]; exact hlt)
        (refine R.stepV ?_; (repeat' (first | (with_reducible refine And.intro ?_ ?_) | (with_reducible intro _))); all_goals refine R.Lft.mk ?_; (all_goals (try (exact ⟨rfl, R.Own.below (by assumption)⟩))))
        rename_i hM
        exact ⟨((m : Int) - 1, q, r), ⟨rfl, rfl, rfl, rfl, rfl, trivial⟩, ⟨by dsimp only; omega, by dsimp only; omega, by dsimp only; rw [show ((m : Int) - 1 + 1).toNat = m by omega]; exact hI2, hM.tl⟩, by dsimp only; omega⟩
      · have hI2 := hI.take (by omega)
        have hc : ¬ cmpI (W r).n (shW b (m : Int)).n < 0 := fun h => hlt (by have := (cmpI_neg _ _).1 h; rwa [hWr, hs] at this)
        have hq2 : q + 2 ^ m ≤ a.n := by
          have h5 := hI2.sum
          have h6 : (q + 2 ^ m) * 1 ≤ (q + 2 ^ m) * b.n := Nat.mul_le_mul_left _ (by omega)
          omega
        have h1m : (shW (W 1) (m : Int)).n = 2 ^ m := by
          rw [shW_up (W 1) m (by rw [bl_one]; have := hbl1; omega), W_n (wsmall (by decide)), Nat.one_mul]
        have u1 : difW (W r) (shW b (m : Int)) = W (r - b.n * 2 ^ m) := Wd.ext_ (by
          show dif (W r).n (shW b (m : Int)).n = _
          rw [dif_of_le (W r).lt (by rw [hWr, hs]; omega), hWr, hs, W_val a _ (by omega)])
        have u2 : (W q).n + (shW (W (Int.toNat 1)) (m : Int)).n = q + 2 ^ m := by rw [show Int.toNat 1 = 1 from rfl, h1m, W_val a q (by omega)]
        (refine R.stepV ?_; (repeat' (first | (with_reducible refine And.intro ?_ ?_) | (with_reducible intro _))); all_goals refine R.Lft.mk ?_; (all_goals (try (exact ⟨rfl, R.Own.below (by assumption)⟩))))
        refine R.WC_planX [(0, false), (2, false), (1, true), (3, true), (4, true), (5, false), (6, false), (7, false), (8, true)] R.mixed (by decide +kernel) R.ohm ?_
        (refine R.stepV ?_; (repeat' (first | (with_reducible refine And.intro ?_ ?_) | (with_reducible intro _))); all_goals refine R.Lft.mk ?_; (all_goals (try (exact ⟨rfl, R.Own.below (by assumption)⟩))))
        rename_i hM
        rw [u1, u2] at hM
        exact ⟨((m : Int) - 1, q + 2 ^ m, r - b.n * 2 ^ m), ⟨rfl, rfl, rfl, rfl, rfl, trivial⟩, ⟨by dsimp only; omega, by dsimp only; omega, by dsimp only; rw [show ((m : Int) - 1 + 1).toNat = m by omega]; exact hI2, hM.tl⟩, by dsimp only; omega⟩
instance con_qover (a b : Wd) : R.ConB Tryz.prog 101 #[.agg (cW a).toArray, .agg (cW b).toArray] Unit (fun _ _ => True) (fun _ => .tuple #[.agg (cW (qW a b)).toArray, .agg (cW (rW a b)).toArray, .int .i64 (eW b)]) := ⟨fun _ w _ => over_any a b w⟩
end Go.Proofs.YtmoppmfbfpjdnaaGreat
namespace Go.Proofs.YtmoppmfbfpjdnaaGreat
open Go.RowKit
open R (In64 InU64 lo64 nth)

end Go.Proofs.YtmoppmfbfpjdnaaGreat
