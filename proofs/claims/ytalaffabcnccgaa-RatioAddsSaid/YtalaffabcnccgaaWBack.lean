/- The law WideBack. -/
import Derived.Test.YtalaffabcnccgaaVGo
import Derived.Test.YtalaffabcnccgaaOpn
import Derived.Test.YtalaffabcnccgaaOpen
namespace Go.Proofs.Ytalaffabcnccgaa
open Go.ChangeShapes Go.WideShapes Go.ChangeAt Go.RowKit
open R (In64 InU64 lo64 nth)

theorem shI_up (a n : Nat) : shI a (n : Int) = a * 2 ^ n % W512 := by
  unfold shI
  rw [if_neg (by omega), Int.toNat_natCast]
theorem shI_down (a n : Nat) (ha : a < W512) : shI a (-(n : Int)) = a / 2 ^ n := by
  unfold shI
  by_cases h : n = 0
  · subst h; simp [Nat.mod_eq_of_lt ha]
  · rw [if_pos (by omega), show (-(-(n : Int))).toNat = n by omega]
theorem shW_twice (a : Wd) (n m : Nat) : shW (shW a n) m = shW a ((n : Int) + m) := by
  refine Wd.ext_ ?_
  show shI (shI a.n n) m = shI a.n ((n : Int) + m)
  rw [← Int.natCast_add, shI_up, shI_up, shI_up, Nat.mod_mul_mod, Nat.mul_assoc, ← Nat.pow_add]
theorem shW_downs (a : Wd) (n m : Nat) : shW (shW a (-(n : Int))) (-(m : Int)) = shW a (-(n : Int) - m) := by
  refine Wd.ext_ ?_
  show shI (shI a.n (-(n : Int))) (-(m : Int)) = shI a.n (-(n : Int) - m)
  rw [show (-(n : Int) - m) = -((n + m : Nat) : Int) by omega, shI_down _ _ (shI_lt a.lt _), shI_down _ _ a.lt, shI_down _ _ a.lt, Nat.div_div_eq_div_mul, ← Nat.pow_add]
theorem fits_up (a n : Nat) (h : bitLen a + n ≤ 512) : a * 2 ^ n < W512 := by
  obtain ⟨N, hN, hw⟩ := W512_pow
  have h1 := (bitLen_spec a).1
  have h2 : a * 2 ^ n < 2 ^ bitLen a * 2 ^ n := Nat.mul_lt_mul_of_pos_right h1 (Nat.two_pow_pos _)
  rw [← Nat.pow_add] at h2
  rw [hw]
  exact Nat.lt_of_lt_of_le h2 (Nat.pow_le_pow_right (by omega) (by omega))
theorem shW_back (a : Wd) (n : Nat) (h : bitLen a.n + n ≤ 512) : shW (shW a n) (-(n : Int)) = a := by
  refine Wd.ext_ ?_
  show shI (shI a.n n) (-(n : Int)) = a.n
  rw [shI_down _ _ (shI_lt a.lt _), shI_up, Nat.mod_eq_of_lt (fits_up _ _ h), Nat.mul_div_cancel _ (Nat.two_pow_pos _)]
theorem bitLen_up {a : Nat} (n : Nat) (h : a ≠ 0) : bitLen (a * 2 ^ n) = bitLen a + n := by
  obtain ⟨h1, h2⟩ := bitLen_spec a
  have h2 := h2 h
  have hp : a * 2 ^ n ≠ 0 := Nat.mul_ne_zero h (Nat.pos_iff_ne_zero.1 (Nat.two_pow_pos n))
  obtain ⟨h3, h4⟩ := bitLen_spec (a * 2 ^ n)
  have h4 := h4 hp
  have h0 : 0 < bitLen a := by
    rcases Nat.eq_zero_or_pos (bitLen a) with h5 | h5
    · rw [h5] at h1; simp at h1; omega
    · exact h5
  have u1 : a * 2 ^ n < 2 ^ (bitLen a + n) := by rw [Nat.pow_add]; exact Nat.mul_lt_mul_of_pos_right h1 (Nat.two_pow_pos _)
  have u2 : 2 ^ (bitLen a - 1 + n) ≤ a * 2 ^ n := by rw [Nat.pow_add]; exact Nat.mul_le_mul_right _ h2
  have u3 := (Nat.pow_lt_pow_iff_right (by omega : 1 < 2)).1 (Nat.lt_of_le_of_lt u2 h3)
  have u4 := (Nat.pow_lt_pow_iff_right (by omega : 1 < 2)).1 (Nat.lt_of_le_of_lt h4 u1)
  omega
theorem len_up (a : Wd) (n : Nat) (h : bitLen a.n + n ≤ 512) (h0 : a.n ≠ 0) : bitLen (shW a n).n = bitLen a.n + n := by
  show bitLen (shI a.n n) = _
  rw [shI_up, Nat.mod_eq_of_lt (fits_up _ _ h), bitLen_up n h0]
theorem bl_le (a : Wd) : bitLen a.n ≤ 512 := by
  obtain ⟨N, hN, hw⟩ := W512_pow
  rw [← hN]
  exact bitLen_le_ (by rw [← hw]; exact a.lt)
set_option maxHeartbeats 4000000 in
theorem wideBack_any (a : Wd) (x y : Int) (hx : 0 ≤ x ∧ x ≤ 65535) (hy : 0 ≤ y ∧ y ≤ 65535) (w : World) :
    Calls Try.prog 7 #[.agg (cW a).toArray, .int .u16 x, .int .u16 y] w fun e w' => e = .returned (.bool true) ∧ Below w.heap.size w w' := by
  have hM := R.Own.start [] w
  obtain ⟨n, hn⟩ : ∃ n : Nat, x % 600 = n := ⟨(x % 600).toNat, by omega⟩
  obtain ⟨m, hm⟩ : ∃ m : Nat, y % 600 = m := ⟨(y % 600).toNat, by omega⟩
  have hl1 := bl_le a
  have hl2 := bl_le (shW a (x % 600))
  have e1 : (bitLen a.n : Int) + x % 600 ≤ 512 → shW (shW a (x % 600)) (-(x % 600)) = a := by rw [hn]; intro h; exact shW_back a n (by omega)
  have e2 : (bitLen a.n : Int) + x % 600 ≤ 512 → a.n ≠ 0 → (bitLen (shW a (x % 600)).n : Int) = (bitLen a.n : Int) + x % 600 := by rw [hn]; intro h h0; have := len_up a n (by omega) h0; omega
  have e3 : shW (shW a (x % 600)) (y % 600) = shW a (x % 600 + y % 600) := by rw [hn, hm]; exact shW_twice a n m
  have e4 : shW (shW a (-(x % 600))) (-(y % 600)) = shW a (-(x % 600) - y % 600) := by rw [hn, hm]; exact shW_downs a n m
  clear hn hm
  refine R.calls_of_WC (fn := Try.f7) Try.func7 rfl Try.ntmps7 (Nat.le_of_ble_eq_true rfl) ?_
  (refine R.stepV ?_; (repeat' (first | (with_reducible refine And.intro ?_ ?_) | (with_reducible intro _))); all_goals refine R.Lft.mk ?_; (all_goals (try (exact ⟨rfl, R.Own.below (by assumption)⟩))))
  refine R.WC_planO [(0, false), (2, false), (1, true), (3, false), (4, false), (5, false), (6, false), (7, false), (8, false), (10, false), (9, true), (11, false), (12, false), (13, false), (14, true), (15, false), (16, false), (17, false), (19, false), (21, false), (18, true), (20, true), (22, false), (23, false), (24, false), (25, false), (26, false)] R.mixed (by decide +kernel) R.ohm ?_
  (refine R.stepV ?_; (repeat' (first | (with_reducible refine And.intro ?_ ?_) | (with_reducible intro _))); all_goals refine R.Lft.mk ?_; (all_goals (try (exact ⟨rfl, R.Own.below (by assumption)⟩))))
  all_goals (try exact absurd (e1 (by assumption)) (by assumption))
  all_goals (try exact absurd (e2 (by assumption) (by simpa using (by assumption : (!decide (a.n = 0)) = true))) (by assumption))
  all_goals refine R.WC_planO [(0, false), (1, false), (3, false), (4, false), (5, false), (6, false), (2, true), (7, true), (8, false), (9, false), (10, false), (11, false), (12, false), (14, false), (15, false), (17, false), (18, false), (19, false), (20, false), (21, false), (13, true), (16, true), (22, true), (23, false), (24, false), (25, false), (26, true), (27, false), (28, false)] R.mixed (by decide +kernel) R.ohm ?_
  all_goals (refine R.stepV ?_; (repeat' (first | (with_reducible refine And.intro ?_ ?_) | (with_reducible intro _))); all_goals refine R.Lft.mk ?_; (all_goals (try (exact ⟨rfl, R.Own.below (by assumption)⟩))))
  all_goals (try exact absurd e3 (by assumption))
  all_goals (try exact absurd e4 (by assumption))
set_option maxRecDepth 100000 in
theorem walk_WideBack {H : Type} {enc : TypeId × Value → H} (W : World) (base : Nat) (args : Array Value) (ds : List (DataW H)) (ps : List MemPlace) (hA : DataW.TrodAll enc Try.prog W 0 (fun _ => true) true [43, 47, 47] args.toList ds ps)
    (hval : ∀ (j : Nat) t v, #[43, 47, 47][j]? = some t → args[j]? = some v → Value.okWide Try.prog W .any base t v) :
    Calls Try.prog 7 args W fun e W' => e = .returned (.bool true) ∧ Below W.heap.size W W' := by
  obtain ⟨v0, v1, v2, d0, d1, d2, p0, p1, p2, rfl, rfl, rfl, h0, h1, h2⟩ := trodAll_three hA
  obtain ⟨a, ha, rfl⟩ := open_wide (hval 0 43 v0 rfl rfl) h0
  obtain ⟨b, rfl, rfl, rfl, wb⟩ := open_int (k := .u16) (by kernel_rfl) (hval 1 47 v1 rfl rfl) h1
  obtain ⟨c, rfl, rfl, rfl, wc⟩ := open_int (k := .u16) (by kernel_rfl) (hval 2 47 v2 rfl rfl) h2
  exact wideBack_any ⟨a, ha⟩ b c (bounds_u16 wb) (bounds_u16 wc) W
end Go.Proofs.Ytalaffabcnccgaa
