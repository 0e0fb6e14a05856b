/- The law QuotGcd. -/
import Derived.Test.YtalaffabcnccgaaQa
import Derived.Test.YtalaffabcnccgaaOpn
import Derived.Test.YtalaffabcnccgaaOpen
namespace Go.Proofs.Ytalaffabcnccgaa
open Go.ChangeShapes Go.WideShapes Go.ChangeAt Go.RowKit
open R (In64 InU64 lo64 nth)

theorem rW_zero_dvd {a c : Wd} (hc : c.n ≠ 0) : rW a c = W 0 ↔ c.n ∣ a.n := by
  unfold rW restW
  rw [if_neg hc, Wd.zero_iff, W_val a _ (Nat.mod_le _ _)]
  exact (Nat.dvd_iff_mod_eq_zero ..).symm
theorem gcd_n (a b : Wd) : (gcdW a b).n = Nat.gcd a.n b.n := W_n (gcd_lt a b)
set_option maxRecDepth 20000 in
attribute [local irreducible] W512 in
set_option maxHeartbeats 4000000 in
theorem quotGcd_any (a b c : Wd) (w : World) :
    Calls Try.prog 10 #[.agg (cW a).toArray, .agg (cW b).toArray, .agg (cW c).toArray] w fun e w' => e = .returned (.bool true) ∧ Below w.heap.size w w' := by
  have hM := R.Own.start [] w
  have hsym : gcdW b a = gcdW a b := by unfold gcdW; rw [Nat.gcd_comm]
  by_cases hg : (gcdW a b).n = 0
  · have hgz : gcdW a b = W 0 := Wd.zero_iff.2 hg
    have h1 := hg
    rw [gcd_n] at h1
    have ha : a = W 0 := Wd.zero_iff.2 (Nat.eq_zero_of_gcd_eq_zero_left h1)
    have hb : b = W 0 := Wd.zero_iff.2 (Nat.eq_zero_of_gcd_eq_zero_right h1)
    refine R.calls_of_WC (fn := Try.f10) Try.func10 rfl Try.ntmps10 (Nat.le_of_ble_eq_true rfl) ?_
    (refine R.stepT ?_; (repeat' (first | (with_reducible refine And.intro ?_ ?_) | (with_reducible intro _))); all_goals refine R.Lft.mk ?_; (all_goals (try (exact ⟨rfl, R.Own.below (by assumption)⟩))))
    refine R.WC_planX [(0, false), (1, false), (2, false), (3, true), (4, false), (5, false), (6, false), (7, false), (9, false), (8, true), (10, false), (11, false)] R.mixed (by decide +kernel) R.ohm ?_
    (refine R.stepT ?_; (repeat' (first | (with_reducible refine And.intro ?_ ?_) | (with_reducible intro _))); all_goals refine R.Lft.mk ?_; (all_goals (try (exact ⟨rfl, R.Own.below (by assumption)⟩))))
    all_goals first | exact absurd rfl (by assumption) | exact absurd hsym (by assumption)
  · have hgz : gcdW a b ≠ W 0 := fun h => hg (Wd.zero_iff.1 h)
    have ha : rW a (gcdW a b) = W 0 := (rW_zero_dvd hg).2 (by rw [gcd_n]; exact Nat.gcd_dvd_left _ _)
    have hb : rW b (gcdW a b) = W 0 := (rW_zero_dvd hg).2 (by rw [gcd_n]; exact Nat.gcd_dvd_right _ _)
    have hc : eW c = 0 → rW a c = W 0 → rW b c = W 0 → rW (gcdW a b) c = W 0 := fun h h1 h2 => by
      have hcn : c.n ≠ 0 := fun h0 => by unfold eW at h; rw [if_pos h0] at h; cases h
      refine (rW_zero_dvd hcn).2 ?_
      rw [gcd_n]
      exact Nat.dvd_gcd ((rW_zero_dvd hcn).1 h1) ((rW_zero_dvd hcn).1 h2)
    refine R.calls_of_WC (fn := Try.f10) Try.func10 rfl Try.ntmps10 (Nat.le_of_ble_eq_true rfl) ?_
    (refine R.stepT ?_; (repeat' (first | (with_reducible refine And.intro ?_ ?_) | (with_reducible intro _))); all_goals refine R.Lft.mk ?_; (all_goals (try (exact ⟨rfl, R.Own.below (by assumption)⟩))))
    refine R.WC_planX [(0, false), (1, false), (2, false), (3, true), (4, false), (5, false), (6, false), (7, false), (9, false), (8, true), (10, false), (11, false)] R.mixed (by decide +kernel) R.ohm ?_
    (refine R.stepT ?_; (repeat' (first | (with_reducible refine And.intro ?_ ?_) | (with_reducible intro _))); all_goals refine R.Lft.mk ?_; (all_goals (try (exact ⟨rfl, R.Own.below (by assumption)⟩))))
    all_goals first | exact absurd rfl (by assumption) | exact absurd hsym (by assumption) | exact absurd ha (by assumption) | exact absurd hb (by assumption) | exact absurd (hc (Decidable.not_not.1 (by assumption)) (Decidable.not_not.1 (by assumption)) (Decidable.not_not.1 (by assumption))) (by assumption)
set_option maxRecDepth 100000 in
theorem walk_QuotGcd {H : Type} {enc : TypeId × Value → H} (W : World) (base : Nat) (args : Array Value) (ds : List (DataW H)) (ps : List MemPlace) (hA : DataW.TrodAll enc Try.prog W 0 (fun _ => true) true [43, 43, 43] args.toList ds ps)
    (hval : ∀ (j : Nat) t v, #[43, 43, 43][j]? = some t → args[j]? = some v → Value.okWide Try.prog W .any base t v) :
    Calls Try.prog 10 args W fun e W' => e = .returned (.bool true) ∧ Below W.heap.size W W' := by
  obtain ⟨v0, v1, v2, d0, d1, d2, p0, p1, p2, rfl, rfl, rfl, h0, h1, h2⟩ := trodAll_three hA
  obtain ⟨a, ha, rfl⟩ := open_wide (hval 0 43 v0 rfl rfl) h0
  obtain ⟨b, hb, rfl⟩ := open_wide (hval 1 43 v1 rfl rfl) h1
  obtain ⟨c, hc, rfl⟩ := open_wide (hval 2 43 v2 rfl rfl) h2
  exact quotGcd_any ⟨a, ha⟩ ⟨b, hb⟩ ⟨c, hc⟩ W
end Go.Proofs.Ytalaffabcnccgaa
