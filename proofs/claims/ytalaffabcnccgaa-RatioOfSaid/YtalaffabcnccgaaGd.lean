/- snicketref04: Gcd. -/
import Derived.Test.YtalaffabcnccgaaGc
namespace Go.Proofs.Ytalaffabcnccgaa
open Go.RowKit
open R (In64 InU64 lo64 nth)

theorem rnd_start (a b : Wd) : (rnd 1000 (a.n, b.n)).2 = 0 := by
  obtain ⟨N, hN, hw⟩ := W512_pow
  exact rnd_enough hN (by rw [← hw]; exact a.lt) (by rw [← hw]; exact b.lt)
attribute [local irreducible] W512 in
set_option maxRecDepth 20000 in
set_option maxHeartbeats 2000000 in
theorem gcd4 (a b : Wd) (w : World) : Calls Try.prog 51 #[.agg (cW a).toArray, .agg (cW b).toArray] w fun e w' => e = .returned (.agg (cW (gcdW a b)).toArray) ∧ Below w.heap.size w w' := by
  have hM := R.Own.start [] w
  refine R.calls_of_WC (fn := Try.f51) Try.func51 rfl Try.ntmps51 (Nat.le_of_ble_eq_true rfl) ?_
  (refine R.stepU ?_; (repeat' (first | (with_reducible refine And.intro ?_ ?_) | (with_reducible intro _))); all_goals refine R.Lft.mk ?_)
  rename_i g1 _ _ g2 _ _ g3 w1 hM
  refine R.WC_loop (fun s : Nat × Wd × Wd => [(2, .pointer (some ⟨g1, 0, none⟩)), (3, .pointer (some ⟨g2, 0, none⟩)), (4, .pointer (some ⟨g3, 0, none⟩)), (5, .int .i64 (s.1 : Nat))])
    (fun s w2 => s.1 ≤ 1000 ∧ R.Lft (Nat.gcd s.2.1.n s.2.2.n = Nat.gcd a.n b.n ∧ (rnd (1000 - s.1) (s.2.1.n, s.2.2.n)).2 = 0) ∧ R.Own [] w w2 [.blk g3 43 (cW (W 0)), .blk g2 43 (cW s.2.2), .blk g1 43 (cW s.2.1)]) (fun s => 1000 - s.1)
    ⟨(0, a, b), ⟨rfl, rfl, rfl, rfl, trivial⟩, by dsimp only; omega, ⟨rfl, rnd_start a b⟩, hM⟩ ?_
  clear hM
  rintro ⟨k, x, y⟩ f w2 ⟨hk, hK, hM⟩
  dsimp only at hk hK hM ⊢
  by_cases hy : y = W 0
  · have e1 : gcdW a b = x := Wd.ext_ (by
      unfold gcdW
      rw [W_n (gcd_lt a b), ← hK.out.1, Wd.zero_iff.1 hy, Nat.gcd_zero_right])
    (refine R.stepU ?_; (repeat' (first | (with_reducible refine And.intro ?_ ?_) | (with_reducible intro _))); all_goals refine R.Lft.mk ?_; (all_goals (try (exact ⟨rfl, R.Own.below (by assumption)⟩))))
    all_goals first | exact absurd hy (by assumption) | (rw [e1]; exact ⟨rfl, R.Own.below (by assumption)⟩)
  · have hyn : y.n ≠ 0 := fun h => hy (Wd.zero_iff.2 h)
    by_cases hlt : k < 1000
    · have hpos : 0 < y.n := by omega
      have e2 : (W (x.n % y.n)).n = x.n % y.n := W_val x _ (Nat.mod_le _ _)
      have hK2 : R.Lft (Nat.gcd y.n (W (x.n % y.n)).n = Nat.gcd a.n b.n ∧ (rnd (1000 - (k + 1)) (y.n, (W (x.n % y.n)).n)).2 = 0) := ⟨by
        rw [e2]
        obtain ⟨h1, h2⟩ := hK.out
        constructor
        · rw [← h1, Nat.gcd_comm x.n, Nat.gcd_rec y.n x.n, Nat.gcd_comm]
        · rw [show 1000 - k = (1000 - (k + 1)) + 1 by omega] at h2
          unfold rnd at h2
          rwa [if_neg hyn] at h2⟩
      (refine R.stepU ?_; (repeat' (first | (with_reducible refine And.intro ?_ ?_) | (with_reducible intro _))); all_goals refine R.Lft.mk ?_; (all_goals (try (exact ⟨rfl, R.Own.below (by assumption)⟩))))
      (refine R.WC_planK 1 [(0, false), (1, false), (2, true), (3, true)] R.mixed (by decide +kernel) R.ohm ?_; simp only [List.take_succ_cons, List.take_zero])
      (refine R.stepU ?_; (repeat' (first | (with_reducible refine And.intro ?_ ?_) | (with_reducible intro _))); all_goals refine R.Lft.mk ?_; (all_goals (try (exact ⟨rfl, R.Own.below (by assumption)⟩))))
      rename_i hM
      exact ⟨(k + 1, y, W (x.n % y.n)), ⟨rfl, rfl, rfl, R.viaI rfl (by dsimp only; omega), trivial⟩, ⟨by dsimp only; omega, hK2, hM.tl.tl⟩, by dsimp only; omega⟩
    · exfalso
      have h2 := hK.out.2
      rw [show 1000 - k = 0 by omega] at h2
      exact hyn h2
instance con_gcd4 (a b : Wd) : R.ConB Try.prog 51 #[.agg (cW a).toArray, .agg (cW b).toArray] Unit (fun _ _ => True) (fun _ => .agg (cW (gcdW a b)).toArray) := ⟨fun _ w _ => gcd4 a b w⟩
end Go.Proofs.Ytalaffabcnccgaa
