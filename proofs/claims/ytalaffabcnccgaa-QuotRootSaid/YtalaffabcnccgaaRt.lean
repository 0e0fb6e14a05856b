/- Package quot: Root. -/
import Derived.Test.YtalaffabcnccgaaQt
import Derived.Test.YtalaffabcnccgaaWf
namespace Go.Proofs.Ytalaffabcnccgaa
open Go.RowKit
open R (In64 InU64 lo64 nth)

theorem root_x (a r : Wd) (k : Nat) (hk : k ≤ 256) (h : RootI a.n (k + 1) r.n) : (W (r.n + (shW (W (Int.toNat 1)) (k : Int)).n)).n = r.n + 2 ^ k := by
  have e1 : (W 1).n = 1 := W_n (wsmall (by decide))
  rw [show Int.toNat 1 = 1 from rfl, shW_up (W 1) k (by rw [bl_one]; omega), e1, Nat.one_mul]
  obtain ⟨N, hN, hw⟩ := W512_pow
  obtain ⟨M, hM⟩ : ∃ M, M = 256 := ⟨256, rfl⟩
  have h1 := h.le
  have h4 := a.lt
  rw [hw] at h4
  have h2 : r.n < 2 ^ M := by
    rcases Nat.lt_or_ge r.n (2 ^ M) with h | h
    · exact h
    · have h3 := Nat.mul_le_mul h h
      rw [← Nat.pow_add, show M + M = N by omega] at h3
      exact absurd (Nat.lt_of_lt_of_le h4 (Nat.le_trans h3 h1)) (Nat.lt_irrefl _)
  have h5 : 2 ^ k ≤ 2 ^ M := Nat.pow_le_pow_right (by decide) (by omega)
  have h6 : 2 ^ (M + 1) ≤ 2 ^ N := Nat.pow_le_pow_right (by decide) (by omega)
  rw [Nat.pow_succ] at h6
  refine W_n ?_
  rw [hw]
  omega
theorem root_take {a r x : Wd} {k : Nat} (h : RootI a.n (k + 1) r.n) (hx : x.n = r.n + 2 ^ k) (h1 : x.n * x.n < W512) (h2 : cmpI (W (x.n * x.n)).n a.n ≤ 0) : RootI a.n k x.n := by
  have h3 : x.n * x.n ≤ a.n := by
    rw [W_n h1] at h2
    rcases Nat.lt_or_ge a.n (x.n * x.n) with h | h
    · unfold cmpI at h2
      rw [if_neg (by omega), if_pos h] at h2
      omega
    · exact h
  rw [hx] at h3 ⊢
  exact h.take h3
theorem root_skip {a r x : Wd} {k : Nat} (h : RootI a.n (k + 1) r.n) (hx : x.n = r.n + 2 ^ k) (hc : ¬ x.n * x.n < W512 ∨ ¬ cmpI (W (x.n * x.n)).n a.n ≤ 0) : RootI a.n k r.n := by
  refine h.skip ?_
  rw [← hx]
  rcases Nat.lt_or_ge (x.n * x.n) W512 with h1 | h1
  · rcases hc with h2 | h2
    · exact absurd h1 h2
    · rw [W_n h1] at h2
      rcases Nat.lt_or_ge a.n (x.n * x.n) with h3 | h3
      · exact h3
      · unfold cmpI at h2
        split at h2
        · omega
        · rw [if_neg (by omega)] at h2; omega
  · exact Nat.lt_of_lt_of_le a.lt h1
set_option maxRecDepth 20000 in
attribute [local irreducible] W512 in
set_option maxHeartbeats 4000000 in
theorem root_any (a : Wd) (w : World) : Calls Try.prog 63 #[.agg (cW a).toArray] w fun e w' => (∃ r : Wd, e = .returned (.agg (cW r).toArray) ∧ RootI a.n 0 r.n) ∧ Below w.heap.size w w' := by
  have hM := R.Own.start [] w
  have hbl := bl_le a
  refine R.calls_of_WC (fn := Try.f63) Try.func63 rfl Try.ntmps63 (Nat.le_of_ble_eq_true rfl) ?_
  (refine R.stepU ?_; (repeat' (first | (with_reducible refine And.intro ?_ ?_) | (with_reducible intro _))); all_goals refine R.Lft.mk ?_)
  rename_i g1 _ _ g2 _ _ g3 _ _ w1 hM
  refine R.WC_loop (fun s : Nat × Wd => [(1, .pointer (some ⟨g1, 0, none⟩)), (2, .pointer (some ⟨g2, 0, none⟩)), (3, .pointer (some ⟨g3, 0, none⟩)), (4, .int .i64 ((s.1 : Int) - 1))])
    (fun s w2 => s.1 ≤ 257 ∧ R.Lft (RootI a.n s.1 s.2.n) ∧ R.Own [] w w2 [.blk g3 43 (cW s.2), .blk g2 43 (cW (W 0)), .blk g1 43 (cW a)]) (fun s => s.1)
    ⟨(bitLen a.n / 2 + 1, W 0), ⟨rfl, rfl, rfl, R.viaI rfl (by dsimp only; omega), trivial⟩, by dsimp only; omega, ⟨?_⟩, hM⟩ ?_
  · dsimp only
    rw [W_n W512_pos]
    refine ⟨by omega, ?_⟩
    rw [Nat.zero_add, ← Nat.pow_add]
    exact Nat.lt_of_lt_of_le (bitLen_spec a.n).1 (Nat.pow_le_pow_right (by decide) (by omega))
  clear hM
  rintro ⟨k, r⟩ f w2 ⟨hk, hK, hM⟩
  dsimp only at hk hK hM ⊢
  rcases k with _ | k
  · (refine R.stepU ?_; (repeat' (first | (with_reducible refine And.intro ?_ ?_) | (with_reducible intro _))); all_goals refine R.Lft.mk ?_)
    exact ⟨⟨_, rfl, hK.out⟩, R.Own.below (by assumption)⟩
  · have e3 : (((k + 1 : Nat) : Int) - 1) = (k : Nat) := by omega
    rw [e3]
    obtain ⟨x, hx⟩ : ∃ x, W (r.n + (shW (W (Int.toNat 1)) (k : Int)).n) = x := ⟨_, rfl⟩
    have hxn : x.n = r.n + 2 ^ k := by rw [← hx]; exact root_x a r k (by omega) hK.out
    have htake : x.n * x.n < W512 → cmpI (W (x.n * x.n)).n a.n ≤ 0 → R.Lft (RootI a.n k x.n) := fun h1 h2 => ⟨root_take hK.out hxn h1 h2⟩
    have hskip : (¬ x.n * x.n < W512 ∨ ¬ cmpI (W (x.n * x.n)).n a.n ≤ 0) → R.Lft (RootI a.n k r.n) := fun h => ⟨root_skip hK.out hxn h⟩
    clear hxn
    (refine R.stepU ?_; (repeat' (first | (with_reducible refine And.intro ?_ ?_) | (with_reducible intro _))); all_goals refine R.Lft.mk ?_)
    refine R.WC_planF (.q 0 (.q 2 (.f 1 8 (.f 3 8 (.f 4 8 (.q 5 (.q 6 (.q 7 (.e 8 (.e 9 (.q 10 .nil)))))) (.e 4 (.q 5 (.q 6 (.q 7 (.e 9 (.q 10 .nil))))))) (.e 3 (.e 4 (.q 5 (.q 6 (.q 7 (.e 9 (.q 10 .nil)))))))) (.e 1 (.e 3 (.e 4 (.q 5 (.q 6 (.q 7 (.e 9 (.q 10 .nil))))))))))) R.mixed (by decide +kernel) R.ohm ?_
    (refine R.stepF ?_; (repeat' (first | (with_reducible refine And.intro ?_ ?_) | (with_reducible intro _))); all_goals refine R.Lft.mk ?_)
    all_goals rw [hx] at *
    all_goals first
      | (rename_i hM; exact ⟨(k, x), ⟨rfl, rfl, rfl, rfl, trivial⟩, ⟨by dsimp only; omega, htake (by assumption) (by assumption), hM.tl.tl⟩, by dsimp only; omega⟩)
      | (rename_i hM hc; exact ⟨(k, r), ⟨rfl, rfl, rfl, rfl, trivial⟩, ⟨by dsimp only; omega, hskip (.inr hc), hM.tl.tl⟩, by dsimp only; omega⟩)
      | (rename_i hM hc; exact ⟨(k, r), ⟨rfl, rfl, rfl, rfl, trivial⟩, ⟨by dsimp only; omega, hskip (.inl hc), hM.tl.tl⟩, by dsimp only; omega⟩)
end Go.Proofs.Ytalaffabcnccgaa
