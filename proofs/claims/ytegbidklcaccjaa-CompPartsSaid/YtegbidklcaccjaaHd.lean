/- Package heap: down: the walk. -/
import Derived.Test.YtegbidklcaccjaaHs
namespace Go.Proofs.Ytegbidklcaccjaa
open Go.RowKit
open R (In64 InU64 lo64 nth)
theorem ltP_trans {a b c : Item} (h1 : ltP a b) (h2 : ltP b c) : ltP a c := by unfold ltP at *; omega
set_option maxHeartbeats 2000000 in
theorem down_own (ga b g n c i N : Nat) (L : List Item) (es : Array MapEntry) (clk : Nat) (m : Int → Option Int) (w : World) (hn : n = L.length) (hb : n ≤ 1000000) (hi : i ≤ n) (hB : Bk L i) (hU : Up L i) (hG : ∀ x ∈ L, In64 x.key ∧ In64 x.at_) (hI : R.IsM Try.prog 3 3 es clk N m) (hN : N < maxLen) (hMO : MapOk L m)
    (F : List Nat) (W0 : World) (l : List R.Res) (hM : R.Own F W0 w (.row (some ⟨ga, 0, none⟩) n c 72 2 (L.flatMap cItem) :: .map b es clk :: .blk g 151 [.slice (some ⟨ga, 0, none⟩) n c, .map (some b)] :: l)) :
    Calls Try.prog 93 #[.pointer (some ⟨g, 0, none⟩), .int .i64 (i : Nat)] w fun e w' => e = .returned (.tuple #[]) ∧ ∃ L' es' clk' m', R.IsM Try.prog 3 3 es' clk' N m' ∧ MapOk L' m' ∧ L'.length = n ∧ (∀ x, x ∈ L' ↔ x ∈ L) ∧ HO L' ∧ R.Own F W0 w' (.row (some ⟨ga, 0, none⟩) n c 72 2 (L'.flatMap cItem) :: .map b es' clk' :: .blk g 151 [.slice (some ⟨ga, 0, none⟩) n c, .map (some b)] :: l) := by
  refine R.calls_of_WC (fn := Try.f93) Try.func93 rfl Try.ntmps93 (Nat.le_of_ble_eq_true rfl) ?_
  (refine R.stepH ?_; (repeat' (first | (with_reducible refine And.intro ?_ ?_) | (with_reducible intro _))); all_goals refine R.Lft.mk ?_)
  refine R.WC_loop (fun s : List Item × Nat × Array MapEntry × Nat × (Int → Option Int) => [(0, .pointer (some ⟨g, 0, none⟩)), (1, .int .i64 (s.2.1 : Nat))])
    (fun s w1 => s.2.1 ≤ n ∧ Bk s.1 s.2.1 ∧ Up s.1 s.2.1 ∧ R.IsM Try.prog 3 3 s.2.2.1 s.2.2.2.1 N s.2.2.2.2 ∧ MapOk s.1 s.2.2.2.2 ∧ s.1.length = n ∧ (∀ x, x ∈ s.1 ↔ x ∈ L) ∧ R.Own F W0 w1 (.row (some ⟨ga, 0, none⟩) n c 72 2 (s.1.flatMap cItem) :: .map b s.2.2.1 s.2.2.2.1 :: .blk g 151 [.slice (some ⟨ga, 0, none⟩) n c, .map (some b)] :: l)) (fun s => n - s.2.1) ⟨(L, i, es, clk, m), ⟨rfl, rfl, trivial⟩, hi, hB, hU, hI, hMO, hn.symm, fun _ => Iff.rfl, hM⟩ ?_
  clear hM
  rintro ⟨L', j, es', clk', m'⟩ f w1 ⟨hj, hB', hU', hI', hMO', hln, hmem, hM⟩
  dsimp only at hj hB' hU' hI' hMO' hln hmem hM ⊢
  (refine R.stepH ?_; (repeat' (first | (with_reducible refine And.intro ?_ ?_) | (with_reducible intro _))); all_goals refine R.Lft.mk ?_)
  refine R.WC_loop (fun s : Nat × Nat => [(0, .pointer (some ⟨g, 0, none⟩)), (1, .int .i64 (j : Nat)), (4, .int .i64 (s.1 : Nat)), (5, .int .i64 (s.2 : Nat))])
    (fun s w2 => 2 * j + 1 ≤ s.2 ∧ s.2 ≤ 2 * j + 3 ∧ (s.1 = j ∨ (0 < s.1 ∧ s.1 < n ∧ par s.1 = j ∧ ltP (nth L' s.1) (nth L' j))) ∧ (∀ q, 0 < q → q < n → par q = j → q < s.2 → ¬ ltP (nth L' q) (nth L' s.1)) ∧ R.Own F W0 w2 (.row (some ⟨ga, 0, none⟩) n c 72 2 (L'.flatMap cItem) :: .map b es' clk' :: .blk g 151 [.slice (some ⟨ga, 0, none⟩) n c, .map (some b)] :: l)) (fun s => 2 * j + 3 - s.2) ⟨(j, 2 * j + 1), ⟨rfl, rfl, rfl, R.viaI rfl (by dsimp only; omega), trivial⟩, Nat.le_refl _, by dsimp only; omega, .inl rfl, fun q q0 q1 q2 q3 => by dsimp only at q3; unfold par at q2; omega, R.ohm⟩ ?_
  clear hM
  rintro ⟨t, k⟩ f2 w2 ⟨hk0, hk1, ht, hmin, hM⟩
  dsimp only at hk0 hk1 ht hmin hM ⊢
  by_cases hlt : k ≤ 2 * j + 2 ∧ k < n
  · obtain ⟨hk2, hkn⟩ := hlt
    have htn : t < n := by rcases ht with h | h <;> omega
    have hpk : par k = j := by unfold par; omega
    have hls : ∀ q, 0 < q → par q = j → q < k + 1 → q = k ∨ q < k := fun q _ _ _ => by omega
    by_cases hless : ltP (nth L' k) (nth L' t)
    · (refine R.stepH ?_; (repeat' (first | (with_reducible refine And.intro ?_ ?_) | (with_reducible intro _))); all_goals refine R.Lft.mk ?_)
      refine ⟨(k, k + 1), ⟨rfl, rfl, rfl, R.viaI rfl (by dsimp only; omega), trivial⟩, ⟨by dsimp only; omega, by dsimp only; omega, .inr ⟨by dsimp only; omega, hkn, hpk, ?_⟩, fun q q0 q1 q2 q3 => ?_, R.ohm⟩, by dsimp only; omega⟩
      · rcases ht with h | h
        · rw [h] at hless; exact hless
        · exact ltP_trans hless h.2.2.2
      · rcases hls q q0 q2 q3 with h | h
        · rw [h]; exact ltP_irr _
        · have := hmin q q0 q1 q2 h
          exact leP_trans (ltP_asym hless) this
    · (refine R.stepH ?_; (repeat' (first | (with_reducible refine And.intro ?_ ?_) | (with_reducible intro _))); all_goals refine R.Lft.mk ?_)
      refine ⟨(t, k + 1), ⟨rfl, rfl, rfl, R.viaI rfl (by dsimp only; omega), trivial⟩, ⟨by dsimp only; omega, by dsimp only; omega, ht, fun q q0 q1 q2 q3 => ?_, R.ohm⟩, by dsimp only; omega⟩
      rcases hls q q0 q2 q3 with h | h
      · rw [h]; exact hless
      · exact hmin q q0 q1 q2 h
  · have hall : ∀ q, 0 < q → q < n → par q = j → ¬ ltP (nth L' q) (nth L' t) := fun q q0 q1 q2 => hmin q q0 q1 q2 (by unfold par at q2; omega)
    rcases ht with h | ⟨t0, t1, t2, t3⟩
    · subst h
      (refine R.stepH ?_; (repeat' (first | (with_reducible refine And.intro ?_ ?_) | (with_reducible intro _))); all_goals refine R.Lft.mk ?_)
      all_goals
        exact ⟨rfl, L', es', clk', m', hI', hMO', hln, hmem, hB'.done hU' (fun q q0 q1 q2 => hall q q0 (by omega) q2), R.ohm⟩
    · have hjt : j < t := by unfold par at t2; omega
      (refine R.stepH ?_; (repeat' (first | (with_reducible refine And.intro ?_ ?_) | (with_reducible intro _))); all_goals refine R.Lft.mk ?_)
      all_goals
        refine R.WO_call3 rfl rfl R.vv R.vv R.vv ?_
        refine (swap_own ga b g n c j t N L' es' clk' m' _ hln.symm hb (by omega) t1 (fun x hx => hG x ((hmem x).1 hx)) hI' hN hMO' F W0 l R.ohm).mono ?_
        rintro _ w3 ⟨rfl, es2, clk2, m2, hI2, hMO2, hM⟩
        refine ⟨_, rfl, ?_⟩
        (refine R.stepH ?_; (repeat' (first | (with_reducible refine And.intro ?_ ?_) | (with_reducible intro _))); all_goals refine R.Lft.mk ?_)
        obtain ⟨hB2, hU2⟩ := hB'.down (by omega) t2 t0 t3 (fun q q0 q1 q2 => hall q q0 (by omega) q2)
        exact ⟨(swapL L' j t, t, es2, clk2, m2), ⟨rfl, rfl, trivial⟩, ⟨by dsimp only; omega, hB2, hU2, hI2, hMO2, by rw [swapL_len]; exact hln, fun x => (mem_swapL (by omega) (by omega) x).trans (hmem x), hM⟩, by dsimp only; omega⟩
end Go.Proofs.Ytegbidklcaccjaa
