/- Package roads: Check, and the document's. -/
import Derived.Test.YtegbidklcaccjaaRoads2
namespace Go.Proofs.Ytegbidklcaccjaa
open Go.RowKit
open R (In64 InU64 lo64 nth)
theorem badF_t {x : Road} (h : x.rank < 1 ∨ 1048576 < x.rank ∨ x.p.n < 2 ∨ 100 < x.p.n ∨ x.q.n + 1 ≠ x.p.n) : badF x = true := by
  unfold badF
  simp only [Bool.or_eq_true, decide_eq_true_eq]
  omega
theorem badF_f {x : Road} (h : ¬ (x.rank < 1 ∨ 1048576 < x.rank ∨ x.p.n < 2 ∨ 100 < x.p.n ∨ x.q.n + 1 ≠ x.p.n)) : badF x = false := by
  rw [Bool.eq_false_iff]
  intro hb
  unfold badF at hb
  simp only [Bool.or_eq_true, decide_eq_true_eq] at hb
  omega
theorem errR_1 {x : Road} (h : x.rank < 1 ∨ 1048576 < x.rank ∨ x.p.n < 2 ∨ 100 < x.p.n ∨ x.q.n + 1 ≠ x.p.n) : errR x = 1 := by
  unfold errR
  rw [if_pos (badF_t h)]
theorem errR_6 {x : Road} (h : ¬ (x.rank < 1 ∨ 1048576 < x.rank ∨ x.p.n < 2 ∨ 100 < x.p.n ∨ x.q.n + 1 ≠ x.p.n)) (h6 : (x.p.L.any fun p => !ptOk p) = true) : errR x = 6 := by
  unfold errR
  rw [badF_f h, if_neg (by decide), if_pos h6]
theorem errR_7 {x : Road} (h : ¬ (x.rank < 1 ∨ 1048576 < x.rank ∨ x.p.n < 2 ∨ 100 < x.p.n ∨ x.q.n + 1 ≠ x.p.n)) (h6 : (x.p.L.any fun p => !ptOk p) = false) (ht : twinB x.p.L = true) : errR x = 1 := by
  unfold errR
  rw [badF_f h, if_neg (by decide), h6, if_neg (by decide), if_pos ht]
theorem errR_10 {x : Road} (h : ¬ (x.rank < 1 ∨ 1048576 < x.rank ∨ x.p.n < 2 ∨ 100 < x.p.n ∨ x.q.n + 1 ≠ x.p.n)) (h6 : (x.p.L.any fun p => !ptOk p) = false) (ht : twinB x.p.L = false) (hq : x.q.L.any badQ = true) : errR x = 10 := by
  unfold errR
  rw [badF_f h, if_neg (by decide), h6, if_neg (by decide), ht, if_neg (by decide), if_pos hq]
theorem errR_0 {x : Road} (h : ¬ (x.rank < 1 ∨ 1048576 < x.rank ∨ x.p.n < 2 ∨ 100 < x.p.n ∨ x.q.n + 1 ≠ x.p.n)) (h6 : (x.p.L.any fun p => !ptOk p) = false) (ht : twinB x.p.L = false) (hq : x.q.L.any badQ = false) : errR x = 0 := by
  unfold errR
  rw [badF_f h, if_neg (by decide), h6, if_neg (by decide), ht, if_neg (by decide), hq, if_neg (by decide)]
theorem any_t {T : Type} [Inhabited T] {L : List T} {p : T → Bool} {k : Nat} (hk : k < L.length) (h : p (nth L k) = true) : L.any p = true := List.any_eq_true.2 ⟨_, R.nth_mem hk, h⟩
theorem any_f {T : Type} [Inhabited T] {L : List T} {p : T → Bool} (h : ∀ j, j < L.length → p (nth L j) = false) : L.any p = false := by
  rw [List.any_eq_false]
  intro x hx
  obtain ⟨j, hj, rfl⟩ := List.getElem_of_mem hx
  have := h j hj
  rw [show nth L j = L[j] by unfold nth; rw [List.getD_eq_getElem?_getD, List.getElem?_eq_getElem hj]; rfl] at this
  rw [this]
  decide
theorem rcheck_any (x : Road) (w : World) (hx : GRoad w x) : Calls Try.prog 96 #[.agg (cRoad x).toArray] w fun e w' => e = .returned (.int .i64 (errR x)) ∧ Below w.heap.size w w' := by
  have hM := R.Own.start [] w
  obtain ⟨g1, ⟨hp, hpl, hpc, hpg⟩, ⟨hq, hql, hqc, hqg⟩, _⟩ := hx
  refine R.calls_of_WC (fn := Try.f96) Try.func96 rfl Try.ntmps96 (Nat.le_of_ble_eq_true rfl) ?_
  (refine R.step ?_; (repeat' (first | (with_reducible refine And.intro ?_ ?_) | (with_reducible intro _))); all_goals refine R.Lft.mk ?_)
  all_goals first
    | exact ⟨by rw [errR_1 (by omega)], R.Own.below R.ohm⟩
    | skip
  have hf : ¬ (x.rank < 1 ∨ 1048576 < x.rank ∨ x.p.n < 2 ∨ 100 < x.p.n ∨ x.q.n + 1 ≠ x.p.n) := by omega
  refine R.WO_call2 rfl rfl R.vv R.vv ?_
  refine (containsFunc_Pt x.p.A x.p.n x.p.c x.p.L 104 [] (fun p => !ptOk p) _ (R.Own.inpIn R.ohm hp) hpl (by omega) (fun p w1 _ _ => rcheck1_any p w1)).mono ?_
  rintro _ w3 ⟨rfl, hb⟩
  have hM := R.Own.call R.ohm hb
  refine ⟨_, rfl, ?_⟩
  (refine R.step ?_; (repeat' (first | (with_reducible refine And.intro ?_ ?_) | (with_reducible intro _))); all_goals refine R.Lft.mk ?_)
  · rename_i h6
    exact ⟨by rw [errR_6 hf h6], R.Own.below R.ohm⟩
  rename_i h6
  refine R.WO_call1 rfl rfl R.vv ?_
  refine (twin_any x.p.A x.p.n x.p.c x.p.L _ (R.Own.inpIn R.ohm hp) hpl (by omega)).mono ?_
  rintro _ w4 ⟨rfl, hb⟩
  have hM := R.Own.call R.ohm hb
  refine ⟨_, rfl, ?_⟩
  (refine R.step ?_; (repeat' (first | (with_reducible refine And.intro ?_ ?_) | (with_reducible intro _))); all_goals refine R.Lft.mk ?_)
  · rename_i ht
    exact ⟨by rw [errR_7 hf h6 ht], R.Own.below R.ohm⟩
  rename_i ht
  refine R.WO_call2 rfl rfl R.vv R.vv ?_
  refine (containsFunc_Int x.q.A x.q.n x.q.c x.q.L 107 [] badQ _ (R.Own.inpIn R.ohm hq) hql (by omega) (fun v w1 _ _ => rcheck2_any v w1)).mono ?_
  rintro _ w5 ⟨rfl, hb⟩
  have hM := R.Own.call R.ohm hb
  refine ⟨_, rfl, ?_⟩
  (refine R.step ?_; (repeat' (first | (with_reducible refine And.intro ?_ ?_) | (with_reducible intro _))); all_goals refine R.Lft.mk ?_)
  · rename_i hq
    exact ⟨by rw [errR_10 hf h6 ht hq], R.Own.below R.ohm⟩
  · rename_i hq
    exact ⟨by rw [errR_0 hf h6 ht hq], R.Own.below R.ohm⟩
theorem rcheck11_any (x : Road) (w : World) (hx : GRoad w x) (hlq : x.q.n ≤ 1000000000) : Calls Try.prog 83 #[.agg (cRoad x).toArray] w fun e w' => e = .returned (.int .i64 (errR x)) ∧ Below w.heap.size w w' := by
  have hM := R.Own.start [] w
  obtain ⟨g1, ⟨hp, hpl, hpc, hpg⟩, ⟨hq, hql, hqc, hqg⟩, _⟩ := hx
  refine R.calls_of_WC (fn := Try.f83) Try.func83 rfl Try.ntmps83 (Nat.le_of_ble_eq_true rfl) ?_
  (refine R.step ?_; (repeat' (first | (with_reducible refine And.intro ?_ ?_) | (with_reducible intro _))); all_goals refine R.Lft.mk ?_)
  all_goals first
    | exact ⟨by rw [errR_1 (by omega)], R.Own.below R.ohm⟩
    | skip
  rename_i b _ _ _ _ _ _ _
  have hf : ¬ (x.rank < 1 ∨ 1048576 < x.rank ∨ x.p.n < 2 ∨ 100 < x.p.n ∨ x.q.n + 1 ≠ x.p.n) := by omega
  refine R.WC_loop (fun k : Nat => [(1, .pointer (some ⟨b, 0, none⟩)), (2, .int .i64 0), (3, .int .i64 (k : Nat))])
    (fun k w1 => k ≤ x.p.n ∧ R.Own [] w w1 [.blk b 93 (cRoad x)] ∧ ∀ j, j < k → (!ptOk (nth x.p.L j)) = false) (fun k => x.p.n - k) ⟨0, ⟨rfl, rfl, rfl, trivial⟩, Nat.zero_le _, R.ohm, fun j hj => absurd hj (Nat.not_lt_zero _)⟩ ?_
  rintro k f w1 ⟨hk, hM, hall⟩
  by_cases hlt : k < x.p.n
  · (refine R.step ?_; (repeat' (first | (with_reducible refine And.intro ?_ ?_) | (with_reducible intro _))); all_goals refine R.Lft.mk ?_)
    · rename_i hh
      exact ⟨by rw [errR_6 hf (any_t (k := k) (by omega) (by simp [hh]))], R.Own.below R.ohm⟩
    · rename_i hh
      refine ⟨k + 1, ⟨rfl, rfl, R.viaI rfl (by omega), trivial⟩, ⟨by omega, R.ohm, fun j hj => ?_⟩, by omega⟩
      rcases Nat.lt_succ_iff_lt_or_eq.1 hj with h | rfl
      · exact hall j h
      · simp [hh]
  obtain rfl : k = x.p.n := by omega
  have h6 : (x.p.L.any fun p => !ptOk p) = false := any_f fun j hj => hall j (by omega)
  clear hall hk hlt
  (refine R.step ?_; (repeat' (first | (with_reducible refine And.intro ?_ ?_) | (with_reducible intro _))); all_goals refine R.Lft.mk ?_)
  refine R.WC_loop (fun k : Nat => [(1, .pointer (some ⟨b, 0, none⟩)), (2, .int .i64 0), (4, .int .i64 ((k + 1 : Nat) : Int))])
    (fun k w1 => (k + 1 ≤ x.p.n) ∧ R.Own [] w w1 [.blk b 93 (cRoad x)] ∧ ∀ j, j < k → nth x.p.L (j + 1) ≠ nth x.p.L j) (fun k => x.p.n - k) ⟨0, ⟨rfl, rfl, rfl, trivial⟩, by omega, R.ohm, fun j hj => absurd hj (Nat.not_lt_zero _)⟩ ?_
  clear hM
  rintro k f w1 ⟨hk, hM, hall⟩
  have e1 : (((k + 1 : Nat) : Int) - 1).toNat = k := by omega
  by_cases hlt : k + 1 < x.p.n
  · (refine R.step ?_; (repeat' (first | (with_reducible refine And.intro ?_ ?_) | (with_reducible intro _))); all_goals refine R.Lft.mk ?_)
    · rename_i hh
      rw [e1] at hh
      exact ⟨by rw [errR_7 hf h6 (twinB_t ⟨k, by omega, hh⟩)], R.Own.below R.ohm⟩
    · rename_i hh
      rw [e1] at hh
      refine ⟨k + 1, ⟨rfl, rfl, R.viaI rfl (by omega), trivial⟩, ⟨by omega, R.ohm, fun j hj => ?_⟩, by omega⟩
      rcases Nat.lt_succ_iff_lt_or_eq.1 hj with h | rfl
      · exact hall j h
      · exact hh
  have ht : twinB x.p.L = false := twinB_f (fun ⟨j, h1, h2⟩ => hall j (by omega) h2)
  clear hall
  (refine R.step ?_; (repeat' (first | (with_reducible refine And.intro ?_ ?_) | (with_reducible intro _))); all_goals refine R.Lft.mk ?_)
  refine R.WC_loop (fun k : Nat => [(1, .pointer (some ⟨b, 0, none⟩)), (2, .int .i64 0), (5, .int .i64 (k : Nat))])
    (fun k w1 => k ≤ x.q.n ∧ R.Own [] w w1 [.blk b 93 (cRoad x)] ∧ ∀ j, j < k → badQ (nth x.q.L j) = false) (fun k => x.q.n - k) ⟨0, ⟨rfl, rfl, rfl, trivial⟩, Nat.zero_le _, R.ohm, fun j hj => absurd hj (Nat.not_lt_zero _)⟩ ?_
  clear hM hlt hk
  rintro k f w1 ⟨hk, hM, hall⟩
  by_cases hlt : k < x.q.n
  · (refine R.step ?_; (repeat' (first | (with_reducible refine And.intro ?_ ?_) | (with_reducible intro _))); all_goals refine R.Lft.mk ?_)
    · exact ⟨by rw [errR_10 hf h6 ht (any_t (k := k) (by omega) (by simp [badQ, *]))], R.Own.below R.ohm⟩
    · exact ⟨by rw [errR_10 hf h6 ht (any_t (k := k) (by omega) (by simp [badQ, *]))], R.Own.below R.ohm⟩
    · rename_i h0 h1
      refine ⟨k + 1, ⟨rfl, rfl, R.viaI rfl (by omega), trivial⟩, ⟨by omega, R.ohm, fun j hj => ?_⟩, by omega⟩
      rcases Nat.lt_succ_iff_lt_or_eq.1 hj with h | rfl
      · exact hall j h
      · simp [badQ]; omega
  have hq0 : x.q.L.any badQ = false := any_f fun j hj => hall j (by omega)
  (refine R.step ?_; (repeat' (first | (with_reducible refine And.intro ?_ ?_) | (with_reducible intro _))); all_goals refine R.Lft.mk ?_)
  exact ⟨by rw [errR_0 hf h6 ht hq0], R.Own.below R.ohm⟩
end Go.Proofs.Ytegbidklcaccjaa
