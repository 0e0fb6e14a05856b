/- The document's May of sessions. -/
import Derived.Test.YtegbidklcaccjaaSt
namespace Go.Proofs.Ytegbidklcaccjaa
open Go.RowKit
open R (In64 InU64 lo64 nth)
set_option maxHeartbeats 4000000 in
theorem may46_any (p : Pln) (w : World) (hG : GPln w p) (hs : p.rd.n ≤ 1000000) (hq : ∀ x ∈ p.rd.L, x.q.n ≤ 1000000000) : Calls Try.prog 24 #[.agg (cPln p).toArray] w fun e w' => e = .returned (.bool (mayV p)) ∧ Below w.heap.size w w' := by
  have hM := R.Own.start [] w
  have hG0 := hG
  obtain ⟨g1, ⟨hr, hrl, hrc, hrg⟩, ⟨hbn, hbl, hbc, hbg⟩, g4, ⟨hcl, hcll, hclc, hclg⟩⟩ := hG
  refine R.calls_of_WC (fn := Try.f24) Try.func24 rfl Try.ntmps24 (Nat.le_of_ble_eq_true rfl) ?_
  (refine R.stepH ?_; (repeat' (first | (with_reducible refine And.intro ?_ ?_) | (with_reducible intro _))); all_goals refine R.Lft.mk ?_)
  refine R.WO_call1 rfl rfl R.vv ?_
  refine (all11_any p.rd.A p.rd.n p.rd.c p.rd.L _ (R.Own.inpIn R.ohm hr) hrl (by omega) (fun z hz => GRoad.now R.ohm (hrg z hz)) hq).mono ?_
  rintro _ w3 ⟨rfl, hb3⟩
  have hM := R.Own.call R.ohm hb3
  refine ⟨_, rfl, ?_⟩
  (refine R.stepH ?_; (repeat' (first | (with_reducible refine And.intro ?_ ?_) | (with_reducible intro _))); all_goals refine R.Lft.mk ?_)
  all_goals first
    | exact ⟨by rw [mayV_f (fun h => by obtain ⟨q1, q2, q3, q4, q5, q6, q7, q8, q9⟩ := h; first | contradiction | omega)], R.Own.below R.ohm⟩
    | skip
  · rename_i hh
    refine ⟨?_, R.Own.below R.ohm⟩
    rw [mayV_f (fun h => ?_)]
    have q4 := h.2.2.2.1
    by_cases h1 : p.st = 0 <;> by_cases h2 : p.rd.n = 0 <;> simp_all
  rename_i e1 e2 e3 e4 e5 e6 e7 e8
  have e1 : errAll p.rd.L = 0 := Decidable.not_not.1 e1
  have q4 : p.st = 0 ↔ p.rd.n = 0 := by
    clear hG0
    by_cases h1 : p.st = 0 <;> by_cases h2 : p.rd.n = 0 <;> simp_all
  have hnl := numsR_len hrg (fun x hx => by obtain ⟨j, hj, rfl⟩ := mem_nthR hx; exact (errAll_ok e1).2.1 j hj)
  have hnv : (numsV p).length ≤ 1000000 := by
    have hbL := numsB_len p.bn.L
    have h2 := (errAll_ok e1).1
    unfold numsV
    simp only [List.length_append, List.length_cons, List.length_nil]
    omega
  refine R.WO_call1 rfl rfl R.vv ?_
  refine (nums46_any p _ (GPln.now R.ohm hG0) e1 (by omega) (by omega)).mono ?_
  rintro _ w4 ⟨A1, c1, rfl, hG4⟩
  have hM := R.Own.give R.ohm hG4
  have hM : R.Own [] w w4 [.row A1 (numsV p).length c1 3 1 ((numsV p).flatMap R.cI)] := R.Own.sub hM (List.Sublist.cons_cons _ (List.nil_sublist _))
  refine ⟨_, rfl, ?_⟩
  (refine R.stepH ?_; (repeat' (first | (with_reducible refine And.intro ?_ ?_) | (with_reducible intro _))); all_goals refine R.Lft.mk ?_)
  refine R.WC_loop (fun k : Nat => [(2, .bool false), (3, .slice A1 (numsV p).length c1), (4, .int .i64 (k : Nat))])
    (fun k w1 => k ≤ (numsV p).length ∧ R.Own [] w w1 [.row A1 (numsV p).length c1 3 1 ((numsV p).flatMap R.cI)] ∧ ∀ j, j < k → badN (nth (numsV p) j) = false) (fun k => (numsV p).length - k) ⟨0, ⟨rfl, rfl, rfl, trivial⟩, Nat.zero_le _, hM, fun j hj => absurd hj (Nat.not_lt_zero _)⟩ ?_
  clear hM
  rintro k f w5 ⟨hk, hM, hall⟩
  by_cases hlt : k < (numsV p).length
  · have hbad : badN (nth (numsV p) k) = true → mayV p = false := fun hb => mayV_f fun h => by
      have := any_at h.2.2.2.2.2.2.2.2 hlt
      rw [hb] at this
      cases this
    (refine R.stepH ?_; (repeat' (first | (with_reducible refine And.intro ?_ ?_) | (with_reducible intro _))); all_goals refine R.Lft.mk ?_)
    · exact ⟨by rw [hbad (by simp [badN, *])], R.Own.below R.ohm⟩
    · exact ⟨by rw [hbad (by simp [badN, *])], R.Own.below R.ohm⟩
    · exact ⟨k + 1, ⟨rfl, rfl, R.viaI rfl (by omega), trivial⟩, ⟨by omega, R.ohm, snocN hall (by simp [badN]; omega)⟩, by omega⟩
  · have hmt : mayV p = true := mayV_t ⟨e1, by omega, by omega, q4, by omega, by omega, by omega, by omega, any_f fun j hj => hall j (by omega)⟩
    rw [hmt]
    (refine R.stepH ?_; (repeat' (first | (with_reducible refine And.intro ?_ ?_) | (with_reducible intro _))); all_goals refine R.Lft.mk ?_; (all_goals (try (exact ⟨rfl, R.Own.below (by assumption)⟩))))
end Go.Proofs.Ytegbidklcaccjaa
