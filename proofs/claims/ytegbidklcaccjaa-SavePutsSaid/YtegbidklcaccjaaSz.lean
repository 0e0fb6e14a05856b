/- Package save: may. -/
import Derived.Test.YtegbidklcaccjaaSy
namespace Go.Proofs.Ytegbidklcaccjaa
open Go.RowKit
open R (In64 InU64 lo64 nth)
def badN (v : Int) : Bool := decide (v < -1152921504606846976) || decide (1152921504606846976 < v)
def MayP (p : Pln) : Prop := errAll p.rd.L = 0 ∧ 0 ≤ p.st ∧ p.st ≤ 3 ∧ (p.st = 0 ↔ p.rd.n = 0) ∧ 0 ≤ p.pol ∧ p.pol ≤ 2 ∧ p.bn.n ≤ 2000 ∧ p.cl.n ≤ 2000 ∧ (numsV p).any badN = false
/-- The session can be saved. -/
noncomputable def mayV (p : Pln) : Bool := @decide (MayP p) (Classical.propDecidable _)
theorem mayV_t {p : Pln} (h : MayP p) : mayV p = true := by unfold mayV; exact @decide_eq_true _ (Classical.propDecidable _) h
theorem mayV_f {p : Pln} (h : ¬ MayP p) : mayV p = false := by unfold mayV; exact @decide_eq_false _ (Classical.propDecidable _) h
theorem GPln.now {W w : World} {l : List R.Res} {p : Pln} (hM : R.Own [] W w l) (h : GPln W p) : GPln w p :=
  ⟨h.1, ⟨R.Own.inpIn hM h.2.1.1, h.2.1.2.1, h.2.1.2.2.1, fun x hx => GRoad.now hM (h.2.1.2.2.2 x hx)⟩, ⟨R.Own.inpIn hM h.2.2.1.1, h.2.2.1.2.1, h.2.2.1.2.2.1, h.2.2.1.2.2.2⟩, h.2.2.2.1, ⟨R.Own.inpIn hM h.2.2.2.2.1, h.2.2.2.2.2.1, h.2.2.2.2.2.2.1, h.2.2.2.2.2.2.2⟩⟩
theorem may1s_any (x : Int) (w : World) : Calls Try.prog 81 #[.int .i64 x] w fun e w' => e = .returned (.bool (badN x)) ∧ Below w.heap.size w w' := by
  have hM := R.Own.start [] w
  refine R.calls_of_WC (fn := Try.f81) Try.func81 rfl Try.ntmps81 (Nat.le_of_ble_eq_true rfl) ?_
  (refine R.step ?_; (repeat' (first | (with_reducible refine And.intro ?_ ?_) | (with_reducible intro _))); all_goals refine R.Lft.mk ?_)
  all_goals
    refine ⟨?_, R.Own.below (by assumption)⟩
    simp [badN, *]
set_option maxHeartbeats 4000000 in
theorem may_any (p : Pln) (w : World) (hG : GPln w p) (hs : p.rd.n ≤ 1000000) : Calls Try.prog 53 #[.agg (cPln p).toArray] w fun e w' => e = .returned (.bool (mayV p)) ∧ Below w.heap.size w w' := by
  have hM := R.Own.start [] w
  have hG0 := hG
  obtain ⟨g1, ⟨hr, hrl, hrc, hrg⟩, ⟨hbn, hbl, hbc, hbg⟩, g4, ⟨hcl, hcll, hclc, hclg⟩⟩ := hG
  refine R.calls_of_WC (fn := Try.f53) Try.func53 rfl Try.ntmps53 (Nat.le_of_ble_eq_true rfl) ?_
  (refine R.stepH ?_; (repeat' (first | (with_reducible refine And.intro ?_ ?_) | (with_reducible intro _))); all_goals refine R.Lft.mk ?_)
  refine R.WO_call1 rfl rfl R.vv ?_
  refine (all_any p.rd.A p.rd.n p.rd.c p.rd.L _ (R.Own.inpIn R.ohm hr) hrl (by omega) (fun z hz => GRoad.now R.ohm (hrg z hz))).mono ?_
  rintro _ w3 ⟨rfl, hb3⟩
  have hM := R.Own.call R.ohm hb3
  refine ⟨_, rfl, ?_⟩
  (refine R.stepH ?_; (repeat' (first | (with_reducible refine And.intro ?_ ?_) | (with_reducible intro _))); all_goals refine R.Lft.mk ?_)
  all_goals first
    | exact ⟨by rw [mayV_f (fun h => by obtain ⟨q1, q2, q3, q4, q5, q6, q7, q8, q9⟩ := h; first | contradiction | omega)], R.Own.below R.ohm⟩
    | skip
  · rename_i hh
    refine ⟨?_, R.Own.below R.ohm⟩
    rw [mayV_f (fun h => ?_)]
    have q4 := h.2.2.2.1
    by_cases h1 : p.st = 0 <;> by_cases h2 : p.rd.n = 0 <;> simp_all
  rename_i e1 e2 e3 e4 e5 e6 e7 e8
  have e1 : errAll p.rd.L = 0 := Decidable.not_not.1 e1
  have q4 : p.st = 0 ↔ p.rd.n = 0 := by
    clear hG0
    by_cases h1 : p.st = 0 <;> by_cases h2 : p.rd.n = 0 <;> simp_all
  have hnl := numsR_len hrg (fun x hx => by obtain ⟨j, hj, rfl⟩ := mem_nthR hx; exact (errAll_ok e1).2.1 j hj)
  have hnv : (numsV p).length ≤ 1000000 := by
    have hbL := numsB_len p.bn.L
    have h2 := (errAll_ok e1).1
    unfold numsV
    simp only [List.length_append, List.length_cons, List.length_nil]
    omega
  refine R.WO_call1 rfl rfl R.vv ?_
  refine (nums_any p _ (GPln.now R.ohm hG0) e1 (by omega) (by omega)).mono ?_
  rintro _ w4 ⟨A1, c1, rfl, hG4⟩
  have hM := R.Own.give R.ohm hG4
  refine ⟨_, rfl, ?_⟩
  (refine R.stepH ?_; (repeat' (first | (with_reducible refine And.intro ?_ ?_) | (with_reducible intro _))); all_goals refine R.Lft.mk ?_)
  refine R.WO_call2 rfl rfl R.vv R.vv ?_
  refine (containsFunc_Int A1 (numsV p).length c1 (numsV p) 81 [] badN _ (R.Own.inp R.ohm (.head _)) rfl (by omega) (fun x w5 _ _ => may1s_any x w5)).mono ?_
  rintro _ w5 ⟨rfl, hb5⟩
  have hM := R.Own.call R.ohm hb5
  refine ⟨_, rfl, ?_⟩
  have hmv : mayV p = !(numsV p).any badN := by
    cases hany : (numsV p).any badN
    · exact mayV_t ⟨e1, by omega, by omega, q4, by omega, by omega, by omega, by omega, hany⟩
    · exact mayV_f fun h => by rw [h.2.2.2.2.2.2.2.2] at hany; cases hany
  rw [hmv]
  (refine R.stepH ?_; (repeat' (first | (with_reducible refine And.intro ?_ ?_) | (with_reducible intro _))); all_goals refine R.Lft.mk ?_; (all_goals (try (exact ⟨rfl, R.Own.below (by assumption)⟩))))
end Go.Proofs.Ytegbidklcaccjaa
