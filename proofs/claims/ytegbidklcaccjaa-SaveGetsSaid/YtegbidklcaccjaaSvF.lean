/- When sessions are the same. -/
import Derived.Test.YtegbidklcaccjaaSvB
import Derived.Test.YtegbidklcaccjaaSm
namespace Go.Proofs.Ytegbidklcaccjaa
open Go.RowKit
open R (In64 InU64 lo64 nth)
instance eqt_Bn : R.EqT Try.prog 106 Bn cBn := R.eqT_of (ls := [some .i64, some .i64, none]) (by kernel_rfl) (by kernel_rfl) (by kernel_rfl) (fun _ => ⟨rfl, rfl, trivial⟩) (fun a b h => by cases a; cases b; simpa [cBn] using h)
/-- What a session says. -/
def vP (p : Pln) : PV := ⟨p.st, p.rd.L.map vR, p.bn.L, p.pol, p.cl.L⟩
theorem bn_list {L M : List Bn} (hl : L.length = M.length) (h : ∀ i, i < L.length → nth L i = nth M i) : L = M :=
  List.ext_getElem hl fun i h1 h2 => by rw [← R.nth_eq h1, ← R.nth_eq h2]; exact h i h1
def eqRls (x y : Rls) : Bool := decide (x.pol = y.pol ∧ x.bn.L = y.bn.L)
section
variable (x y : Rls) (w : World) (hx : GRls w x) (hy : GRls w y)
include hx hy
theorem sameRls_any : Calls Try.prog 63 #[.agg (cRls x).toArray, .agg (cRls y).toArray] w fun e w' => e = .returned (.bool (eqRls x y)) ∧ Below w.heap.size w w' := by
  have hM := R.Own.start [] w
  obtain ⟨⟨hA, hal, hac, hag⟩, hpx⟩ := hx
  obtain ⟨⟨hB, hbl, hbc, hbg⟩, hpy⟩ := hy
  have hno : ¬ (x.pol = y.pol ∧ x.bn.L = y.bn.L) → eqRls x y = false := fun h => decide_eq_false h
  by_cases hp : x.pol = y.pol
  · by_cases hl : x.bn.n = y.bn.n
    · refine R.calls_of_WC (fn := Try.f63) Try.func63 rfl Try.ntmps63 (Nat.le_of_ble_eq_true rfl) ?_
      (refine R.step ?_; (repeat' (first | (with_reducible refine And.intro ?_ ?_) | (with_reducible intro _))); all_goals refine R.Lft.mk ?_)
      rename_i g2 _ _ g3 _ _
      refine R.WC_loop (fun k : Nat => [(2, .pointer (some ⟨g2, 0, none⟩)), (3, .pointer (some ⟨g3, 0, none⟩)), (4, .bool false), (5, .int .i64 (k : Nat))])
        (fun k w2 => k ≤ x.bn.n ∧ R.Own [] w w2 [.blk g3 42 (cRls y), .blk g2 42 (cRls x)] ∧ ∀ i, i < k → nth x.bn.L i = nth y.bn.L i) (fun k => x.bn.n - k) ⟨0, ⟨rfl, rfl, rfl, rfl, trivial⟩, by omega, R.ohm, fun i hi => absurd hi (Nat.not_lt_zero _)⟩ ?_
      clear hM
      rintro k f w2 ⟨hk, hM, hall⟩
      by_cases hlt : k < x.bn.n
      · (refine R.step ?_; (repeat' (first | (with_reducible refine And.intro ?_ ?_) | (with_reducible intro _))); all_goals refine R.Lft.mk ?_)
        · rename_i hh
          rw [hno fun g => hh (by rw [g.2])]
          exact ⟨rfl, R.Own.below R.ohm⟩
        · rename_i hh
          refine ⟨k + 1, ⟨rfl, rfl, rfl, R.viaI rfl (by omega), trivial⟩, ⟨by omega, R.ohm, fun i hi => ?_⟩, by omega⟩
          rcases Nat.lt_or_ge i k with c | c
          · exact hall i c
          · rw [show i = k by omega]
            exact Decidable.not_not.1 hh
      · (refine R.step ?_; (repeat' (first | (with_reducible refine And.intro ?_ ?_) | (with_reducible intro _))); all_goals refine R.Lft.mk ?_)
        rw [show eqRls x y = true from decide_eq_true ⟨hp, bn_list (by omega) fun i hi => hall i (by omega)⟩]
        exact ⟨rfl, R.Own.below R.ohm⟩
    · rw [hno fun g => hl (by rw [hal, hbl, g.2])]
      refine R.calls_of_WC (fn := Try.f63) Try.func63 rfl Try.ntmps63 (Nat.le_of_ble_eq_true rfl) ?_
      (refine R.step ?_; (repeat' (first | (with_reducible refine And.intro ?_ ?_) | (with_reducible intro _))); all_goals refine R.Lft.mk ?_)
      all_goals first
        | exact ⟨rfl, R.Own.below R.ohm⟩
        | (exfalso; omega)
  · rw [hno fun g => hp g.1]
    refine R.calls_of_WC (fn := Try.f63) Try.func63 rfl Try.ntmps63 (Nat.le_of_ble_eq_true rfl) ?_
    (refine R.step ?_; (repeat' (first | (with_reducible refine And.intro ?_ ?_) | (with_reducible intro _))); all_goals refine R.Lft.mk ?_)
    all_goals first
      | exact ⟨rfl, R.Own.below R.ohm⟩
      | (exfalso; omega)
end
set_option maxHeartbeats 2000000 in
/-- Are sessions the same? -/
theorem same38_any (p q : Pln) (w : World) (hp : GPln w p) (hq : GPln w q) (hb : p.rd.n ≤ 1000000) : Calls Try.prog 28 #[.agg (cPln p).toArray, .agg (cPln q).toArray] w fun e w' => e = .returned (.bool (decide (vP p = vP q))) ∧ Below w.heap.size w w' := by
  have hM := R.Own.start [] w
  have hno : ∀ b : Bool, (b = true → p.st = q.st ∧ p.rd.L.map vR = q.rd.L.map vR ∧ p.bn.L = q.bn.L ∧ p.pol = q.pol ∧ p.cl.L = q.cl.L) → (b = false → ¬ (p.st = q.st ∧ p.rd.L.map vR = q.rd.L.map vR ∧ p.bn.L = q.bn.L ∧ p.pol = q.pol ∧ p.cl.L = q.cl.L)) → decide (vP p = vP q) = b := fun b h1 h2 => by
    cases b
    · refine decide_eq_false fun h => h2 rfl ?_
      unfold vP at h
      injection h with a1 a2 a3 a4 a5
      exact ⟨a1, a2, a3, a4, a5⟩
    · obtain ⟨a1, a2, a3, a4, a5⟩ := h1 rfl
      refine decide_eq_true ?_
      unfold vP
      rw [a1, a2, a3, a4, a5]
  by_cases h1 : p.st = q.st
  · refine R.calls_of_WC (fn := Try.f28) Try.func28 rfl Try.ntmps28 (Nat.le_of_ble_eq_true rfl) ?_
    (refine R.step ?_; (repeat' (first | (with_reducible refine And.intro ?_ ?_) | (with_reducible intro _))); all_goals refine R.Lft.mk ?_)
    refine R.WO_call2 rfl rfl R.vv R.vv ?_
    refine (same11_any p.rd.A q.rd.A p.rd.n p.rd.c q.rd.n q.rd.c p.rd.L q.rd.L _ (R.Own.inpIn R.ohm hp.2.1.1) (R.Own.inpIn R.ohm hq.2.1.1) hp.2.1.2.1 hq.2.1.2.1 (by omega) (fun z hz => GRoad.now R.ohm (hp.2.1.2.2.2 z hz)) (fun z hz => GRoad.now R.ohm (hq.2.1.2.2.2 z hz))).mono ?_
    rintro _ w2 ⟨rfl, hb2⟩
    have hM := R.Own.call R.ohm hb2
    refine ⟨_, rfl, ?_⟩
    by_cases h2 : eqRs p.rd.L q.rd.L = true
    · have h2' : p.rd.L.map vR = q.rd.L.map vR := of_decide_eq_true h2
      rw [h2]
      (refine R.step ?_; (repeat' (first | (with_reducible refine And.intro ?_ ?_) | (with_reducible intro _))); all_goals refine R.Lft.mk ?_)
      refine R.WO_call2 rfl rfl R.vv R.vv ?_
      show R.callT _ _ #[.agg (cRls ⟨p.bn, p.pol⟩).toArray, .agg (cRls ⟨q.bn, q.pol⟩).toArray] _ _
      refine (sameRls_any ⟨p.bn, p.pol⟩ ⟨q.bn, q.pol⟩ w2 ⟨⟨R.Own.inpIn R.ohm hp.2.2.1.1, hp.2.2.1.2.1, hp.2.2.1.2.2.1, hp.2.2.1.2.2.2⟩, hp.2.2.2.1⟩ ⟨⟨R.Own.inpIn R.ohm hq.2.2.1.1, hq.2.2.1.2.1, hq.2.2.1.2.2.1, hq.2.2.1.2.2.2⟩, hq.2.2.2.1⟩).mono ?_
      rintro _ w3 ⟨rfl, hb3⟩
      have hM := R.Own.call R.ohm hb3
      refine ⟨_, rfl, ?_⟩
      by_cases h3 : eqRls ⟨p.bn, p.pol⟩ ⟨q.bn, q.pol⟩ = true
      · have h3' := of_decide_eq_true h3
        dsimp only at h3'
        rw [h3]
        (refine R.step ?_; (repeat' (first | (with_reducible refine And.intro ?_ ?_) | (with_reducible intro _))); all_goals refine R.Lft.mk ?_)
        refine R.WO_call2 rfl rfl R.vv R.vv ?_
        refine (same01 p.cl.A q.cl.A p.cl.n p.cl.c q.cl.n q.cl.c p.cl.L q.cl.L _ (R.Own.inpIn R.ohm hp.2.2.2.2.1) hp.2.2.2.2.2.1 (by have := hp.2.2.2.2.2.2.1; omega) (R.Own.inpIn R.ohm hq.2.2.2.2.1) hq.2.2.2.2.2.1).mono ?_
        rintro _ w4 ⟨rfl, hb4⟩
        have hM := R.Own.call R.ohm hb4
        refine ⟨_, rfl, ?_⟩
        rw [hno (decide (p.cl.L = q.cl.L)) (fun h => ⟨h1, h2', h3'.2, h3'.1, of_decide_eq_true h⟩) (fun h g => of_decide_eq_false h g.2.2.2.2)]
        (refine R.step ?_; (repeat' (first | (with_reducible refine And.intro ?_ ?_) | (with_reducible intro _))); all_goals refine R.Lft.mk ?_; (all_goals (try (exact ⟨rfl, R.Own.below (by assumption)⟩))))
      · have h3 := Bool.eq_false_iff.2 h3
        rw [h3, hno false (fun h => by cases h) (fun _ g => of_decide_eq_false h3 ⟨g.2.2.2.1, g.2.2.1⟩)]
        (refine R.step ?_; (repeat' (first | (with_reducible refine And.intro ?_ ?_) | (with_reducible intro _))); all_goals refine R.Lft.mk ?_; (all_goals (try (exact ⟨rfl, R.Own.below (by assumption)⟩))))
    · have h2 := Bool.eq_false_iff.2 h2
      rw [h2, hno false (fun h => by cases h) (fun _ g => of_decide_eq_false h2 g.2.1)]
      (refine R.step ?_; (repeat' (first | (with_reducible refine And.intro ?_ ?_) | (with_reducible intro _))); all_goals refine R.Lft.mk ?_; (all_goals (try (exact ⟨rfl, R.Own.below (by assumption)⟩))))
  · rw [hno false (fun h => by cases h) (fun _ g => h1 g.1)]
    refine R.calls_of_WC (fn := Try.f28) Try.func28 rfl Try.ntmps28 (Nat.le_of_ble_eq_true rfl) ?_
    (refine R.step ?_; (repeat' (first | (with_reducible refine And.intro ?_ ?_) | (with_reducible intro _))); all_goals refine R.Lft.mk ?_; (all_goals (try (exact ⟨rfl, R.Own.below (by assumption)⟩))))
end Go.Proofs.Ytegbidklcaccjaa
