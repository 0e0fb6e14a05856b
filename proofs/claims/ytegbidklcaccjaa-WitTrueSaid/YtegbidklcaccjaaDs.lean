/- What may be searched; the graph of a search. -/
import Derived.Test.YtegbidklcaccjaaGm
import Derived.Test.YtegbidklcaccjaaGn
import Derived.Test.YtegbidklcaccjaaDb
namespace Go.Proofs.Ytegbidklcaccjaa
open Go.RowKit
open R (In64 InU64 lo64 nth)
def MayS (g : Gph) (s : R.Sl Item) (c : R.Sl Bool) : Prop := MayG g ∧ s.n ≤ 1000 ∧ (0 < c.n → c.n + 1 = g.st.n) ∧ ∀ x ∈ s.L, 0 ≤ x.at_ ∧ x.at_ + 1 < g.st.n ∧ 0 ≤ x.key ∧ x.key ≤ 1152921504606846976
noncomputable def mayS (g : Gph) (s : R.Sl Item) (c : R.Sl Bool) : Bool := @decide (MayS g s c) (Classical.propDecidable _)
theorem mayS_t {g : Gph} {s : R.Sl Item} {c : R.Sl Bool} (h : MayS g s c) : mayS g s c = true := by unfold mayS; exact @decide_eq_true _ (Classical.propDecidable _) h
theorem mayS_f {g : Gph} {s : R.Sl Item} {c : R.Sl Bool} (h : ¬ MayS g s c) : mayS g s c = false := by unfold mayS; exact @decide_eq_false _ (Classical.propDecidable _) h
theorem mayS_p {g : Gph} {s : R.Sl Item} {c : R.Sl Bool} (h : mayS g s c = true) : MayS g s c := by
  rcases Classical.em (MayS g s c) with d | d
  · exact d
  · rw [mayS_f d] at h
    cases h
def badS (g : Gph) (x : Item) : Bool := decide (x.at_ < 0) || decide ((g.st.n : Int) - 1 ≤ x.at_) || decide (x.key < 0) || decide (1152921504606846976 < x.key)
theorem badS_f {g : Gph} {x : Item} (h : badS g x = false) : 0 ≤ x.at_ ∧ x.at_ + 1 < g.st.n ∧ 0 ≤ x.key ∧ x.key ≤ 1152921504606846976 := by
  unfold badS at h
  simp at h
  omega
theorem badS_t {g : Gph} {x : Item} (h : badS g x = true) : ¬ (0 ≤ x.at_ ∧ x.at_ + 1 < g.st.n ∧ 0 ≤ x.key ∧ x.key ≤ 1152921504606846976) := by
  unfold badS at h
  simp at h
  omega
def shutV (c : R.Sl Bool) (v : Nat) : Bool := decide (0 < c.n) && nth c.L v
/-- The instance of a search. -/
def insG (g : Gph) (s : R.Sl Item) (c : R.Sl Bool) : Ins := ⟨g.st.n - 1, fun v => (nth g.st.L v).toNat, fun i => (nth g.hd.L i).toNat, fun i => nth g.wt.L i, fun v => !shutV c v, s.L.map fun x => (x.at_.toNat, x.key)⟩
theorem insG_ok {g : Gph} {s : R.Sl Item} {c : R.Sl Bool} (h : MayS g s c) : (insG g s c).Ok := by
  obtain ⟨hg, _, _, hs⟩ := h
  have n1 := hg.n1
  have n2 := hg.n2
  refine ⟨by show g.st.n - 1 ≤ 4000; omega, fun v i hv h1 h2 => ?_, fun q hq => ?_⟩
  · have hv : v < g.st.n - 1 := hv
    have h1 : (nth g.st.L v).toNat ≤ i := h1
    have h2 : i < (nth g.st.L (v + 1)).toNat := h2
    have a := hg.arc v i (by omega) (by omega) (by omega)
    show (nth g.hd.L i).toNat < g.st.n - 1 ∧ 0 ≤ nth g.wt.L i ∧ nth g.wt.L i ≤ 2147483648
    obtain ⟨a1, a2, a3, a4, _⟩ := a
    omega
  · obtain ⟨x, hx, rfl⟩ := List.mem_map.1 hq
    have := hs x hx
    show x.at_.toNat < g.st.n - 1 ∧ 0 ≤ x.key ∧ x.key ≤ 1152921504606846976
    omega
instance con_shut (c : R.Sl Bool) (v : Nat) : R.ConP Try.prog 67 #[.slice c.A c.n c.c, .int .i64 (v : Nat)] Unit (fun _ w => R.Rd w c.A c.n 1 (c.L.flatMap R.cB) ∧ c.n ≤ 9223372036854775807 ∧ c.n = c.L.length ∧ (0 < c.n → v < c.n)) (fun _ => .bool (shutV c v)) := ⟨fun _ w hp => by
  obtain ⟨h1, h2, h3, h4⟩ := hp
  refine R.calls_of_WC (fn := Try.f67) Try.func67 rfl Try.ntmps67 (Nat.le_of_ble_eq_true rfl) ?_
  by_cases h0 : 0 < c.n
  · have := h4 h0
    (refine R.stepH ?_; (repeat' (first | (with_reducible refine And.intro ?_ ?_) | (with_reducible intro _))); all_goals refine R.Lft.mk ?_)
    exact ⟨by simp [shutV, h0], rfl⟩
  · (refine R.stepH ?_; (repeat' (first | (with_reducible refine And.intro ?_ ?_) | (with_reducible intro _))); all_goals refine R.Lft.mk ?_)
    exact ⟨by simp [shutV, h0], rfl⟩⟩
theorem check1_any (g : Gph) (x : Item) (b : Nat) (w : World) (_hn : g.st.n ≤ 9223372036854775807) (hb : b < w.heap.size) (hc : w.cell? ⟨b, 0, none⟩ = some (.int .i64 ((g.st.n : Int) - 1))) : Calls Try.prog 87 #[.agg (cItem x).toArray, .pointer (some ⟨b, 0, none⟩)] w fun e w' => e = .returned (.bool (badS g x)) ∧ Below w.heap.size w w' := by
  have hM := R.Own.start [] w
  refine R.calls_of_WC (fn := Try.f87) Try.func87 rfl Try.ntmps87 (Nat.le_of_ble_eq_true rfl) ?_
  (refine R.stepH ?_; (repeat' (first | (with_reducible refine And.intro ?_ ?_) | (with_reducible intro _))); all_goals refine R.Lft.mk ?_)
  · refine ⟨?_, R.Own.below R.ohm⟩
    simp [badS, *]
  have hc2 := R.Own.cell_in R.ohm (a := ⟨b, 0, none⟩) hb (by simp) hc
  (refine R.stepH ?_; (repeat' (first | (with_reducible refine And.intro ?_ ?_) | (with_reducible intro _))); all_goals refine R.Lft.mk ?_)
  all_goals
    refine ⟨?_, R.Own.below R.ohm⟩
    simp [badS, *]
set_option maxHeartbeats 2000000 in
theorem check21_any (g : Gph) (s : R.Sl Item) (c : R.Sl Bool) (w : World) (hG : GGph w g) (hs : R.GSl cItem 2 GItem w s) (hc : R.GSl R.cB 1 GB w c) : Calls Try.prog 64 #[.agg (cGph g).toArray, .slice s.A s.n s.c, .slice c.A c.n c.c] w fun e w' => e = .returned (.int .i64 (if mayS g s c = true then 0 else 1)) ∧ Below w.heap.size w w' := by
  have hM := R.Own.start [] w
  have hG0 := hG
  have hn0 := hG.1.2.2.1
  have hs0 := hs.2.2.1
  have hc0 := hc.2.2.1
  refine R.calls_of_WC (fn := Try.f64) Try.func64 rfl Try.ntmps64 (Nat.le_of_ble_eq_true rfl) ?_
  (refine R.stepH ?_; (repeat' (first | (with_reducible refine And.intro ?_ ?_) | (with_reducible intro _))); all_goals refine R.Lft.mk ?_)
  rename_i gb _ _ gs _ _ _ hM
  refine R.WO_call1 rfl rfl R.vv ?_
  refine (amay_any g _ (GGph.now R.ohm hG0)).mono ?_
  rintro _ w3 ⟨rfl, hb3⟩
  have hM := R.Own.call R.ohm hb3
  refine ⟨_, rfl, ?_⟩
  have hno : ¬ MayS g s c → (if mayS g s c = true then (0 : Int) else 1) = 1 := fun h => by rw [mayS_f h]; rfl
  cases hmg : mayG g with
  | false =>
    rw [hno fun h => by rw [mayG_t h.1] at hmg; cases hmg]
    (refine R.stepH ?_; (repeat' (first | (with_reducible refine And.intro ?_ ?_) | (with_reducible intro _))); all_goals refine R.Lft.mk ?_; (all_goals (try (exact ⟨rfl, R.Own.below (by assumption)⟩))))
  | true =>
    have hmp := mayG_p hmg
    have n1 := hmp.n1
    by_cases h1 : 1000 < s.n
    · rw [hno fun h => by have := h.2.1; omega]
      (refine R.stepH ?_; (repeat' (first | (with_reducible refine And.intro ?_ ?_) | (with_reducible intro _))); all_goals refine R.Lft.mk ?_; (all_goals (try (exact ⟨rfl, R.Own.below (by assumption)⟩))))
    by_cases h2 : 0 < c.n ∧ c.n + 1 ≠ g.st.n
    · rw [hno fun h => by have := h.2.2.1 h2.1; exact h2.2 this]
      obtain ⟨h2a, h2b⟩ := h2
      have h2c : (c.n : Int) ≠ (g.st.n : Int) - 1 := by omega
      (refine R.stepH ?_; (repeat' (first | (with_reducible refine And.intro ?_ ?_) | (with_reducible intro _))); all_goals refine R.Lft.mk ?_; (all_goals (try (exact ⟨rfl, R.Own.below (by assumption)⟩))))
    have hv : (if mayS g s c = true then (0 : Int) else 1) = if s.L.any (badS g) = true then 1 else 0 := by
      by_cases h3 : s.L.any (badS g) = true
      · rw [if_pos h3]
        refine hno fun h => ?_
        obtain ⟨x, hx, hbx⟩ := List.any_eq_true.1 h3
        exact badS_t hbx (h.2.2.2 x hx)
      · rw [if_neg h3, mayS_t ⟨hmp, by omega, fun h => by omega, fun x hx => badS_f (by rw [Bool.eq_false_iff]; intro q; exact h3 (List.any_eq_true.2 ⟨x, hx, q⟩))⟩]
        rfl
    by_cases h4 : 0 < c.n
    · have h2c : (c.n : Int) = (g.st.n : Int) - 1 := by omega
      (refine R.stepH ?_; (repeat' (first | (with_reducible refine And.intro ?_ ?_) | (with_reducible intro _))); all_goals refine R.Lft.mk ?_)
      refine R.WO_call2 rfl rfl R.vv R.vv ?_
      refine (containsFunc_Item s.A s.n s.c s.L 87 [.pointer (some ⟨gs, 0, none⟩)] (badS g) _ (R.Own.inpIn R.ohm hs.1) hs.2.1 (by omega) (fun x w4 _ hb4 => ?_)).mono ?_
      · have hM2 := R.Own.call hM hb4
        have hcell := R.Own.rowAt hM2 (g := gs) (.head _) 0 _ rfl
        rw [Addr.add_lit] at hcell
        exact check1_any g x gs w4 (by omega) (R.Own.lt hM2 (.head _) rfl) hcell
      rintro _ w4 ⟨rfl, hb4⟩
      have hM := R.Own.call R.ohm hb4
      refine ⟨_, rfl, ?_⟩
      rw [hv]
      cases hany : s.L.any (badS g)
      · (refine R.stepH ?_; (repeat' (first | (with_reducible refine And.intro ?_ ?_) | (with_reducible intro _))); all_goals refine R.Lft.mk ?_; (all_goals (try (exact ⟨rfl, R.Own.below (by assumption)⟩))))
      · (refine R.stepH ?_; (repeat' (first | (with_reducible refine And.intro ?_ ?_) | (with_reducible intro _))); all_goals refine R.Lft.mk ?_; (all_goals (try (exact ⟨rfl, R.Own.below (by assumption)⟩))))
    · (refine R.stepH ?_; (repeat' (first | (with_reducible refine And.intro ?_ ?_) | (with_reducible intro _))); all_goals refine R.Lft.mk ?_)
      refine R.WO_call2 rfl rfl R.vv R.vv ?_
      refine (containsFunc_Item s.A s.n s.c s.L 87 [.pointer (some ⟨gs, 0, none⟩)] (badS g) _ (R.Own.inpIn R.ohm hs.1) hs.2.1 (by omega) (fun x w4 _ hb4 => ?_)).mono ?_
      · have hM2 := R.Own.call hM hb4
        have hcell := R.Own.rowAt hM2 (g := gs) (.head _) 0 _ rfl
        rw [Addr.add_lit] at hcell
        exact check1_any g x gs w4 (by omega) (R.Own.lt hM2 (.head _) rfl) hcell
      rintro _ w4 ⟨rfl, hb4⟩
      have hM := R.Own.call R.ohm hb4
      refine ⟨_, rfl, ?_⟩
      rw [hv]
      cases hany : s.L.any (badS g)
      · (refine R.stepH ?_; (repeat' (first | (with_reducible refine And.intro ?_ ?_) | (with_reducible intro _))); all_goals refine R.Lft.mk ?_; (all_goals (try (exact ⟨rfl, R.Own.below (by assumption)⟩))))
      · (refine R.stepH ?_; (repeat' (first | (with_reducible refine And.intro ?_ ?_) | (with_reducible intro _))); all_goals refine R.Lft.mk ?_; (all_goals (try (exact ⟨rfl, R.Own.below (by assumption)⟩))))
end Go.Proofs.Ytegbidklcaccjaa
