/- The law of chapter 22: what a graph's own closure answers. -/
import Derived.Test.YtegbidklcaccjaaVu
import Derived.Test.YtegbidklcaccjaaDm
namespace Go.Proofs.Ytegbidklcaccjaa
open Go.ChangeShapes Go.WideShapes Go.ChangeAt Go.RowKit
open R (In64 InU64 lo64 nth)
def GWt (_ : World) (x : Wt) : Prop := In64 x.frm ∧ In64 x.past ∧ In64 x.most ∧ In64 x.hops ∧ In64 x.cnt
instance opn_Wt : R.Opn Try.prog 67 Wt cWt GWt := R.opn_struct5 (o0 := 0) (t0 := 3) (n0 := 1) (o1 := 1) (t1 := 3) (n1 := 1) (o2 := 2) (t2 := 3) (n2 := 1) (o3 := 3) (t3 := 3) (n3 := 1) (o4 := 4) (t4 := 3) (n4 := 1) (by kernel_rfl) (by kernel_rfl) (by kernel_rfl) (by kernel_rfl) (by kernel_rfl) rfl rfl rfl rfl rfl (by kernel_rfl) Wt.mk (fun _ _ _ _ _ => rfl) (fun _ _ _ _ _ _ h1 h2 h3 h4 h5 => ⟨wf_intD h1, wf_intD h2, wf_intD h3, wf_intD h4, wf_intD h5⟩)
theorem outT_insG {g : Gph} (hm : MayG g) (s : R.Sl Item) (c : R.Sl Bool) {v : Nat} (hv : v + 1 < g.st.n) : outT g v (degG g v) = outI (insG g s c) v ∧ degG g v = (insG g s c).S (v + 1) - (insG g s c).S v := by
  refine ⟨?_, rfl⟩
  unfold outT outI
  refine List.map_congr_left fun j hj => ?_
  have hj : j < degG g v := List.mem_range.1 hj
  have hj : j < (nth g.st.L (v + 1)).toNat - (nth g.st.L v).toNat := hj
  have h0 := hm.toStG.lo (show v < g.st.n by omega)
  have h1 := hm.toStG.lo hv
  have ha := (hm.arc v ((nth g.st.L v).toNat + j) hv (by omega) (by omega)).1
  show (⟨nth g.wt.L ((nth g.st.L v).toNat + j), nth g.hd.L ((nth g.st.L v).toNat + j)⟩ : Item) = ⟨nth g.wt.L ((nth g.st.L v).toNat + j), (((nth g.hd.L ((nth g.st.L v).toNat + j)).toNat : Nat) : Int)⟩
  rw [Int.toNat_of_nonneg ha]
theorem deg_insG {g : Gph} (hm : MayG g) (s : R.Sl Item) (c : R.Sl Bool) {v : Nat} (hv : v < (insG g s c).n) : (insG g s c).S (v + 1) - (insG g s c).S v ≤ g.hd.n := by
  have hv : v < g.st.n - 1 := hv
  have h1 := hm.toStG.hi (show v + 1 < g.st.n by omega)
  show (nth g.st.L (v + 1)).toNat - (nth g.st.L v).toNat ≤ _
  omega
theorem wtc_any (g : Gph) (gb v : Nat) (w : World) (hG : GGph w g) (hm : MayG g) (hv : v + 1 < g.st.n) (hb : gb < w.heap.size) (hc : R.RowAt w ⟨gb, 0, none⟩ (cGph g)) : Calls Try.prog 38 #[.int .i64 (v : Nat), .pointer (some ⟨gb, 0, none⟩)] w fun e w' => ∃ A c, e = .returned (.slice A (degG g v) c) ∧ R.Gives w w' A (degG g v) c 72 2 ((outT g v (degG g v)).flatMap cItem) := by
  have hM := R.Own.start [] w
  refine R.calls_of_WC (fn := Try.f38) Try.func38 rfl Try.ntmps38 (Nat.le_of_ble_eq_true rfl) ?_
  (refine R.stepH ?_; (repeat' (first | (with_reducible refine And.intro ?_ ?_) | (with_reducible intro _))); all_goals refine R.Lft.mk ?_)
  have hc2 : R.RowAt w ⟨gb, 0, none⟩ (cGph g) := fun j v hj => R.Own.cell_in hM (by rw [R.add_block]; exact hb) (by simp) (hc j v hj)
  refine R.WO_loadA (a := ⟨gb, 0, none⟩) rfl rfl rfl hc2 ?_
  (refine R.stepH ?_; (repeat' (first | (with_reducible refine And.intro ?_ ?_) | (with_reducible intro _))); all_goals refine R.Lft.mk ?_)
  refine R.WO_call2 rfl rfl R.vv R.vv ?_
  refine (aOut_any g v _ (GGph.now R.ohm hG) hm hv).mono ?_
  rintro _ w4 ⟨A, c, rfl, hGv⟩
  have hM := R.Own.give R.ohm hGv
  refine ⟨_, rfl, ?_⟩
  (refine R.stepH ?_; (repeat' (first | (with_reducible refine And.intro ?_ ?_) | (with_reducible intro _))); all_goals refine R.Lft.mk ?_)
  exact ⟨A, c, rfl, R.Own.gives R.ohm⟩
/-- What is closed: one vertex, if it is one. -/
def clL (n : Nat) (p : Int) : List Bool := if 0 ≤ p ∧ p < (n : Nat) then (List.replicate n false).set p.toNat true else List.replicate n false
theorem clL_len (n : Nat) (p : Int) : (clL n p).length = n := by
  unfold clL
  split <;> simp
theorem nth_setB {L : List Bool} {v w : Nat} {c : Bool} (hv : v < L.length) : nth (L.set v c) w = if v = w then c else nth L w := by
  unfold R.nth
  rw [List.getD_eq_getElem?_getD, List.getD_eq_getElem?_getD, List.getElem?_set]
  by_cases e : v = w
  · subst e; rw [if_pos rfl, if_pos hv, if_pos rfl]; rfl
  · rw [if_neg e, if_neg e]
theorem clL_nth {n : Nat} {p : Int} {u : Nat} (hu : u < n) : nth (clL n p) u = decide (((u : Nat) : Int) = p) := by
  unfold clL
  have h0 : nth (List.replicate n false) u = false := by rw [R.nth_eq (by simpa using hu)]; simp
  by_cases hp : 0 ≤ p ∧ p < (n : Nat)
  · rw [if_pos hp, nth_setB (by simp; omega), h0]
    by_cases e : p.toNat = u
    · rw [if_pos e, decide_eq_true (by omega)]
    · rw [if_neg e, decide_eq_false (by omega)]
  · rw [if_neg hp, h0, decide_eq_false (by omega)]
/-- The instance of a short search's law. -/
def insW (g : Gph) (x : Wt) : Ins := insG g ⟨none, 1, 1, [Item.mk 0 x.frm]⟩ ⟨none, g.st.n - 1, g.st.n - 1, clL (g.st.n - 1) x.past⟩
theorem insW_op {g : Gph} {x : Wt} {u : Nat} (hu : u < (insW g x).n) : (insW g x).op u = true ↔ ((u : Nat) : Int) ≠ x.past := by
  have hu : u < g.st.n - 1 := hu
  show (!(decide (0 < g.st.n - 1) && nth (clL (g.st.n - 1) x.past) u)) = true ↔ _
  rw [clL_nth hu, decide_eq_true (by omega)]
  simp
/-- What is to be told. -/
def prW (m z : Int) : Bool := decide (z < 4611686018427387904) && decide (z ≤ m)
def cntW (m : Int) (C : List Int) (j : Nat) : Nat := (C.take j).countP (prW m)
theorem cntW_le (m : Int) (C : List Int) (j : Nat) : cntW m C j ≤ j := by
  unfold cntW
  refine Nat.le_trans List.countP_le_length ?_
  rw [List.length_take]
  exact Nat.min_le_left _ _
theorem cntW_succ {m : Int} {C : List Int} {j : Nat} (hj : j < C.length) : (nth C j < 4611686018427387904 ∧ nth C j ≤ m → cntW m C (j + 1) = cntW m C j + 1) ∧ (¬ (nth C j < 4611686018427387904 ∧ nth C j ≤ m) → cntW m C (j + 1) = cntW m C j) := by
  have e : cntW m C (j + 1) = cntW m C j + (if prW m (nth C j) = true then 1 else 0) := by
    unfold cntW
    rw [R.nth_eq hj, List.take_succ_eq_append_getElem hj, List.countP_append]
    congr 1
    rw [List.countP_singleton]
  rw [e]
  refine ⟨fun h => ?_, fun h => ?_⟩
  · rw [if_pos]
    simp [prW, h.1, h.2]
  · rw [if_neg]
    · rfl
    · intro h2
      simp [prW] at h2
      exact h h2
end Go.Proofs.Ytegbidklcaccjaa
