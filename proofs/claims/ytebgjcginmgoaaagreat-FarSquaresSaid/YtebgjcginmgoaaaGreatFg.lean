/- Numbers and fractions of any length, as snicketref30 reckons them: what each gives, as own rows. Fractions as snicketref30 reckons them: First, Second, whole, Plus, Times, Minus, over, Cmp. Regions where calls come one behind the other and things are laid at any time between: each call is walked once. -/
import Derived.Test.YtebgjcginmgoaaaGreatFc
import Derived.Test.YtebgjcginmgoaaaGreatFp
namespace Go.Proofs.YtebgjcginmgoaaaGreat
open Go.RowKit
open R (In64 InU64 lo64 nth)

/-- A number as it was laid; trimmed. -/
def Nm.t (x : Nm) : Nm := ⟨x.neg, x.A, trimN x.L, x.c, x.L.take (trimN x.L)⟩
theorem Nm.t_z (x : Nm) : x.t.z = x.z := by unfold Nm.t; rw [nm_z, trimN_dv]; rfl
abbrev rowN (x : Nm) : R.Res := .row x.A x.n x.c 22 1 (x.L.flatMap R.cU)
def RawN (k : Nat) (x : Nm) : Prop := x.n = x.L.length ∧ DigI x.L ∧ x.n ≤ k
theorem RawN.mono {k m : Nat} {x : Nm} (h : RawN k x) (hk : k ≤ m) : RawN m x := ⟨h.1, h.2.1, Nat.le_trans h.2.2 hk⟩
theorem GNm.of {W w : World} {l : List R.Res} {x : Nm} {k : Nat} (hM : R.Own [] W w l) (hm : rowN x ∈ l) (h : RawN k x) : GNm k w x.t := GNm.trim hM hm h.1 h.2.1 (row_capN hM hm) h.2.2
theorem GNm.mono {k m : Nat} {w : World} {x : Nm} (h : GNm k w x) (hk : k ≤ m) : GNm m w x := ⟨h.1, h.2.1, h.2.2.1, h.2.2.2.1, Nat.le_trans h.2.2.2.2 hk⟩
theorem GNm.neg {k : Nat} {w : World} {x : Nm} (h : GNm k w x) : GNm k w ⟨!x.neg, x.A, x.n, x.c, x.L⟩ := h
def Fr.t (x : Fr) : Fr := ⟨x.n.t, x.d.t⟩
def RawF (k : Nat) (x : Fr) : Prop := RawN k x.n ∧ RawN k x.d
def GFr (k : Nat) (w : World) (x : Fr) : Prop := GNm k w x.n ∧ GNm k w x.d
theorem RawF.mono {k m : Nat} {x : Fr} (h : RawF k x) (hk : k ≤ m) : RawF m x := ⟨h.1.mono hk, h.2.mono hk⟩
theorem GFr.of {W w : World} {l : List R.Res} {x : Fr} {k : Nat} (hM : R.Own [] W w l) (h1 : rowN x.n ∈ l) (h2 : rowN x.d ∈ l) (h : RawF k x) : GFr k w x.t := ⟨GNm.of hM h1 h.1, GNm.of hM h2 h.2⟩
theorem GFr.mono {k m : Nat} {w : World} {x : Fr} (h : GFr k w x) (hk : k ≤ m) : GFr m w x := ⟨h.1.mono hk, h.2.mono hk⟩
theorem GFr.ext {k : Nat} {w w' : World} {x : Fr} (h : GFr k w x) (hb : Below w.heap.size w w') : GFr k w' x := ⟨h.1.ext hb, h.2.ext hb⟩
/-- A fraction's number and divisor. -/
def Fr.q (x : Fr) : Int × Int := (x.n.z, x.d.z)
theorem Fr.t_q (x : Fr) : x.t.q = x.q := by
  show (x.n.t.z, x.d.t.z) = _
  rw [Nm.t_z, Nm.t_z]
  rfl
theorem R.Own.give1 {F : List Nat} {W w w' : World} {l : List R.Res} {a : R.Res} (h : R.Own F W w l) (hc : R.Own [] w w' [a]) : R.Own F W w' (a :: l) := (show R.Own F W w' (l ++ [a]) from R.Own.callF (l := l) (lc := []) (by rw [List.append_nil]; exact h) hc).perm (List.perm_append_comm (l₁ := [a]) (l₂ := l))
theorem R.Own.give2 {F : List Nat} {W w w' : World} {l : List R.Res} {a b : R.Res} (h : R.Own F W w l) (hc : R.Own [] w w' [a, b]) : R.Own F W w' (a :: b :: l) := (show R.Own F W w' (l ++ [a, b]) from R.Own.callF (l := l) (lc := []) (by rw [List.append_nil]; exact h) hc).perm (List.perm_append_comm (l₁ := [a, b]) (l₂ := l))
attribute [local irreducible] W512 digsL trimN in
set_option maxHeartbeats 2000000 in
theorem m_of (a : Sg) (w : World) : Calls Tryz.prog 38 #[.agg (cS a).toArray] w fun e w' => ∃ x : Nm, e = .returned (.agg (cNm x.t).toArray) ∧ R.Own [] w w' [rowN x] ∧ RawN 32 x ∧ x.z = a.z := by
  have hM := R.Own.start [] w
  have d1 := digsL_dig a.mag.n 32
  have d3 := digsL_len a.mag.n 32
  have d5 := digsL_whole a.mag
  refine R.calls_of_WC (fn := Tryz.f38) Tryz.func38 rfl Tryz.ntmps38 (Nat.le_of_ble_eq_true rfl) ?_
  (refine R.stepU ?_; (repeat' (first | (with_reducible refine And.intro ?_ ?_) | (with_reducible intro _))); all_goals refine R.Lft.mk ?_)
  refine R.WC_planX [(0, false), (1, false), (2, false), (3, false), (4, true), (5, true), (6, false), (7, true)] R.mixed (by decide +kernel) R.ohm ?_
  (refine R.stepU ?_; (repeat' (first | (with_reducible refine And.intro ?_ ?_) | (with_reducible intro _))); all_goals refine R.Lft.mk ?_)
  rename_i A c _ hM
  refine R.WO_call1 rfl rfl R.vv ?_
  refine ((con_trim A 32 c).h (digsL a.mag.n 32) _ ⟨R.Own.inp hM (.head _), d3.symm, d1, row_capN hM (.head _), by omega⟩).mono ?_
  rintro _ w4 ⟨rfl, rfl⟩
  refine ⟨_, rfl, ?_⟩
  (refine R.stepU ?_; (repeat' (first | (with_reducible refine And.intro ?_ ?_) | (with_reducible intro _))); all_goals refine R.Lft.mk ?_)
  rename_i hM
  exact ⟨⟨a.neg, A, 32, c, digsL a.mag.n 32⟩, rfl, R.Own.sub hM (List.Sublist.cons_cons _ (List.nil_sublist _)), ⟨d3.symm, d1, Nat.le_refl _⟩, by rw [nm_z, d5]; rfl⟩
attribute [local irreducible] W512 trimN in
set_option maxHeartbeats 2000000 in
theorem m_mul (x y : Nm) (k m : Nat) (w : World) (hx : GNm k w x) (hy : GNm m w y) (hk : k ≤ 10000) (hm : m ≤ 10000) : Calls Tryz.prog 45 #[.agg (cNm x).toArray, .agg (cNm y).toArray] w fun e w' => ∃ z : Nm, e = .returned (.agg (cNm z.t).toArray) ∧ R.Own [] w w' [rowN z] ∧ RawN (k + m) z ∧ z.z = x.z * y.z := by
  have hM := R.Own.start [] w
  obtain ⟨x1, x2, x3, x4, x5⟩ := hx
  obtain ⟨y1, y2, y3, y4, y5⟩ := hy
  refine R.calls_of_WC (fn := Tryz.f45) Tryz.func45 rfl Tryz.ntmps45 (Nat.le_of_ble_eq_true rfl) ?_
  (refine R.stepU ?_; (repeat' (first | (with_reducible refine And.intro ?_ ?_) | (with_reducible intro _))); all_goals refine R.Lft.mk ?_)
  refine R.WC_planX [(0, false), (1, false), (2, false), (3, false), (4, false), (5, false), (6, false), (7, false), (8, false), (9, true), (10, true), (11, false), (12, true)] R.mixed (by decide +kernel) R.ohm ?_
  (refine R.stepU ?_; (repeat' (first | (with_reducible refine And.intro ?_ ?_) | (with_reducible intro _))); all_goals refine R.Lft.mk ?_)
  rename_i hM
  refine R.WO_call2 rfl rfl R.vv R.vv ?_
  refine (times_i x.A y.A x.n x.c y.n y.c x.L y.L _ (hM.inpIn x1) x2 x3 (by omega) (hM.inpIn y1) y2 y3 (by omega)).mono ?_
  rintro _ w4 ⟨A1, zs, rfl, hG, hl, hd, hv⟩
  have hM := R.Own.give hM hG
  refine ⟨_, rfl, ?_⟩
  (refine R.stepU ?_; (repeat' (first | (with_reducible refine And.intro ?_ ?_) | (with_reducible intro _))); all_goals refine R.Lft.mk ?_)
  rename_i hM
  exact ⟨⟨!(x.neg == y.neg), A1, x.n + y.n, x.n + y.n, zs⟩, rfl, R.Own.sub hM (List.Sublist.cons_cons _ (List.nil_sublist _)), ⟨hl, hd, by dsimp only; omega⟩, by rw [nm_z, hv]; exact mul_sign _ _ _ _⟩
attribute [local irreducible] W512 trimN in
set_option maxHeartbeats 2000000 in
theorem m_add (x y : Nm) (k : Nat) (w : World) (hx : GNm k w x) (hy : GNm k w y) (hk : k ≤ 10000) : Calls Tryz.prog 44 #[.agg (cNm x).toArray, .agg (cNm y).toArray] w fun e w' => ∃ z : Nm, e = .returned (.agg (cNm z.t).toArray) ∧ R.Own [] w w' [rowN z] ∧ RawN (k + 1) z ∧ z.z = x.z + y.z := by
  have hM := R.Own.start [] w
  obtain ⟨x1, x2, x3, x4, x5⟩ := hx
  obtain ⟨y1, y2, y3, y4, y5⟩ := hy
  by_cases hs : x.neg = y.neg
  · refine R.calls_of_WC (fn := Tryz.f44) Tryz.func44 rfl Tryz.ntmps44 (Nat.le_of_ble_eq_true rfl) ?_
    (refine R.stepU ?_; (repeat' (first | (with_reducible refine And.intro ?_ ?_) | (with_reducible intro _))); all_goals refine R.Lft.mk ?_)
    refine R.WC_planX [(0, false), (1, false), (2, false), (3, false), (4, false), (5, false), (6, true), (7, true), (8, false), (9, true)] R.mixed (by decide +kernel) R.ohm ?_
    (refine R.stepU ?_; (repeat' (first | (with_reducible refine And.intro ?_ ?_) | (with_reducible intro _))); all_goals refine R.Lft.mk ?_)
    rename_i hM
    refine R.WO_call2 rfl rfl R.vv R.vv ?_
    refine (plus_i x.A y.A x.n x.c y.n y.c x.L y.L _ (hM.inpIn x1) x2 x3 (by omega) (hM.inpIn y1) y2 y3 (by omega)).mono ?_
    rintro _ w4 ⟨A1, c1, n1, zs, rfl, hG, hl, hd, hv, hn1⟩
    have hM := R.Own.give hM hG
    refine ⟨_, rfl, ?_⟩
    (refine R.stepU ?_; (repeat' (first | (with_reducible refine And.intro ?_ ?_) | (with_reducible intro _))); all_goals refine R.Lft.mk ?_)
    refine R.WO_call1 rfl rfl R.vv ?_
    refine ((con_trim A1 n1 c1).h zs _ ⟨R.Own.inp hM (.head _), hl, hd, row_capN hM (.head _), by omega⟩).mono ?_
    rintro _ w5 ⟨rfl, rfl⟩
    refine ⟨_, rfl, ?_⟩
    (refine R.stepU ?_; (repeat' (first | (with_reducible refine And.intro ?_ ?_) | (with_reducible intro _))); all_goals refine R.Lft.mk ?_)
    rename_i hM
    exact ⟨⟨x.neg, A1, n1, c1, zs⟩, rfl, R.Own.sub hM (List.Sublist.cons_cons _ (List.nil_sublist _)), ⟨hl, hd, by dsimp only; omega⟩, by
      rw [nm_z, hv]
      unfold Nm.z
      rw [← hs]
      split <;> omega⟩
  · refine R.calls_of_WC (fn := Tryz.f44) Tryz.func44 rfl Tryz.ntmps44 (Nat.le_of_ble_eq_true rfl) ?_
    (refine R.stepU ?_; (repeat' (first | (with_reducible refine And.intro ?_ ?_) | (with_reducible intro _))); all_goals refine R.Lft.mk ?_)
    rename_i hM
    refine R.WO_call2 rfl rfl R.vv R.vv ?_
    refine (less_i x.A y.A x.n x.c y.n y.c x.L y.L _ (hM.inpIn x1) x2 x3 (by omega) (hM.inpIn y1) y2 y3 (by omega)).mono ?_
    rintro _ w4 ⟨rfl, rfl⟩
    refine ⟨_, rfl, ?_⟩
    by_cases hlt : dv x.L < dv y.L
    · rw [decide_eq_true hlt]
      (refine R.stepU ?_; (repeat' (first | (with_reducible refine And.intro ?_ ?_) | (with_reducible intro _))); all_goals refine R.Lft.mk ?_)
      refine R.WC_planX [(0, false), (1, false), (2, false), (3, false), (4, false), (5, false), (6, true), (7, true), (8, false), (9, true)] R.mixed (by decide +kernel) R.ohm ?_
      (refine R.stepU ?_; (repeat' (first | (with_reducible refine And.intro ?_ ?_) | (with_reducible intro _))); all_goals refine R.Lft.mk ?_)
      rename_i hM
      refine R.WO_call2 rfl rfl R.vv R.vv ?_
      refine (minus_i y.A x.A y.n y.c x.n x.c y.L x.L _ (hM.inpIn y1) y2 y3 (by omega) (hM.inpIn x1) x2 x3 (by omega) (by omega)).mono ?_
      rintro _ w4 ⟨A1, c1, zs, rfl, hG, hl, hd, hv⟩
      have hM := R.Own.give hM hG
      refine ⟨_, rfl, ?_⟩
      (refine R.stepU ?_; (repeat' (first | (with_reducible refine And.intro ?_ ?_) | (with_reducible intro _))); all_goals refine R.Lft.mk ?_)
      refine R.WO_call1 rfl rfl R.vv ?_
      refine ((con_trim A1 y.n c1).h zs _ ⟨R.Own.inp hM (.head _), hl, hd, row_capN hM (.head _), by omega⟩).mono ?_
      rintro _ w5 ⟨rfl, rfl⟩
      refine ⟨_, rfl, ?_⟩
      (refine R.stepU ?_; (repeat' (first | (with_reducible refine And.intro ?_ ?_) | (with_reducible intro _))); all_goals refine R.Lft.mk ?_)
      rename_i hM
      exact ⟨⟨y.neg, A1, y.n, c1, zs⟩, rfl, R.Own.sub hM (List.Sublist.cons_cons _ (List.nil_sublist _)), ⟨hl, hd, by dsimp only; omega⟩, by
        rw [nm_z, hv]
        unfold Nm.z
        cases hx : x.neg <;> cases hy : y.neg <;> simp_all <;> omega⟩
    · rw [decide_eq_false hlt]
      (refine R.stepU ?_; (repeat' (first | (with_reducible refine And.intro ?_ ?_) | (with_reducible intro _))); all_goals refine R.Lft.mk ?_)
      refine R.WC_planX [(0, false), (1, false), (2, false), (3, false), (4, false), (5, false), (6, true), (7, true), (8, false), (9, true)] R.mixed (by decide +kernel) R.ohm ?_
      (refine R.stepU ?_; (repeat' (first | (with_reducible refine And.intro ?_ ?_) | (with_reducible intro _))); all_goals refine R.Lft.mk ?_)
      rename_i hM
      refine R.WO_call2 rfl rfl R.vv R.vv ?_
      refine (minus_i x.A y.A x.n x.c y.n y.c x.L y.L _ (hM.inpIn x1) x2 x3 (by omega) (hM.inpIn y1) y2 y3 (by omega) (by omega)).mono ?_
      rintro _ w4 ⟨A1, c1, zs, rfl, hG, hl, hd, hv⟩
      have hM := R.Own.give hM hG
      refine ⟨_, rfl, ?_⟩
      (refine R.stepU ?_; (repeat' (first | (with_reducible refine And.intro ?_ ?_) | (with_reducible intro _))); all_goals refine R.Lft.mk ?_)
      refine R.WO_call1 rfl rfl R.vv ?_
      refine ((con_trim A1 x.n c1).h zs _ ⟨R.Own.inp hM (.head _), hl, hd, row_capN hM (.head _), by omega⟩).mono ?_
      rintro _ w5 ⟨rfl, rfl⟩
      refine ⟨_, rfl, ?_⟩
      (refine R.stepU ?_; (repeat' (first | (with_reducible refine And.intro ?_ ?_) | (with_reducible intro _))); all_goals refine R.Lft.mk ?_)
      rename_i hM
      exact ⟨⟨x.neg, A1, x.n, c1, zs⟩, rfl, R.Own.sub hM (List.Sublist.cons_cons _ (List.nil_sublist _)), ⟨hl, hd, by dsimp only; omega⟩, by
        rw [nm_z, hv]
        unfold Nm.z
        cases hx : x.neg <;> cases hy : y.neg <;> simp_all <;> omega⟩
attribute [local irreducible] W512 trimN dig4I in
set_option maxHeartbeats 2000000 in
theorem m_small (n : Int) (hn : -4611686018427387904 ≤ n ∧ n ≤ 4611686018427387904) (w : World) : Calls Tryz.prog 70 #[.int .i64 n] w fun e w' => ∃ x : Nm, e = .returned (.agg (cNm x.t).toArray) ∧ R.Own [] w w' [rowN x] ∧ RawN 4 x ∧ x.z = n := by
  have hM := R.Own.start [] w
  by_cases h0 : n < 0
  · have d1 := dig4I_dig (a := -n) (by unfold InU64; omega)
    have d3 := dig4I_len (-n)
    have d5 := dig4I_dv (-n)
    refine R.calls_of_WC (fn := Tryz.f70) Tryz.func70 rfl Tryz.ntmps70 (Nat.le_of_ble_eq_true rfl) ?_
    (refine R.stepU ?_; (repeat' (first | (with_reducible refine And.intro ?_ ?_) | (with_reducible intro _))); all_goals refine R.Lft.mk ?_)
    rename_i A c _ hM
    refine R.WO_call1 rfl rfl R.vv ?_
    refine ((con_trim A 4 c).h (dig4I (-n)) _ ⟨R.Own.inp hM (.head _), d3.symm, d1, row_capN hM (.head _), by omega⟩).mono ?_
    rintro _ w4 ⟨rfl, rfl⟩
    refine ⟨_, rfl, ?_⟩
    (refine R.stepU ?_; (repeat' (first | (with_reducible refine And.intro ?_ ?_) | (with_reducible intro _))); all_goals refine R.Lft.mk ?_)
    rename_i hM
    exact ⟨⟨true, A, 4, c, dig4I (-n)⟩, rfl, R.Own.sub hM (List.Sublist.cons_cons _ (List.nil_sublist _)), ⟨d3.symm, d1, Nat.le_refl _⟩, by rw [nm_z, d5]; rw [if_pos rfl]; omega⟩
  · have d1 := dig4I_dig (a := n) (by unfold InU64; omega)
    have d3 := dig4I_len n
    have d5 := dig4I_dv n
    refine R.calls_of_WC (fn := Tryz.f70) Tryz.func70 rfl Tryz.ntmps70 (Nat.le_of_ble_eq_true rfl) ?_
    (refine R.stepU ?_; (repeat' (first | (with_reducible refine And.intro ?_ ?_) | (with_reducible intro _))); all_goals refine R.Lft.mk ?_)
    rename_i A c _ hM
    refine R.WO_call1 rfl rfl R.vv ?_
    refine ((con_trim A 4 c).h (dig4I n) _ ⟨R.Own.inp hM (.head _), d3.symm, d1, row_capN hM (.head _), by omega⟩).mono ?_
    rintro _ w4 ⟨rfl, rfl⟩
    refine ⟨_, rfl, ?_⟩
    (refine R.stepU ?_; (repeat' (first | (with_reducible refine And.intro ?_ ?_) | (with_reducible intro _))); all_goals refine R.Lft.mk ?_)
    rename_i hM
    exact ⟨⟨false, A, 4, c, dig4I n⟩, rfl, R.Own.sub hM (List.Sublist.cons_cons _ (List.nil_sublist _)), ⟨d3.symm, d1, Nat.le_refl _⟩, by rw [nm_z, d5]; rw [if_neg (by decide)]; omega⟩
end Go.Proofs.YtebgjcginmgoaaaGreat
namespace Go.Proofs.YtebgjcginmgoaaaGreat
open Go.RowKit
open R (In64 InU64 lo64 nth)

attribute [local irreducible] W512 trimN digsL dig4I in
set_option maxHeartbeats 4000000 in
theorem f_first (a : Sp) (w : World) : Calls Tryz.prog 15 #[.agg (cSp a).toArray] w fun e w' => ∃ z : Fr, e = .returned (.agg (cFr z.t).toArray) ∧ R.Own [] w w' [rowN z.n, rowN z.d] ∧ RawF (32) z ∧ z.q = (a.x.z, (a.w.n : Int)) := by
  have hM := R.Own.start [] w
  have d1 := digsL_dig a.w.n 32
  have d3 := digsL_len a.w.n 32
  have d5 := digsL_whole a.w
  refine R.calls_of_WC (fn := Tryz.f15) Tryz.func15 rfl Tryz.ntmps15 (Nat.le_of_ble_eq_true rfl) ?_
  (refine R.stepU ?_; (repeat' (first | (with_reducible refine And.intro ?_ ?_) | (with_reducible intro _))); all_goals refine R.Lft.mk ?_)
  refine R.WC_planX [(0, false), (1, false), (3, false), (4, false), (2, true), (5, true), (6, true), (7, false), (8, false), (9, true)] R.mixed (by decide +kernel) R.ohm ?_
  (refine R.stepU ?_; (repeat' (first | (with_reducible refine And.intro ?_ ?_) | (with_reducible intro _))); all_goals refine R.Lft.mk ?_)
  rename_i hM
  refine R.WO_call1 rfl rfl R.vv ?_
  refine (m_of a.x _).mono ?_
  rintro _ _ ⟨z1, rfl, hO1, r1, e1⟩
  have hM := R.Own.give1 hM hO1
  refine ⟨_, rfl, ?_⟩
  (refine R.stepU ?_; (repeat' (first | (with_reducible refine And.intro ?_ ?_) | (with_reducible intro _))); all_goals refine R.Lft.mk ?_)
  rename_i A c _ hM
  refine R.WO_call1 rfl rfl R.vv ?_
  refine ((con_trim A 32 c).h (digsL a.w.n 32) _ ⟨R.Own.inp hM (.head _), d3.symm, d1, row_capN hM (.head _), by omega⟩).mono ?_
  rintro _ _ ⟨rfl, rfl⟩
  refine ⟨_, rfl, ?_⟩
  (refine R.stepU ?_; (repeat' (first | (with_reducible refine And.intro ?_ ?_) | (with_reducible intro _))); all_goals refine R.Lft.mk ?_)
  rename_i hM
  have hM : R.Own [] w _ (rowN ⟨false, A, 32, c, digsL a.w.n 32⟩ :: _) := R.pk (r := .row A 32 c _ _ _) hM
  exact ⟨⟨z1, ⟨false, A, 32, c, digsL a.w.n 32⟩⟩, rfl, R.Own.sub (R.pk (r := rowN z1) hM) (List.Sublist.cons_cons _ (List.Sublist.cons_cons _ (List.nil_sublist _))), ⟨r1, d3.symm, d1, Nat.le_refl _⟩, by unfold Fr.q; dsimp only; rw [e1, nm_z, d5]; rfl⟩
attribute [local irreducible] W512 trimN digsL dig4I in
set_option maxHeartbeats 4000000 in
theorem f_second (a : Sp) (w : World) : Calls Tryz.prog 17 #[.agg (cSp a).toArray] w fun e w' => ∃ z : Fr, e = .returned (.agg (cFr z.t).toArray) ∧ R.Own [] w w' [rowN z.n, rowN z.d] ∧ RawF (32) z ∧ z.q = (a.y.z, (a.w.n : Int)) := by
  have hM := R.Own.start [] w
  have d1 := digsL_dig a.w.n 32
  have d3 := digsL_len a.w.n 32
  have d5 := digsL_whole a.w
  refine R.calls_of_WC (fn := Tryz.f17) Tryz.func17 rfl Tryz.ntmps17 (Nat.le_of_ble_eq_true rfl) ?_
  (refine R.stepU ?_; (repeat' (first | (with_reducible refine And.intro ?_ ?_) | (with_reducible intro _))); all_goals refine R.Lft.mk ?_)
  refine R.WC_planX [(0, false), (1, false), (3, false), (4, false), (2, true), (5, true), (6, true), (7, false), (8, false), (9, true)] R.mixed (by decide +kernel) R.ohm ?_
  (refine R.stepU ?_; (repeat' (first | (with_reducible refine And.intro ?_ ?_) | (with_reducible intro _))); all_goals refine R.Lft.mk ?_)
  rename_i hM
  refine R.WO_call1 rfl rfl R.vv ?_
  refine (m_of a.y _).mono ?_
  rintro _ _ ⟨z1, rfl, hO1, r1, e1⟩
  have hM := R.Own.give1 hM hO1
  refine ⟨_, rfl, ?_⟩
  (refine R.stepU ?_; (repeat' (first | (with_reducible refine And.intro ?_ ?_) | (with_reducible intro _))); all_goals refine R.Lft.mk ?_)
  rename_i A c _ hM
  refine R.WO_call1 rfl rfl R.vv ?_
  refine ((con_trim A 32 c).h (digsL a.w.n 32) _ ⟨R.Own.inp hM (.head _), d3.symm, d1, row_capN hM (.head _), by omega⟩).mono ?_
  rintro _ _ ⟨rfl, rfl⟩
  refine ⟨_, rfl, ?_⟩
  (refine R.stepU ?_; (repeat' (first | (with_reducible refine And.intro ?_ ?_) | (with_reducible intro _))); all_goals refine R.Lft.mk ?_)
  rename_i hM
  have hM : R.Own [] w _ (rowN ⟨false, A, 32, c, digsL a.w.n 32⟩ :: _) := R.pk (r := .row A 32 c _ _ _) hM
  exact ⟨⟨z1, ⟨false, A, 32, c, digsL a.w.n 32⟩⟩, rfl, R.Own.sub (R.pk (r := rowN z1) hM) (List.Sublist.cons_cons _ (List.Sublist.cons_cons _ (List.nil_sublist _))), ⟨r1, d3.symm, d1, Nat.le_refl _⟩, by unfold Fr.q; dsimp only; rw [e1, nm_z, d5]; rfl⟩
attribute [local irreducible] W512 trimN digsL dig4I in
set_option maxHeartbeats 4000000 in
theorem f_whole (n : Int) (hn : -4611686018427387904 ≤ n ∧ n ≤ 4611686018427387904) (w : World) : Calls Tryz.prog 40 #[.int .i64 n] w fun e w' => ∃ z : Fr, e = .returned (.agg (cFr z.t).toArray) ∧ R.Own [] w w' [rowN z.n, rowN z.d] ∧ RawF (32) z ∧ z.q = (n, 1) := by
  have hM := R.Own.start [] w
  refine R.calls_of_WC (fn := Tryz.f40) Tryz.func40 rfl Tryz.ntmps40 (Nat.le_of_ble_eq_true rfl) ?_
  (refine R.stepU ?_; (repeat' (first | (with_reducible refine And.intro ?_ ?_) | (with_reducible intro _))); all_goals refine R.Lft.mk ?_)
  rename_i hM
  refine R.WO_call1 rfl rfl R.vv ?_
  refine (m_small n hn _).mono ?_
  rintro _ _ ⟨z1, rfl, hO1, r1, e1⟩
  have hM := R.Own.give1 hM hO1
  refine ⟨_, rfl, ?_⟩
  (refine R.stepU ?_; (repeat' (first | (with_reducible refine And.intro ?_ ?_) | (with_reducible intro _))); all_goals refine R.Lft.mk ?_)
  rename_i hM
  refine R.WO_call1 rfl rfl R.vv ?_
  refine (m_small 1 (by omega) _).mono ?_
  rintro _ _ ⟨z2, rfl, hO2, r2, e2⟩
  have hM := R.Own.give1 hM hO2
  refine ⟨_, rfl, ?_⟩
  (refine R.stepU ?_; (repeat' (first | (with_reducible refine And.intro ?_ ?_) | (with_reducible intro _))); all_goals refine R.Lft.mk ?_)
  rename_i hM
  exact ⟨⟨z1, z2⟩, rfl, R.Own.sub (R.pk (r := rowN z1) (R.pk (r := rowN z2) hM)) (List.Sublist.cons_cons _ (List.Sublist.cons_cons _ (List.nil_sublist _))), ⟨r1.mono (by decide), r2.mono (by decide)⟩, by unfold Fr.q; dsimp only; rw [e1, e2]⟩
attribute [local irreducible] W512 trimN digsL dig4I in
set_option maxHeartbeats 4000000 in
theorem f_plus (u v : Fr) (k m : Nat) (w : World) (hu : GFr k w u) (hv : GFr m w v) (hk : k + m ≤ 9000) : Calls Tryz.prog 18 #[.agg (cFr u).toArray, .agg (cFr v).toArray] w fun e w' => ∃ z : Fr, e = .returned (.agg (cFr z.t).toArray) ∧ R.Own [] w w' [rowN z.n, rowN z.d] ∧ RawF (k + m + 1) z ∧ z.q = qAdd u.q v.q := by
  have hM := R.Own.start [] w
  refine R.calls_of_WC (fn := Tryz.f18) Tryz.func18 rfl Tryz.ntmps18 (Nat.le_of_ble_eq_true rfl) ?_
  (refine R.stepU ?_; (repeat' (first | (with_reducible refine And.intro ?_ ?_) | (with_reducible intro _))); all_goals refine R.Lft.mk ?_)
  refine R.WC_planX [(0, false), (1, false), (2, false), (3, false), (5, false), (6, false), (7, false), (8, false), (11, false), (12, false), (13, false), (14, false), (4, true), (9, true), (10, true), (15, true), (16, false), (17, true)] R.mixed (by decide +kernel) R.ohm ?_
  (refine R.stepU ?_; (repeat' (first | (with_reducible refine And.intro ?_ ?_) | (with_reducible intro _))); all_goals refine R.Lft.mk ?_)
  rename_i hM
  refine R.WO_call2 rfl rfl R.vv R.vv ?_
  refine (m_mul u.n v.d k m _ (hu.1.ext (R.Own.below hM)) (hv.2.ext (R.Own.below hM)) (by omega) (by omega)).mono ?_
  rintro _ _ ⟨z1, rfl, hO1, r1, e1⟩
  have hM := R.Own.give1 hM hO1
  refine ⟨_, rfl, ?_⟩
  (refine R.stepU ?_; (repeat' (first | (with_reducible refine And.intro ?_ ?_) | (with_reducible intro _))); all_goals refine R.Lft.mk ?_)
  rename_i hM
  refine R.WO_call2 rfl rfl R.vv R.vv ?_
  refine (m_mul v.n u.d m k _ (hv.1.ext (R.Own.below hM)) (hu.2.ext (R.Own.below hM)) (by omega) (by omega)).mono ?_
  rintro _ _ ⟨z2, rfl, hO2, r2, e2⟩
  have hM := R.Own.give1 hM hO2
  refine ⟨_, rfl, ?_⟩
  (refine R.stepU ?_; (repeat' (first | (with_reducible refine And.intro ?_ ?_) | (with_reducible intro _))); all_goals refine R.Lft.mk ?_)
  rename_i hM
  refine R.WO_call2 rfl rfl R.vv R.vv ?_
  refine (m_add z1.t z2.t (k + m) _ (GNm.of hM R.memb r1) ((GNm.of hM R.memb r2).mono (by omega)) (by omega)).mono ?_
  rintro _ _ ⟨z3, rfl, hO3, r3, e3⟩
  have hM := R.Own.give1 hM hO3
  refine ⟨_, rfl, ?_⟩
  (refine R.stepU ?_; (repeat' (first | (with_reducible refine And.intro ?_ ?_) | (with_reducible intro _))); all_goals refine R.Lft.mk ?_)
  rename_i hM
  refine R.WO_call2 rfl rfl R.vv R.vv ?_
  refine (m_mul u.d v.d k m _ (hu.2.ext (R.Own.below hM)) (hv.2.ext (R.Own.below hM)) (by omega) (by omega)).mono ?_
  rintro _ _ ⟨z4, rfl, hO4, r4, e4⟩
  have hM := R.Own.give1 hM hO4
  refine ⟨_, rfl, ?_⟩
  (refine R.stepU ?_; (repeat' (first | (with_reducible refine And.intro ?_ ?_) | (with_reducible intro _))); all_goals refine R.Lft.mk ?_)
  rename_i hM
  exact ⟨⟨z3, z4⟩, rfl, R.Own.sub (R.pk (r := rowN z3) (R.pk (r := rowN z4) hM)) (List.Sublist.cons_cons _ (List.Sublist.cons_cons _ (List.nil_sublist _))), ⟨r3, r4.mono (by omega)⟩, by unfold Fr.q qAdd; dsimp only; rw [e3, Nm.t_z, Nm.t_z, e1, e2, e4]⟩
attribute [local irreducible] W512 trimN digsL dig4I in
set_option maxHeartbeats 4000000 in
theorem f_times (u v : Fr) (k m : Nat) (w : World) (hu : GFr k w u) (hv : GFr m w v) (hk : k + m ≤ 9000) : Calls Tryz.prog 19 #[.agg (cFr u).toArray, .agg (cFr v).toArray] w fun e w' => ∃ z : Fr, e = .returned (.agg (cFr z.t).toArray) ∧ R.Own [] w w' [rowN z.n, rowN z.d] ∧ RawF (k + m) z ∧ z.q = qMul u.q v.q := by
  have hM := R.Own.start [] w
  refine R.calls_of_WC (fn := Tryz.f19) Tryz.func19 rfl Tryz.ntmps19 (Nat.le_of_ble_eq_true rfl) ?_
  (refine R.stepU ?_; (repeat' (first | (with_reducible refine And.intro ?_ ?_) | (with_reducible intro _))); all_goals refine R.Lft.mk ?_)
  refine R.WC_planX [(0, false), (1, false), (2, false), (3, false), (5, false), (6, false), (7, false), (8, false), (4, true), (9, true), (10, false), (11, true)] R.mixed (by decide +kernel) R.ohm ?_
  (refine R.stepU ?_; (repeat' (first | (with_reducible refine And.intro ?_ ?_) | (with_reducible intro _))); all_goals refine R.Lft.mk ?_)
  rename_i hM
  refine R.WO_call2 rfl rfl R.vv R.vv ?_
  refine (m_mul u.n v.n k m _ (hu.1.ext (R.Own.below hM)) (hv.1.ext (R.Own.below hM)) (by omega) (by omega)).mono ?_
  rintro _ _ ⟨z1, rfl, hO1, r1, e1⟩
  have hM := R.Own.give1 hM hO1
  refine ⟨_, rfl, ?_⟩
  (refine R.stepU ?_; (repeat' (first | (with_reducible refine And.intro ?_ ?_) | (with_reducible intro _))); all_goals refine R.Lft.mk ?_)
  rename_i hM
  refine R.WO_call2 rfl rfl R.vv R.vv ?_
  refine (m_mul u.d v.d k m _ (hu.2.ext (R.Own.below hM)) (hv.2.ext (R.Own.below hM)) (by omega) (by omega)).mono ?_
  rintro _ _ ⟨z2, rfl, hO2, r2, e2⟩
  have hM := R.Own.give1 hM hO2
  refine ⟨_, rfl, ?_⟩
  (refine R.stepU ?_; (repeat' (first | (with_reducible refine And.intro ?_ ?_) | (with_reducible intro _))); all_goals refine R.Lft.mk ?_)
  rename_i hM
  exact ⟨⟨z1, z2⟩, rfl, R.Own.sub (R.pk (r := rowN z1) (R.pk (r := rowN z2) hM)) (List.Sublist.cons_cons _ (List.Sublist.cons_cons _ (List.nil_sublist _))), ⟨r1, r2⟩, by unfold Fr.q qMul; dsimp only; rw [e1, e2]⟩
attribute [local irreducible] W512 trimN digsL dig4I in
set_option maxHeartbeats 4000000 in
theorem f_over (u v : Fr) (k m : Nat) (w : World) (hu : GFr k w u) (hv : GFr m w v) (hk : k + m ≤ 9000) : Calls Tryz.prog 41 #[.agg (cFr u).toArray, .agg (cFr v).toArray] w fun e w' => ∃ z : Fr, e = .returned (.agg (cFr z.t).toArray) ∧ R.Own [] w w' [rowN z.n, rowN z.d] ∧ RawF (k + m) z ∧ z.q = qOver u.q v.q := by
  have hM := R.Own.start [] w
  refine R.calls_of_WC (fn := Tryz.f41) Tryz.func41 rfl Tryz.ntmps41 (Nat.le_of_ble_eq_true rfl) ?_
  (refine R.stepU ?_; (repeat' (first | (with_reducible refine And.intro ?_ ?_) | (with_reducible intro _))); all_goals refine R.Lft.mk ?_)
  refine R.WC_planX [(0, false), (1, false), (2, false), (3, false), (5, false), (6, false), (7, false), (8, false), (4, true), (9, true), (10, false), (11, true)] R.mixed (by decide +kernel) R.ohm ?_
  (refine R.stepU ?_; (repeat' (first | (with_reducible refine And.intro ?_ ?_) | (with_reducible intro _))); all_goals refine R.Lft.mk ?_)
  rename_i hM
  refine R.WO_call2 rfl rfl R.vv R.vv ?_
  refine (m_mul u.n v.d k m _ (hu.1.ext (R.Own.below hM)) (hv.2.ext (R.Own.below hM)) (by omega) (by omega)).mono ?_
  rintro _ _ ⟨z1, rfl, hO1, r1, e1⟩
  have hM := R.Own.give1 hM hO1
  refine ⟨_, rfl, ?_⟩
  (refine R.stepU ?_; (repeat' (first | (with_reducible refine And.intro ?_ ?_) | (with_reducible intro _))); all_goals refine R.Lft.mk ?_)
  rename_i hM
  refine R.WO_call2 rfl rfl R.vv R.vv ?_
  refine (m_mul u.d v.n k m _ (hu.2.ext (R.Own.below hM)) (hv.1.ext (R.Own.below hM)) (by omega) (by omega)).mono ?_
  rintro _ _ ⟨z2, rfl, hO2, r2, e2⟩
  have hM := R.Own.give1 hM hO2
  refine ⟨_, rfl, ?_⟩
  (refine R.stepU ?_; (repeat' (first | (with_reducible refine And.intro ?_ ?_) | (with_reducible intro _))); all_goals refine R.Lft.mk ?_)
  rename_i hM
  exact ⟨⟨z1, z2⟩, rfl, R.Own.sub (R.pk (r := rowN z1) (R.pk (r := rowN z2) hM)) (List.Sublist.cons_cons _ (List.Sublist.cons_cons _ (List.nil_sublist _))), ⟨r1, r2⟩, by unfold Fr.q qOver; dsimp only; rw [e1, e2]⟩
attribute [local irreducible] W512 trimN digsL dig4I in
set_option maxHeartbeats 4000000 in
theorem f_minus (u v : Fr) (k m : Nat) (w : World) (hu : GFr k w u) (hv : GFr m w v) (hk : k + m ≤ 9000) : Calls Tryz.prog 14 #[.agg (cFr u).toArray, .agg (cFr v).toArray] w fun e w' => ∃ z : Fr, e = .returned (.agg (cFr z.t).toArray) ∧ R.Own [] w w' [rowN z.n, rowN z.d] ∧ RawF (k + m + 1) z ∧ z.q = qSub u.q v.q := by
  have hM := R.Own.start [] w
  refine R.calls_of_WC (fn := Tryz.f14) Tryz.func14 rfl Tryz.ntmps14 (Nat.le_of_ble_eq_true rfl) ?_
  (refine R.stepU ?_; (repeat' (first | (with_reducible refine And.intro ?_ ?_) | (with_reducible intro _))); all_goals refine R.Lft.mk ?_)
  refine R.WC_planX [(0, false), (1, false), (2, false), (4, false), (5, false), (3, true), (6, false), (7, true), (8, true)] R.mixed (by decide +kernel) R.ohm ?_
  (refine R.stepU ?_; (repeat' (first | (with_reducible refine And.intro ?_ ?_) | (with_reducible intro _))); all_goals refine R.Lft.mk ?_)
  rename_i hM
  refine R.WO_call1 rfl rfl R.vv ?_
  refine (n30_less v.n _).mono ?_
  rintro _ _ ⟨rfl, hb1⟩
  have hM := R.Own.call hM hb1
  refine ⟨_, rfl, ?_⟩
  (refine R.stepU ?_; (repeat' (first | (with_reducible refine And.intro ?_ ?_) | (with_reducible intro _))); all_goals refine R.Lft.mk ?_)
  rename_i hM
  refine R.WO_call2 rfl rfl R.vv R.vv ?_
  refine (f_plus u ⟨⟨!v.n.neg, v.n.A, v.n.n, v.n.c, v.n.L⟩, v.d⟩ k m _ (hu.ext (R.Own.below hM)) ⟨(hv.1.ext (R.Own.below hM)).neg, hv.2.ext (R.Own.below hM)⟩ hk).mono ?_
  rintro _ _ ⟨z, rfl, hO, r, e1⟩
  have hM := R.Own.give2 hM hO
  refine ⟨_, rfl, ?_⟩
  (refine R.stepU ?_; (repeat' (first | (with_reducible refine And.intro ?_ ?_) | (with_reducible intro _))); all_goals refine R.Lft.mk ?_)
  rename_i hM
  exact ⟨z, rfl, R.Own.sub (R.pk (r := rowN z.n) (R.pk (r := rowN z.d) hM)) (List.Sublist.cons_cons _ (List.Sublist.cons_cons _ (List.nil_sublist _))), r, by rw [e1]; unfold Fr.q qSub; dsimp only; rw [nm_less]⟩
attribute [local irreducible] W512 trimN digsL dig4I in
set_option maxHeartbeats 4000000 in
theorem f_cmp (u v : Fr) (k m : Nat) (w : World) (hu : GFr k w u) (hv : GFr m w v) (hk : k + m ≤ 9000) : Calls Tryz.prog 21 #[.agg (cFr u).toArray, .agg (cFr v).toArray] w fun e w' => e = .returned (.int .i64 (cmpZ (u.q.1 * v.q.2) (v.q.1 * u.q.2))) ∧ Below w.heap.size w w' := by
  have hM := R.Own.start [] w
  refine R.calls_of_WC (fn := Tryz.f21) Tryz.func21 rfl Tryz.ntmps21 (Nat.le_of_ble_eq_true rfl) ?_
  (refine R.stepU ?_; (repeat' (first | (with_reducible refine And.intro ?_ ?_) | (with_reducible intro _))); all_goals refine R.Lft.mk ?_)
  refine R.WC_planX [(0, false), (1, false), (2, false), (3, false), (5, false), (6, false), (7, false), (8, false), (4, true), (9, true), (10, true), (11, true), (12, true), (13, false)] R.mixed (by decide +kernel) R.ohm ?_
  (refine R.stepU ?_; (repeat' (first | (with_reducible refine And.intro ?_ ?_) | (with_reducible intro _))); all_goals refine R.Lft.mk ?_)
  rename_i hM
  refine R.WO_call2 rfl rfl R.vv R.vv ?_
  refine (m_mul u.n v.d k m _ (hu.1.ext (R.Own.below hM)) (hv.2.ext (R.Own.below hM)) (by omega) (by omega)).mono ?_
  rintro _ _ ⟨z1, rfl, hO1, r1, e1⟩
  have hM := R.Own.give1 hM hO1
  refine ⟨_, rfl, ?_⟩
  (refine R.stepU ?_; (repeat' (first | (with_reducible refine And.intro ?_ ?_) | (with_reducible intro _))); all_goals refine R.Lft.mk ?_)
  rename_i hM
  refine R.WO_call2 rfl rfl R.vv R.vv ?_
  refine (m_mul v.n u.d m k _ (hv.1.ext (R.Own.below hM)) (hu.2.ext (R.Own.below hM)) (by omega) (by omega)).mono ?_
  rintro _ _ ⟨z2, rfl, hO2, r2, e2⟩
  have hM := R.Own.give1 hM hO2
  refine ⟨_, rfl, ?_⟩
  (refine R.stepU ?_; (repeat' (first | (with_reducible refine And.intro ?_ ?_) | (with_reducible intro _))); all_goals refine R.Lft.mk ?_)
  rename_i hM
  refine R.WO_call1 rfl rfl R.vv ?_
  refine (n30_less z2.t _).mono ?_
  rintro _ _ ⟨rfl, hb1⟩
  have hM := R.Own.call hM hb1
  refine ⟨_, rfl, ?_⟩
  (refine R.stepU ?_; (repeat' (first | (with_reducible refine And.intro ?_ ?_) | (with_reducible intro _))); all_goals refine R.Lft.mk ?_)
  rename_i hM
  refine R.WO_call2 rfl rfl R.vv R.vv ?_
  refine (m_add z1.t ⟨!z2.t.neg, z2.t.A, z2.t.n, z2.t.c, z2.t.L⟩ (k + m) _ (GNm.of hM R.memb r1) ((GNm.of hM R.memb r2).mono (by omega)).neg (by omega)).mono ?_
  rintro _ _ ⟨z3, rfl, hO3, r3, e3⟩
  have hM := R.Own.give1 hM hO3
  refine ⟨_, rfl, ?_⟩
  (refine R.stepU ?_; (repeat' (first | (with_reducible refine And.intro ?_ ?_) | (with_reducible intro _))); all_goals refine R.Lft.mk ?_)
  rename_i hM
  refine R.WO_call1 rfl rfl R.vv ?_
  refine (n30_sign z3.t (k + m + 1) _ (GNm.of hM R.memb r3) (by omega)).mono ?_
  rintro _ _ ⟨rfl, hb2⟩
  have hM := R.Own.call hM hb2
  refine ⟨_, rfl, ?_⟩
  (refine R.stepU ?_; (repeat' (first | (with_reducible refine And.intro ?_ ?_) | (with_reducible intro _))); all_goals refine R.Lft.mk ?_)
  rename_i hM
  exact ⟨by rw [Nm.t_z, e3, Nm.t_z, nm_less, Nm.t_z, cmpZ_sub, e1, e2]; rfl, R.Own.below hM⟩
end Go.Proofs.YtebgjcginmgoaaaGreat
namespace Go.Proofs.YtebgjcginmgoaaaGreat.R
open Go.RowKit

/-- Calls, one behind the other. -/
def tr0 (r : PT) : List Nat → PT
  | [] => r
  | c :: cs => .e c (tr0 r cs)
/-- .. while one thing is still to be laid. -/
def tr1 (b : Nat) (r : PT) : List Nat → PT
  | [] => .e b r
  | c :: cs => .f c b (tr1 b r cs) (tr0 r (c :: cs))
/-- .. while two are. -/
def tr2 (a b : Nat) (r : PT) : List Nat → PT
  | [] => .f a b (tr1 b r []) (tr1 a r [])
  | c :: cs => .g c a b (tr2 a b r cs) (tr1 b r (c :: cs)) (tr1 a r (c :: cs))
abbrev Zs := List (Nat × Value × List Res)
def slz (zs : Zs) : List (Nat × Value) := zs.map fun e => (e.1, e.2.1)
def rsz (zs : Zs) : List Res := zs.flatMap fun e => e.2.2
theorem agrees_app {f : Fr} : ∀ {l m : List (Nat × Value)}, Agrees f (l ++ m) ↔ Agrees f l ∧ Agrees f m
  | [], _ => ⟨fun h => ⟨trivial, h⟩, fun h => h.2⟩
  | (_, _) :: _, _ => ⟨fun h => ⟨⟨h.1, (agrees_app.1 h.2).1⟩, (agrees_app.1 h.2).2⟩, fun h => ⟨h.1.1, agrees_app.2 ⟨h.1.2, h.2⟩⟩⟩
theorem agrees_upd {f : Fr} {d : Nat} {v : Value} : ∀ {l : List (Nat × Value)}, Agrees f l → (∀ p ∈ l, p.1 ≠ d) → Agrees (upd f d v) l
  | [], _, _ => trivial
  | (e, u) :: l, h, hk => ⟨by
      have hn : e ≠ d := hk (e, u) (.head _)
      show (upd f d v) e = u
      unfold upd
      have hb : Nat.beq e d = false := by
        cases hb : Nat.beq e d with
        | false => rfl
        | true => exact absurd (Nat.eq_of_beq_eq_true hb) hn
      rw [hb]
      exact h.1, agrees_upd h.2 fun p hp => hk p (.tail _ hp)⟩
theorem upd_at {f : Fr} {d : Nat} {v : Value} : (upd f d v) d = v := by
  unfold upd
  rw [show Nat.beq d d = true from Nat.beq_refl d]
  rfl
section
variable {P : Program} {ops : Array Oper} {n : Nat} {F : List Nat} {W : World} {base : List Res} {K : Fr → World → Prop} (Pz : Nat → Zs → Prop) (sl0 : List (Nat × Value)) (da db : Nat)
def Chain (P : Program) (ops : Array Oper) (n : Nat) (F : List Nat) (W : World) (base : List Res) (Pz : Nat → Zs → Prop) (sl0 : List (Nat × Value)) (da db : Nat) : Nat → List Nat → List (Nat × Nat) → Prop
  | _, _, [] => True
  | k, ks, (c, d) :: l => (∃ op ty p af, ops[c]? = some ⟨some d, op, ty, p, af, none⟩ ∧ Nat.blt d n = true ∧ (d ≠ da ∧ d ≠ db ∧ d ∉ ks) ∧ ∀ zs Y X f w, Pz k zs → Own F W w (rsz zs ++ (base ++ X)) →
      WO P (callT P) ⟨some d, op, ty, p, af, none⟩ (over (slz zs ++ (sl0 ++ Y)) f) w fun v w' => ∃ r, Pz (k + 1) ((d, v, r) :: zs) ∧ Own F W w' (r ++ (rsz zs ++ (base ++ X)))) ∧ Chain P ops n F W base Pz sl0 da db (k + 1) (d :: ks) l
structure St (F : List Nat) (W : World) (base : List Res) (Pz : Nat → Zs → Prop) (sl0 : List (Nat × Value)) (da db : Nat) (k : Nat) (ks : List Nat) (zs : Zs) (Y : List (Nat × Value)) (X : List Res) (f : Fr) (w : World) : Prop where
  pz : Pz k zs
  keys : ∀ p ∈ slz zs ++ sl0, p.1 ∈ ks
  ky : ∀ p ∈ Y, p.1 = da ∨ p.1 = db
  ag : Agrees f (slz zs ++ (sl0 ++ Y))
  own : Own F W w (rsz zs ++ (base ++ X))
variable {Pz sl0 da db}
theorem base_of {w : World} {l X : List Res} (h : Own F W w (l ++ (base ++ X))) : Own F W w base := h.sub ((List.sublist_append_left base X).trans (List.sublist_append_right _ _))
theorem St.call {k : Nat} {ks : List Nat} {zs : Zs} {Y : List (Nat × Value)} {X : List Res} {f : Fr} {w w' : World} {d : Nat} {v : Value} {r : List Res} (h : St F W base Pz sl0 da db k ks zs Y X f w) (hd : d ≠ da ∧ d ≠ db ∧ d ∉ ks) (hp : Pz (k + 1) ((d, v, r) :: zs)) (ho : Own F W w' (r ++ (rsz zs ++ (base ++ X)))) :
    St F W base Pz sl0 da db (k + 1) (d :: ks) ((d, v, r) :: zs) Y X (upd f d v) w' where
  pz := hp
  keys := fun p hp => by
    rcases List.mem_cons.1 (show p ∈ (d, v) :: (slz zs ++ sl0) from hp) with e | e
    · rw [e]; exact .head _
    · exact .tail _ (h.keys p e)
  ky := h.ky
  ag := by
    refine ⟨upd_at, agrees_upd h.ag fun p hp e => ?_⟩
    have hp : p ∈ slz zs ++ (sl0 ++ Y) := hp
    rw [← List.append_assoc] at hp
    rcases List.mem_append.1 hp with q | q
    · exact hd.2.2 (by rw [← e]; exact h.keys p q)
    · rcases h.ky p q with g | g
      · exact hd.1 (by rw [← e, g])
      · exact hd.2.1 (by rw [← e, g])
  own := by
    show Own F W w' ((r ++ rsz zs) ++ (base ++ X))
    rw [List.append_assoc]
    exact ho
theorem chain0 {r : PT} {Y : List (Nat × Value)} {X : List Res} : ∀ (l : List (Nat × Nat)) (k : Nat) (ks : List Nat) (zs : Zs) (f : Fr) (w : World), Chain P ops n F W base Pz sl0 da db k ks l → St F W base Pz sl0 da db k ks zs Y X f w →
    (∀ zs f w, Pz (k + l.length) zs → Agrees f (slz zs ++ (sl0 ++ Y)) → Own F W w (rsz zs ++ (base ++ X)) → WT P ops n (fun w2 => Own F W w2 base) (fun w2 => Own F W w2 base) K r f w) → WT P ops n (fun w2 => Own F W w2 base) (fun w2 => Own F W w2 base) K (tr0 r (l.map Prod.fst)) f w
  | [], k, ks, zs, f, w, _, hS, hr => hr zs f w hS.pz hS.ag hS.own
  | (c, d) :: l, k, ks, zs, f, w, ⟨⟨op, ty, p, af, h1, h2, h3, h4⟩, hC⟩, hS, hr => by
    refine WT_e (WT_e0 h1 h2 ?_)
    have h := h4 zs Y X f w hS.pz hS.own
    rw [over_agrees hS.ag] at h
    refine WO_mono h ?_
    rintro v w' ⟨r1, hp, ho⟩
    exact ⟨base_of (l := r1 ++ rsz zs) (by rw [List.append_assoc]; exact ho), chain0 l (k + 1) (d :: ks) _ _ w' hC (hS.call h3 hp ho) (by
      rw [show k + 1 + l.length = k + (l.length + 1) by omega]
      exact hr)⟩
theorem St.laid {k : Nat} {ks : List Nat} {zs : Zs} {Y : List (Nat × Value)} {X : List Res} {f : Fr} {w w' : World} {d : Nat} {v : Value} {b : Res} (h : St F W base Pz sl0 da db k ks zs Y X f w) (hd : d = da ∨ d = db) (hk : d ∉ ks) (hy : ∀ p ∈ Y, p.1 ≠ d) (ho : Own F W w' (b :: (rsz zs ++ (base ++ X)))) :
    St F W base Pz sl0 da db k ks zs (Y ++ [(d, v)]) (X ++ [b]) (upd f d v) w' where
  pz := h.pz
  keys := h.keys
  ky := fun p hp => by
    rcases List.mem_append.1 hp with q | q
    · exact h.ky p q
    · rw [List.mem_singleton.1 q]; exact hd
  ag := by
    rw [← List.append_assoc, ← List.append_assoc]
    refine agrees_app.2 ⟨agrees_upd (by rw [List.append_assoc]; exact h.ag) fun p hp e => ?_, upd_at, trivial⟩
    rcases List.mem_append.1 hp with q | q
    · exact hk (by rw [← e]; exact h.keys p q)
    · exact hy p q e
  own := by
    rw [← List.append_assoc, ← List.append_assoc]
    exact ho.perm (by rw [← List.append_assoc]; exact List.perm_append_comm (l₁ := _) (l₂ := [b]))
theorem chain1 {r : PT} {Y : List (Nat × Value)} {X : List Res} {b d : Nat} {tb ty : TypeId} {p : String} {af : Array Edge} {zb : Value} [ZeroT P tb zb] (hb : ops[b]? = some ⟨some d, .alloc tb, ty, p, af, none⟩) (hbn : Nat.blt d n = true) (hd : d = da ∨ d = db) (hy : ∀ p ∈ Y, p.1 ≠ d) :
    ∀ (l : List (Nat × Nat)) (k : Nat) (ks : List Nat) (zs : Zs) (f : Fr) (w : World), Chain P ops n F W base Pz sl0 da db k ks l → St F W base Pz sl0 da db k ks zs Y X f w → d ∉ ks →
    (∀ zs g f w, Pz (k + l.length) zs → Agrees f (slz zs ++ (sl0 ++ (Y ++ [(d, .pointer (some ⟨g, 0, none⟩))]))) → Own F W w (rsz zs ++ (base ++ (X ++ [.blk g tb zb.cells.toList]))) → WT P ops n (fun w2 => Own F W w2 base) (fun w2 => Own F W w2 base) K r f w) → WT P ops n (fun w2 => Own F W w2 base) (fun w2 => Own F W w2 base) K (tr1 b r (l.map Prod.fst)) f w
  | [], k, ks, zs, f, w, _, hS, hk, hr => by
    refine WT_e (WT_e0 hb hbn ?_)
    refine WO_allocO rfl hS.own fun g w' ho => ?_
    have hS2 := hS.laid (v := .pointer (some ⟨g, 0, none⟩)) hd hk hy ho
    exact ⟨base_of hS2.own, hr zs g _ _ hS2.pz hS2.ag hS2.own⟩
  | (c, e) :: l, k, ks, zs, f, w, hCC@⟨⟨op, ty', p', af', h1, h2, h3, h4⟩, hC⟩, hS, hk, hr => by
    refine WT_f ⟨WT_e0 h1 h2 ?_, WT_e0 hb hbn ?_⟩
    · have h := h4 zs Y X f w hS.pz hS.own
      rw [over_agrees hS.ag] at h
      refine WO_mono h ?_
      rintro v w' ⟨r1, hp, ho⟩
      refine ⟨base_of (l := r1 ++ rsz zs) (by rw [List.append_assoc]; exact ho), chain1 hb hbn hd hy l (k + 1) (e :: ks) _ _ w' hC (hS.call h3 hp ho) ?_ (by
        rw [show k + 1 + l.length = k + (l.length + 1) by omega]
        exact hr)⟩
      intro hm
      rcases List.mem_cons.1 hm with q | q
      · rcases hd with g | g
        · exact h3.1 (by rw [← q, g])
        · exact h3.2.1 (by rw [← q, g])
      · exact hk q
    · refine WO_allocO rfl hS.own fun g w' ho => ?_
      have hS2 := hS.laid (v := .pointer (some ⟨g, 0, none⟩)) hd hk hy ho
      exact ⟨base_of hS2.own, chain0 ((c, e) :: l) k ks zs _ w' hCC hS2 fun zs f w => hr zs g f w⟩
theorem chain2 {r : PT} {a b : Nat} {ta tya tb tyb : TypeId} {pa pb : String} {afa afb : Array Edge} {za zb : Value} [ZeroT P ta za] [ZeroT P tb zb] (ha : ops[a]? = some ⟨some da, .alloc ta, tya, pa, afa, none⟩) (hb : ops[b]? = some ⟨some db, .alloc tb, tyb, pb, afb, none⟩) (han : Nat.blt da n = true) (hbn : Nat.blt db n = true) (hab : da ≠ db) :
    ∀ (l : List (Nat × Nat)) (k : Nat) (ks : List Nat) (zs : Zs) (f : Fr) (w : World), Chain P ops n F W base Pz sl0 da db k ks l → St F W base Pz sl0 da db k ks zs [] [] f w → da ∉ ks → db ∉ ks →
    (∀ zs g g' f w, Pz (k + l.length) zs → Agrees f (slz zs ++ (sl0 ++ [(da, .pointer (some ⟨g, 0, none⟩)), (db, .pointer (some ⟨g', 0, none⟩))])) → Own F W w (rsz zs ++ (base ++ [.blk g ta za.cells.toList, .blk g' tb zb.cells.toList])) → WT P ops n (fun w2 => Own F W w2 base) (fun w2 => Own F W w2 base) K r f w) → WT P ops n (fun w2 => Own F W w2 base) (fun w2 => Own F W w2 base) K (tr2 a b r (l.map Prod.fst)) f w := by
  intro l k ks zs f w hC hS hka hkb hr
  have two : ∀ (m : List (Nat × Nat)) (k' : Nat) (ks' : List Nat) (zs' : Zs) (f' : Fr) (w' : World), k' + m.length = k + l.length → Chain P ops n F W base Pz sl0 da db k' ks' m → St F W base Pz sl0 da db k' ks' zs' [] [] f' w' → da ∉ ks' → db ∉ ks' →
      WE P ops n (fun w2 => Own F W w2 base) (fun w2 => Own F W w2 base) K a (tr1 b r (m.map Prod.fst)) f' w' ∧ WE P ops n (fun w2 => Own F W w2 base) (fun w2 => Own F W w2 base) K b (tr1 a r (m.map Prod.fst)) f' w' := fun m k' ks' zs' f' w' hkl hC hS hka hkb => by
    refine ⟨WT_e0 ha han (WO_allocO rfl hS.own fun g w'' ho => ?_), WT_e0 hb hbn (WO_allocO rfl hS.own fun g w'' ho => ?_)⟩
    · have hS2 := hS.laid (v := .pointer (some ⟨g, 0, none⟩)) (.inl rfl) hka (fun p hp => by cases hp) ho
      refine ⟨base_of hS2.own, chain1 (zb := zb) hb hbn (.inr rfl) (fun p hp => by rw [List.mem_singleton.1 hp]; exact hab) m k' ks' zs' _ w'' hC hS2 hkb fun zs g' f w => ?_⟩
      rw [hkl]
      exact hr zs g g' f w
    · have hS2 := hS.laid (v := .pointer (some ⟨g, 0, none⟩)) (.inr rfl) hkb (fun p hp => by cases hp) ho
      refine ⟨base_of hS2.own, chain1 (zb := za) ha han (.inl rfl) (fun p hp => by rw [List.mem_singleton.1 hp]; exact fun e => hab e.symm) m k' ks' zs' _ w'' hC hS2 hka fun zs g' f w => ?_⟩
      rw [hkl]
      intro h1 h2 h3
      refine hr zs g' g f w h1 ?_ (h3.perm ?_)
      · rw [← List.append_assoc] at h2 ⊢
        obtain ⟨q1, q2, q3, -⟩ := agrees_app.1 h2
        exact agrees_app.2 ⟨q1, q3, q2, trivial⟩
      · exact List.Perm.append_left _ (List.Perm.append_left _ (List.Perm.swap _ _ _))
  have main : ∀ (m : List (Nat × Nat)) (k' : Nat) (ks' : List Nat) (zs' : Zs) (f' : Fr) (w' : World), k' + m.length = k + l.length → Chain P ops n F W base Pz sl0 da db k' ks' m → St F W base Pz sl0 da db k' ks' zs' [] [] f' w' → da ∉ ks' → db ∉ ks' →
      WT P ops n (fun w2 => Own F W w2 base) (fun w2 => Own F W w2 base) K (tr2 a b r (m.map Prod.fst)) f' w' := fun m => by
    induction m with
    | nil =>
      intro k' ks' zs' f' w' hkl hC hS hka hkb
      obtain ⟨h1, h2⟩ := two [] k' ks' zs' f' w' hkl hC hS hka hkb
      exact WT_f ⟨h1, h2⟩
    | cons cd m ih =>
      obtain ⟨c, e⟩ := cd
      intro k' ks' zs' f' w' hkl hC hS hka hkb
      obtain ⟨h1, h2⟩ := two ((c, e) :: m) k' ks' zs' f' w' hkl hC hS hka hkb
      obtain ⟨⟨op, ty, p, af, q1, q2, q3, q4⟩, hC2⟩ := hC
      refine WT_g ⟨WT_e0 q1 q2 ?_, h1, h2⟩
      have h := q4 zs' [] [] f' w' hS.pz hS.own
      rw [over_agrees hS.ag] at h
      refine WO_mono h ?_
      rintro v w'' ⟨r1, hp, ho⟩
      refine ⟨base_of (l := r1 ++ rsz zs') (by rw [List.append_assoc]; exact ho), ih (k' + 1) (e :: ks') _ _ w'' (by rw [← hkl]; show k' + 1 + m.length = k' + (m.length + 1); omega) hC2 (hS.call q3 hp ho) ?_ ?_⟩
      · intro hm
        rcases List.mem_cons.1 hm with g | g
        · exact q3.1 g.symm
        · exact hka g
      · intro hm
        rcases List.mem_cons.1 hm with g | g
        · exact q3.2.1 g.symm
        · exact hkb g
  exact main l k ks zs f w rfl hC hS hka hkb
end
attribute [irreducible] tr0 tr1 tr2
end Go.Proofs.YtebgjcginmgoaaaGreat.R
