/- snicketref30.Cmp, far.Cmp, how long fractions are. -/
import Derived.Test.YtebgjcginmgoaaaGreatFn
import Derived.Test.YtebgjcginmgoaaaGreatFe
namespace Go.Proofs.YtebgjcginmgoaaaGreat
open Go.RowKit
open R (In64 InU64 lo64 nth)

structure Fr where
  n : Nm
  d : Nm
instance inh_Fr : Inhabited Fr := ⟨⟨default, default⟩⟩
def cFr (x : Fr) : List Value := cNm x.n ++ cNm x.d
instance encc_Fr : R.EncC cFr 4 := ⟨fun _ => rfl, by simp [cFr, cNm, Value.oneCell'], by decide⟩
instance enct_Fr : R.EncT Tryz.prog 45 Fr cFr 4 := {}
section
variable {C : R.CallH} {o : Oper} {f : R.Fr} {F : List Nat} {W0 w : World} {K : Value → World → Prop} {l : List R.Res} {t u : TypeId} {x y : Operand} {g : Nat} {p : Fr} {a b : Nm}
theorem WO_ldFn (hop : o.op = .load t x) (hx : R.ev f x = .pointer (some ⟨g, 0, none⟩)) [R.KindT Tryz.prog t true] [R.SzT Tryz.prog t 2] (hM : R.Own F W0 w l) (hm : .blk g u (cFr p) ∈ l) (hk : K (.agg (cNm p.n).toArray) w) : R.WO Tryz.prog C o f w K :=
  R.WO_loadOP (j := 0) (m := 2) (cs := cFr p) hop hx rfl hM hm rfl (by
    have e : List.take 2 (List.drop 0 (cFr p)) = cNm p.n := rfl
    rw [e]; exact hk)
theorem WO_ldFd (hop : o.op = .load t x) (hx : R.ev f x = .pointer (some ⟨g, 2, none⟩)) [R.KindT Tryz.prog t true] [R.SzT Tryz.prog t 2] (hM : R.Own F W0 w l) (hm : .blk g u (cFr p) ∈ l) (hk : K (.agg (cNm p.d).toArray) w) : R.WO Tryz.prog C o f w K :=
  R.WO_loadOP (j := 2) (m := 2) (cs := cFr p) hop hx rfl hM hm rfl (by
    have e : List.take 2 (List.drop 2 (cFr p)) = cNm p.d := rfl
    rw [e]; exact hk)
theorem WO_bdFr (hop : o.op = .build 45 #[(0, x), (1, y)]) (hx : R.ev f x = .agg (cNm a).toArray) (hy : R.ev f y = .agg (cNm b).toArray) (hk : K (.agg (cFr ⟨a, b⟩).toArray) w) : R.WO Tryz.prog C o f w K :=
  R.WO_buildN2 hop hx hy rfl rfl (by rfl) (by (simp only [R.putA, List.getD_cons_zero, List.getD_cons_succ]) <;> rfl) hk
end
theorem nm_less (x : Nm) : (⟨!x.neg, x.A, x.n, x.c, x.L⟩ : Nm).z = -x.z := by
  unfold Nm.z
  cases x.neg <;> simp
theorem cmpZ_sub (p q : Int) : cmpZ (p + -q) 0 = cmpZ p q := by
  unfold cmpZ
  split <;> split <;> (try split) <;> (try split) <;> omega
set_option maxHeartbeats 2000000 in
theorem n30_cmp (u v : Fr) (w : World) (h1 : GNm 32 w u.n) (h2 : GNm 32 w u.d) (h3 : GNm 32 w v.n) (h4 : GNm 32 w v.d) : Calls Tryz.prog 21 #[.agg (cFr u).toArray, .agg (cFr v).toArray] w fun e w' => e = .returned (.int .i64 (cmpZ (u.n.z * v.d.z) (v.n.z * u.d.z))) ∧ Below w.heap.size w w' := by
  have hM := R.Own.start [] w
  refine R.calls_of_WC (fn := Tryz.f21) Tryz.func21 rfl Tryz.ntmps21 (Nat.le_of_ble_eq_true rfl) ?_
  (refine R.stepU ?_; (repeat' (first | (with_reducible refine And.intro ?_ ?_) | (with_reducible intro _))); all_goals refine R.Lft.mk ?_)
  refine R.WC_planX [(0, false), (1, false), (2, false), (3, false), (5, false), (6, false), (7, false), (8, false), (4, true), (9, true), (10, true), (11, true), (12, true), (13, false)] R.mixed (by decide +kernel) R.ohm ?_
  (refine R.stepU ?_; (repeat' (first | (with_reducible refine And.intro ?_ ?_) | (with_reducible intro _))); all_goals refine R.Lft.mk ?_)
  rename_i hM
  refine R.WO_call2 rfl rfl R.vv R.vv ?_
  refine (n30_mul u.n v.d 32 32 _ (h1.ext (R.Own.below hM)) (h4.ext (R.Own.below hM)) (by decide) (by decide)).mono ?_
  rintro _ w3 ⟨z1, rfl, hb3, g1, e1⟩
  have hM := hM.call hb3
  refine ⟨_, rfl, ?_⟩
  (refine R.stepU ?_; (repeat' (first | (with_reducible refine And.intro ?_ ?_) | (with_reducible intro _))); all_goals refine R.Lft.mk ?_)
  refine R.WO_call2 rfl rfl R.vv R.vv ?_
  refine (n30_mul v.n u.d 32 32 _ (h3.ext (R.Own.below hM)) (h2.ext (R.Own.below hM)) (by decide) (by decide)).mono ?_
  rintro _ w4 ⟨z2, rfl, hb4, g2, e2⟩
  have hM := hM.call hb4
  refine ⟨_, rfl, ?_⟩
  (refine R.stepU ?_; (repeat' (first | (with_reducible refine And.intro ?_ ?_) | (with_reducible intro _))); all_goals refine R.Lft.mk ?_)
  refine R.WO_call1 rfl rfl R.vv ?_
  refine (n30_less z2 _).mono ?_
  rintro _ w5 ⟨rfl, hb5⟩
  have hM := hM.call hb5
  refine ⟨_, rfl, ?_⟩
  (refine R.stepU ?_; (repeat' (first | (with_reducible refine And.intro ?_ ?_) | (with_reducible intro _))); all_goals refine R.Lft.mk ?_)
  refine R.WO_call2 rfl rfl R.vv R.vv ?_
  refine (n30_add z1 ⟨!z2.neg, z2.A, z2.n, z2.c, z2.L⟩ 64 _ ((g1.ext hb4).ext hb5) (g2.ext hb5) (by decide)).mono ?_
  rintro _ w6 ⟨z3, rfl, hb6, g3, e3⟩
  have hM := hM.call hb6
  refine ⟨_, rfl, ?_⟩
  (refine R.stepU ?_; (repeat' (first | (with_reducible refine And.intro ?_ ?_) | (with_reducible intro _))); all_goals refine R.Lft.mk ?_)
  refine R.WO_call1 rfl rfl R.vv ?_
  refine (n30_sign z3 65 _ g3 (by decide)).mono ?_
  rintro _ w7 ⟨rfl, hb7⟩
  have hM := hM.call hb7
  refine ⟨_, rfl, ?_⟩
  (refine R.stepU ?_; (repeat' (first | (with_reducible refine And.intro ?_ ?_) | (with_reducible intro _))); all_goals refine R.Lft.mk ?_)
  exact ⟨by rw [e3, nm_less, cmpZ_sub, e1, e2], R.Own.below (by assumption)⟩
/-- What must hold of fractions that are compared. -/
def okN (a : Rt) : Bool := !decide (a.den.n = 0) && decide (a.num = sgn a.num.z)
def fcmpE (a b : Rt) : Int := if okN a && okN b then (if shortB a && shortB b then 0 else 6) else 1
def fcmpV (a b : Rt) : Int := if fcmpE a b = 0 then cmpZ (resZ (a.num.z * (⟨false, b.den⟩ : Sg).z)).z (resZ (b.num.z * (⟨false, a.den⟩ : Sg).z)).z else 0
theorem both_ {a b : Bool} (h : (!a) = false) (g : (!b) = false) : (a && b) = true := by cases a <;> cases b <;> simp at h g ⊢
attribute [local irreducible] W512 digsL in
set_option maxHeartbeats 2000000 in
instance con_long30 (a : Rt) : R.ConB Tryz.prog 20 #[.agg (cR a).toArray] Unit (fun _ _ => True) (fun _ => .bool (!shortB a)) := ⟨fun _ w _ => by
  have hM := R.Own.start [] w
  have d1 := digsL_dig a.num.mag.n 32
  have d2 := digsL_dig a.den.n 32
  have d3 := digsL_len a.num.mag.n 32
  have d4 := digsL_len a.den.n 32
  have d5 := digsL_whole a.num.mag
  have d6 := digsL_whole a.den
  refine R.calls_of_WC (fn := Tryz.f20) Tryz.func20 rfl Tryz.ntmps20 (Nat.le_of_ble_eq_true rfl) ?_
  (refine R.stepU ?_; (repeat' (first | (with_reducible refine And.intro ?_ ?_) | (with_reducible intro _))); all_goals refine R.Lft.mk ?_)
  · refine ⟨?_, R.Own.below (by assumption)⟩
    have h : 250 < ((bitLen (dv (digsL a.num.mag.n 32)) : Nat) : Int) := by assumption
    rw [d5] at h
    unfold shortB
    rw [decide_eq_false (by omega)]
    rfl
  · refine ⟨?_, R.Own.below (by assumption)⟩
    have h : ¬ 250 < ((bitLen (dv (digsL a.num.mag.n 32)) : Nat) : Int) := by assumption
    rw [d5] at h
    rw [d6]
    unfold shortB
    rw [decide_eq_true (show ((bitLen a.num.mag.n : Nat) : Int) ≤ 250 by omega)]
    by_cases g : ((bitLen a.den.n : Nat) : Int) ≤ 250
    · rw [decide_eq_true g, decide_eq_false (by omega)]; rfl
    · rw [decide_eq_false g, decide_eq_true (by omega)]; rfl⟩
end Go.Proofs.YtebgjcginmgoaaaGreat
