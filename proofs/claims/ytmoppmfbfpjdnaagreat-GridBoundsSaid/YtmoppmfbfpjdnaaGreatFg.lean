/- Numbers of any length, with a sign: snicketref30. snicketref30.Cmp, far.Cmp, how long fractions are. How far a point is from a line, in whole numbers; fractions in lowest terms: plain. What far reckons of near spots, as whole numbers; turned about. Plain. Numbers and fractions of any length, as snicketref30 reckons them: what each gives, as own rows. Fractions as snicketref30 reckons them: First, Second, whole, Plus, Times, Minus, over, Cmp. Regions where calls come one behind the other and things are laid at any time between: each call is walked once. -/
import Derived.Test.YtmoppmfbfpjdnaaGreatS5
import Derived.Test.YtmoppmfbfpjdnaaGreatOv
import Derived.Test.YtmoppmfbfpjdnaaGreatQt
import Derived.Test.YtmoppmfbfpjdnaaGreatWy
import Derived.Test.YtmoppmfbfpjdnaaGreatFe
import Derived.Test.YtmoppmfbfpjdnaaGreatRa
import Derived.Test.YtmoppmfbfpjdnaaGreatFd
namespace Go.Proofs.YtmoppmfbfpjdnaaGreat
open Go.RowKit
open R (In64 InU64 lo64 nth)

structure Nm where
  neg : Bool
  A : Option Addr
  n : Nat
  c : Nat
  L : List Int
instance inh_Nm : Inhabited Nm := ⟨⟨false, none, 0, 0, []⟩⟩
def cNm (x : Nm) : List Value := [.bool x.neg, .slice x.A x.n x.c]
instance encc_Nm : R.EncC cNm 2 := ⟨fun _ => rfl, by simp [cNm, Value.oneCell'], by decide⟩
instance enct_Nm : R.EncT Tryz.prog 57 Nm cNm 2 := {}
def GNm (k : Nat) (w : World) (x : Nm) : Prop := R.Inp [] w x.A x.n 1 (x.L.flatMap R.cU) ∧ x.n = x.L.length ∧ DigI x.L ∧ x.n ≤ x.c ∧ x.n ≤ k
def Nm.z (x : Nm) : Int := if x.neg then -((dv x.L : Nat) : Int) else ((dv x.L : Nat) : Int)
theorem GNm.ext {k : Nat} {w w' : World} {x : Nm} (h : GNm k w x) (hb : Below w.heap.size w w') : GNm k w' x := ⟨h.1.ext hb, h.2⟩
theorem flat_take (L : List Int) (k : Nat) : (L.flatMap R.cU).take (k * 1) = (L.take k).flatMap R.cU := by
  rw [Nat.mul_one]
  induction L generalizing k with
  | nil => simp
  | cons a L ih =>
    cases k with
    | zero => simp
    | succ k =>
      rw [List.flatMap_cons, List.take_succ_cons, List.flatMap_cons, ← ih]
      rfl
/-- A number that is trimmed. -/
theorem GNm.trim {W w : World} {l : List R.Res} {A : Option Addr} {n c k : Nat} {L : List Int} {b : Bool} (hM : R.Own [] W w l) (hm : R.Res.row A n c 42 1 (L.flatMap R.cU) ∈ l) (hn : n = L.length) (hd : DigI L) (hc : n ≤ c) (hk : n ≤ k) : GNm k w ⟨b, A, trimN L, c, L.take (trimN L)⟩ := by
  have h1 := (R.Own.inp hM hm).take (trimN L) (by rw [hn]; exact trimN_le L)
  rw [flat_take] at h1
  have := trimN_le L
  refine ⟨h1, ?_, hd.take _, ?_, ?_⟩
  · dsimp only
    rw [List.length_take]
    omega
  · dsimp only
    omega
  · dsimp only
    omega
theorem row_capN {A : Option Addr} {F : List Nat} {W w : World} {l : List R.Res} {n c sz : Nat} {e : TypeId} {cs : List Value} (hM : R.Own F W w l) (hm : R.Res.row A n c e sz cs ∈ l) : n ≤ c := by
  have hr : w.ownsRow 0 e sz (.slice A n c) n cs := hM.ok _ hm
  rcases hr.2 with ⟨hv, h0⟩ | ⟨g, cap, cur, hv, _, _, h3, h4, _⟩
  · omega
  · injection hv with _ _ a3
    omega
theorem nm_z {b : Bool} {A : Option Addr} {n c : Nat} {L : List Int} : (⟨b, A, n, c, L⟩ : Nm).z = if b then -((dv L : Nat) : Int) else ((dv L : Nat) : Int) := rfl
attribute [local irreducible] W512 digsL trimN in
set_option maxHeartbeats 2000000 in
theorem n30_of (a : Sg) (w : World) : Calls Tryz.prog 9 #[.agg (cS a).toArray] w fun e w' => ∃ x : Nm, e = .returned (.agg (cNm x).toArray) ∧ Below w.heap.size w w' ∧ GNm 32 w' x ∧ x.z = a.z := by
  have hM := R.Own.start [] w
  have d1 := digsL_dig a.mag.n 32
  have d3 := digsL_len a.mag.n 32
  have d5 := digsL_whole a.mag
  refine R.calls_of_WC (fn := Tryz.f9) Tryz.func9 rfl Tryz.ntmps9 (Nat.le_of_ble_eq_true rfl) ?_
  (refine R.stepU ?_; (repeat' (first | (with_reducible refine And.intro ?_ ?_) | (with_reducible intro _))); all_goals refine R.Lft.mk ?_)
  refine R.WC_planX [(0, false), (1, false), (2, false), (3, false), (4, true), (5, true), (6, false), (7, true)] R.mixed (by decide +kernel) R.ohm ?_
  (refine R.stepU ?_; (repeat' (first | (with_reducible refine And.intro ?_ ?_) | (with_reducible intro _))); all_goals refine R.Lft.mk ?_)
  rename_i A c _ hM
  refine R.WO_call1 rfl rfl R.vv ?_
  refine ((con_trim A 32 c).h (digsL a.mag.n 32) _ ⟨R.Own.inp hM (.head _), d3.symm, d1, row_capN hM (.head _), by omega⟩).mono ?_
  rintro _ w4 ⟨rfl, rfl⟩
  refine ⟨_, rfl, ?_⟩
  (refine R.stepU ?_; (repeat' (first | (with_reducible refine And.intro ?_ ?_) | (with_reducible intro _))); all_goals refine R.Lft.mk ?_)
  rename_i hM
  exact ⟨⟨a.neg, A, trimN (digsL a.mag.n 32), c, (digsL a.mag.n 32).take (trimN (digsL a.mag.n 32))⟩, rfl, R.Own.below hM, GNm.trim hM (.head _) d3.symm d1 (row_capN hM (.head _)) (Nat.le_refl _), by rw [nm_z, trimN_dv, d5]; rfl⟩
theorem mul_sign (p q : Bool) (a b : Nat) : (if !(p == q) then -((a * b : Nat) : Int) else ((a * b : Nat) : Int)) = (if p then -(a : Int) else (a : Int)) * (if q then -(b : Int) else (b : Int)) := by
  cases p <;> cases q <;> simp [Int.natCast_mul, Int.neg_mul, Int.mul_neg]
attribute [local irreducible] W512 trimN in
set_option maxHeartbeats 2000000 in
theorem n30_mul (x y : Nm) (k m : Nat) (w : World) (hx : GNm k w x) (hy : GNm m w y) (hk : k ≤ 10000) (hm : m ≤ 10000) : Calls Tryz.prog 32 #[.agg (cNm x).toArray, .agg (cNm y).toArray] w fun e w' => ∃ z : Nm, e = .returned (.agg (cNm z).toArray) ∧ Below w.heap.size w w' ∧ GNm (k + m) w' z ∧ z.z = x.z * y.z := by
  have hM := R.Own.start [] w
  obtain ⟨x1, x2, x3, x4, x5⟩ := hx
  obtain ⟨y1, y2, y3, y4, y5⟩ := hy
  refine R.calls_of_WC (fn := Tryz.f32) Tryz.func32 rfl Tryz.ntmps32 (Nat.le_of_ble_eq_true rfl) ?_
  (refine R.stepU ?_; (repeat' (first | (with_reducible refine And.intro ?_ ?_) | (with_reducible intro _))); all_goals refine R.Lft.mk ?_)
  refine R.WC_planX [(0, false), (1, false), (2, false), (3, false), (4, false), (5, false), (6, false), (7, false), (8, false), (9, true), (10, true), (11, false), (12, true)] R.mixed (by decide +kernel) R.ohm ?_
  (refine R.stepU ?_; (repeat' (first | (with_reducible refine And.intro ?_ ?_) | (with_reducible intro _))); all_goals refine R.Lft.mk ?_)
  rename_i hM
  refine R.WO_call2 rfl rfl R.vv R.vv ?_
  refine (times_i x.A y.A x.n x.c y.n y.c x.L y.L _ (hM.inpIn x1) x2 x3 (by omega) (hM.inpIn y1) y2 y3 (by omega)).mono ?_
  rintro _ w4 ⟨A1, zs, rfl, hG, hl, hd, hv⟩
  have hM := R.Own.give hM hG
  refine ⟨_, rfl, ?_⟩
  (refine R.stepU ?_; (repeat' (first | (with_reducible refine And.intro ?_ ?_) | (with_reducible intro _))); all_goals refine R.Lft.mk ?_)
  rename_i hM
  exact ⟨⟨!(x.neg == y.neg), A1, trimN zs, x.n + y.n, zs.take (trimN zs)⟩, rfl, R.Own.below hM, GNm.trim hM (.head _) hl hd (Nat.le_refl _) (by omega), by rw [nm_z, trimN_dv, hv]; exact mul_sign _ _ _ _⟩
theorem n30_less (x : Nm) (w : World) : Calls Tryz.prog 33 #[.agg (cNm x).toArray] w fun e w' => e = .returned (.agg (cNm ⟨!x.neg, x.A, x.n, x.c, x.L⟩).toArray) ∧ Below w.heap.size w w' := by
  have hM := R.Own.start [] w
  refine R.calls_of_WC (fn := Tryz.f33) Tryz.func33 rfl Tryz.ntmps33 (Nat.le_of_ble_eq_true rfl) ?_
  (refine R.stepU ?_; (repeat' (first | (with_reducible refine And.intro ?_ ?_) | (with_reducible intro _))); all_goals refine R.Lft.mk ?_; (all_goals (try (exact ⟨rfl, R.Own.below (by assumption)⟩))))
attribute [local irreducible] W512 trimN in
set_option maxHeartbeats 2000000 in
theorem n30_add (x y : Nm) (k : Nat) (w : World) (hx : GNm k w x) (hy : GNm k w y) (hk : k ≤ 10000) : Calls Tryz.prog 31 #[.agg (cNm x).toArray, .agg (cNm y).toArray] w fun e w' => ∃ z : Nm, e = .returned (.agg (cNm z).toArray) ∧ Below w.heap.size w w' ∧ GNm (k + 1) w' z ∧ z.z = x.z + y.z := by
  have hM := R.Own.start [] w
  obtain ⟨x1, x2, x3, x4, x5⟩ := hx
  obtain ⟨y1, y2, y3, y4, y5⟩ := hy
  by_cases hs : x.neg = y.neg
  · refine R.calls_of_WC (fn := Tryz.f31) Tryz.func31 rfl Tryz.ntmps31 (Nat.le_of_ble_eq_true rfl) ?_
    (refine R.stepU ?_; (repeat' (first | (with_reducible refine And.intro ?_ ?_) | (with_reducible intro _))); all_goals refine R.Lft.mk ?_)
    refine R.WC_planX [(0, false), (1, false), (2, false), (3, false), (4, false), (5, false), (6, true), (7, true), (8, false), (9, true)] R.mixed (by decide +kernel) R.ohm ?_
    (refine R.stepU ?_; (repeat' (first | (with_reducible refine And.intro ?_ ?_) | (with_reducible intro _))); all_goals refine R.Lft.mk ?_)
    rename_i hM
    refine R.WO_call2 rfl rfl R.vv R.vv ?_
    refine (plus_i x.A y.A x.n x.c y.n y.c x.L y.L _ (hM.inpIn x1) x2 x3 (by omega) (hM.inpIn y1) y2 y3 (by omega)).mono ?_
    rintro _ w4 ⟨A1, c1, n1, zs, rfl, hG, hl, hd, hv, hn1⟩
    have hM := R.Own.give hM hG
    refine ⟨_, rfl, ?_⟩
    (refine R.stepU ?_; (repeat' (first | (with_reducible refine And.intro ?_ ?_) | (with_reducible intro _))); all_goals refine R.Lft.mk ?_)
    refine R.WO_call1 rfl rfl R.vv ?_
    refine ((con_trim A1 n1 c1).h zs _ ⟨R.Own.inp hM (.head _), hl, hd, row_capN hM (.head _), by omega⟩).mono ?_
    rintro _ w5 ⟨rfl, rfl⟩
    refine ⟨_, rfl, ?_⟩
    (refine R.stepU ?_; (repeat' (first | (with_reducible refine And.intro ?_ ?_) | (with_reducible intro _))); all_goals refine R.Lft.mk ?_)
    rename_i hM
    exact ⟨⟨x.neg, A1, trimN zs, c1, zs.take (trimN zs)⟩, rfl, R.Own.below hM, GNm.trim hM (.head _) hl hd (row_capN hM (.head _)) (by omega), by
      rw [nm_z, trimN_dv, hv]
      unfold Nm.z
      rw [← hs]
      split <;> omega⟩
  · refine R.calls_of_WC (fn := Tryz.f31) Tryz.func31 rfl Tryz.ntmps31 (Nat.le_of_ble_eq_true rfl) ?_
    (refine R.stepU ?_; (repeat' (first | (with_reducible refine And.intro ?_ ?_) | (with_reducible intro _))); all_goals refine R.Lft.mk ?_)
    rename_i hM
    refine R.WO_call2 rfl rfl R.vv R.vv ?_
    refine (less_i x.A y.A x.n x.c y.n y.c x.L y.L _ (hM.inpIn x1) x2 x3 (by omega) (hM.inpIn y1) y2 y3 (by omega)).mono ?_
    rintro _ w4 ⟨rfl, rfl⟩
    refine ⟨_, rfl, ?_⟩
    by_cases hlt : dv x.L < dv y.L
    · rw [decide_eq_true hlt]
      (refine R.stepU ?_; (repeat' (first | (with_reducible refine And.intro ?_ ?_) | (with_reducible intro _))); all_goals refine R.Lft.mk ?_)
      refine R.WC_planX [(0, false), (1, false), (2, false), (3, false), (4, false), (5, false), (6, true), (7, true), (8, false), (9, true)] R.mixed (by decide +kernel) R.ohm ?_
      (refine R.stepU ?_; (repeat' (first | (with_reducible refine And.intro ?_ ?_) | (with_reducible intro _))); all_goals refine R.Lft.mk ?_)
      rename_i hM
      refine R.WO_call2 rfl rfl R.vv R.vv ?_
      refine (minus_i y.A x.A y.n y.c x.n x.c y.L x.L _ (hM.inpIn y1) y2 y3 (by omega) (hM.inpIn x1) x2 x3 (by omega) (by omega)).mono ?_
      rintro _ w4 ⟨A1, c1, zs, rfl, hG, hl, hd, hv⟩
      have hM := R.Own.give hM hG
      refine ⟨_, rfl, ?_⟩
      (refine R.stepU ?_; (repeat' (first | (with_reducible refine And.intro ?_ ?_) | (with_reducible intro _))); all_goals refine R.Lft.mk ?_)
      refine R.WO_call1 rfl rfl R.vv ?_
      refine ((con_trim A1 y.n c1).h zs _ ⟨R.Own.inp hM (.head _), hl, hd, row_capN hM (.head _), by omega⟩).mono ?_
      rintro _ w5 ⟨rfl, rfl⟩
      refine ⟨_, rfl, ?_⟩
      (refine R.stepU ?_; (repeat' (first | (with_reducible refine And.intro ?_ ?_) | (with_reducible intro _))); all_goals refine R.Lft.mk ?_)
      rename_i hM
      exact ⟨⟨y.neg, A1, trimN zs, c1, zs.take (trimN zs)⟩, rfl, R.Own.below hM, GNm.trim hM (.head _) hl hd (row_capN hM (.head _)) (by omega), by
        rw [nm_z, trimN_dv, hv]
        unfold Nm.z
        cases hx : x.neg <;> cases hy : y.neg <;> simp_all <;> omega⟩
    · rw [decide_eq_false hlt]
      (refine R.stepU ?_; (repeat' (first | (with_reducible refine And.intro ?_ ?_) | (with_reducible intro _))); all_goals refine R.Lft.mk ?_)
      refine R.WC_planX [(0, false), (1, false), (2, false), (3, false), (4, false), (5, false), (6, true), (7, true), (8, false), (9, true)] R.mixed (by decide +kernel) R.ohm ?_
      (refine R.stepU ?_; (repeat' (first | (with_reducible refine And.intro ?_ ?_) | (with_reducible intro _))); all_goals refine R.Lft.mk ?_)
      rename_i hM
      refine R.WO_call2 rfl rfl R.vv R.vv ?_
      refine (minus_i x.A y.A x.n x.c y.n y.c x.L y.L _ (hM.inpIn x1) x2 x3 (by omega) (hM.inpIn y1) y2 y3 (by omega) (by omega)).mono ?_
      rintro _ w4 ⟨A1, c1, zs, rfl, hG, hl, hd, hv⟩
      have hM := R.Own.give hM hG
      refine ⟨_, rfl, ?_⟩
      (refine R.stepU ?_; (repeat' (first | (with_reducible refine And.intro ?_ ?_) | (with_reducible intro _))); all_goals refine R.Lft.mk ?_)
      refine R.WO_call1 rfl rfl R.vv ?_
      refine ((con_trim A1 x.n c1).h zs _ ⟨R.Own.inp hM (.head _), hl, hd, row_capN hM (.head _), by omega⟩).mono ?_
      rintro _ w5 ⟨rfl, rfl⟩
      refine ⟨_, rfl, ?_⟩
      (refine R.stepU ?_; (repeat' (first | (with_reducible refine And.intro ?_ ?_) | (with_reducible intro _))); all_goals refine R.Lft.mk ?_)
      rename_i hM
      exact ⟨⟨x.neg, A1, trimN zs, c1, zs.take (trimN zs)⟩, rfl, R.Own.below hM, GNm.trim hM (.head _) hl hd (row_capN hM (.head _)) (by omega), by
        rw [nm_z, trimN_dv, hv]
        unfold Nm.z
        cases hx : x.neg <;> cases hy : y.neg <;> simp_all <;> omega⟩
theorem n30_sign (x : Nm) (k : Nat) (w : World) (hx : GNm k w x) (hk : k ≤ 100000) : Calls Tryz.prog 30 #[.agg (cNm x).toArray] w fun e w' => e = .returned (.int .i64 (cmpZ x.z 0)) ∧ Below w.heap.size w w' := by
  have hM := R.Own.start [] w
  obtain ⟨x1, x2, x3, x4, x5⟩ := hx
  have hz : bitLen (dv x.L) = 0 ↔ dv x.L = 0 := ⟨fun h => by
    rcases Nat.eq_zero_or_pos (dv x.L) with g | g
    · exact g
    · have := bl_pos g
      omega, fun h => by rw [h]; rfl⟩
  have hv : x.z = if x.neg then -((dv x.L : Nat) : Int) else ((dv x.L : Nat) : Int) := rfl
  refine R.calls_of_WC (fn := Tryz.f30) Tryz.func30 rfl Tryz.ntmps30 (Nat.le_of_ble_eq_true rfl) ?_
  (refine R.stepU ?_; (repeat' (first | (with_reducible refine And.intro ?_ ?_) | (with_reducible intro _))); all_goals refine R.Lft.mk ?_)
  all_goals
    refine ⟨?_, R.Own.below (by assumption)⟩
    rw [hv]
  · have h : dv x.L = 0 := hz.1 (by omega)
    rw [h]
    cases x.neg <;> rfl
  · have h : dv x.L ≠ 0 := fun h => by have := hz.2 h; omega
    rw [if_pos (by assumption), cmpZ_lt (by omega)]
  · have h : dv x.L ≠ 0 := fun h => by have := hz.2 h; omega
    rw [if_neg (by rw [show x.neg = false by assumption]; decide), cmpZ_gt (by omega)]
end Go.Proofs.YtmoppmfbfpjdnaaGreat
namespace Go.Proofs.YtmoppmfbfpjdnaaGreat
open Go.RowKit
open R (In64 InU64 lo64 nth)

structure Fr where
  n : Nm
  d : Nm
instance inh_Fr : Inhabited Fr := ⟨⟨default, default⟩⟩
def cFr (x : Fr) : List Value := cNm x.n ++ cNm x.d
instance encc_Fr : R.EncC cFr 4 := ⟨fun _ => rfl, by simp [cFr, cNm, Value.oneCell'], by decide⟩
instance enct_Fr : R.EncT Tryz.prog 60 Fr cFr 4 := {}
section
variable {C : R.CallH} {o : Oper} {f : R.Fr} {F : List Nat} {W0 w : World} {K : Value → World → Prop} {l : List R.Res} {t u : TypeId} {x y : Operand} {g : Nat} {p : Fr} {a b : Nm}
theorem WO_ldFn (hop : o.op = .load t x) (hx : R.ev f x = .pointer (some ⟨g, 0, none⟩)) [R.KindT Tryz.prog t true] [R.SzT Tryz.prog t 2] (hM : R.Own F W0 w l) (hm : .blk g u (cFr p) ∈ l) (hk : K (.agg (cNm p.n).toArray) w) : R.WO Tryz.prog C o f w K :=
  R.WO_loadOP (j := 0) (m := 2) (cs := cFr p) hop hx rfl hM hm rfl (by
    have e : List.take 2 (List.drop 0 (cFr p)) = cNm p.n := rfl
    rw [e]; exact hk)
theorem WO_ldFd (hop : o.op = .load t x) (hx : R.ev f x = .pointer (some ⟨g, 2, none⟩)) [R.KindT Tryz.prog t true] [R.SzT Tryz.prog t 2] (hM : R.Own F W0 w l) (hm : .blk g u (cFr p) ∈ l) (hk : K (.agg (cNm p.d).toArray) w) : R.WO Tryz.prog C o f w K :=
  R.WO_loadOP (j := 2) (m := 2) (cs := cFr p) hop hx rfl hM hm rfl (by
    have e : List.take 2 (List.drop 2 (cFr p)) = cNm p.d := rfl
    rw [e]; exact hk)
theorem WO_bdFr (hop : o.op = .build 60 #[(0, x), (1, y)]) (hx : R.ev f x = .agg (cNm a).toArray) (hy : R.ev f y = .agg (cNm b).toArray) (hk : K (.agg (cFr ⟨a, b⟩).toArray) w) : R.WO Tryz.prog C o f w K :=
  R.WO_buildN2 hop hx hy rfl rfl (by rfl) (by (simp only [R.putA, List.getD_cons_zero, List.getD_cons_succ]) <;> rfl) hk
end
theorem nm_less (x : Nm) : (⟨!x.neg, x.A, x.n, x.c, x.L⟩ : Nm).z = -x.z := by
  unfold Nm.z
  cases x.neg <;> simp
theorem cmpZ_sub (p q : Int) : cmpZ (p + -q) 0 = cmpZ p q := by
  unfold cmpZ
  split <;> split <;> (try split) <;> (try split) <;> omega
set_option maxHeartbeats 2000000 in
theorem n30_cmp (u v : Fr) (w : World) (h1 : GNm 32 w u.n) (h2 : GNm 32 w u.d) (h3 : GNm 32 w v.n) (h4 : GNm 32 w v.d) : Calls Tryz.prog 10 #[.agg (cFr u).toArray, .agg (cFr v).toArray] w fun e w' => e = .returned (.int .i64 (cmpZ (u.n.z * v.d.z) (v.n.z * u.d.z))) ∧ Below w.heap.size w w' := by
  have hM := R.Own.start [] w
  refine R.calls_of_WC (fn := Tryz.f10) Tryz.func10 rfl Tryz.ntmps10 (Nat.le_of_ble_eq_true rfl) ?_
  (refine R.stepU ?_; (repeat' (first | (with_reducible refine And.intro ?_ ?_) | (with_reducible intro _))); all_goals refine R.Lft.mk ?_)
  refine R.WC_planX [(0, false), (1, false), (2, false), (3, false), (5, false), (6, false), (7, false), (8, false), (4, true), (9, true), (10, true), (11, true), (12, true), (13, false)] R.mixed (by decide +kernel) R.ohm ?_
  (refine R.stepU ?_; (repeat' (first | (with_reducible refine And.intro ?_ ?_) | (with_reducible intro _))); all_goals refine R.Lft.mk ?_)
  rename_i hM
  refine R.WO_call2 rfl rfl R.vv R.vv ?_
  refine (n30_mul u.n v.d 32 32 _ (h1.ext (R.Own.below hM)) (h4.ext (R.Own.below hM)) (by decide) (by decide)).mono ?_
  rintro _ w3 ⟨z1, rfl, hb3, g1, e1⟩
  have hM := hM.call hb3
  refine ⟨_, rfl, ?_⟩
  (refine R.stepU ?_; (repeat' (first | (with_reducible refine And.intro ?_ ?_) | (with_reducible intro _))); all_goals refine R.Lft.mk ?_)
  refine R.WO_call2 rfl rfl R.vv R.vv ?_
  refine (n30_mul v.n u.d 32 32 _ (h3.ext (R.Own.below hM)) (h2.ext (R.Own.below hM)) (by decide) (by decide)).mono ?_
  rintro _ w4 ⟨z2, rfl, hb4, g2, e2⟩
  have hM := hM.call hb4
  refine ⟨_, rfl, ?_⟩
  (refine R.stepU ?_; (repeat' (first | (with_reducible refine And.intro ?_ ?_) | (with_reducible intro _))); all_goals refine R.Lft.mk ?_)
  refine R.WO_call1 rfl rfl R.vv ?_
  refine (n30_less z2 _).mono ?_
  rintro _ w5 ⟨rfl, hb5⟩
  have hM := hM.call hb5
  refine ⟨_, rfl, ?_⟩
  (refine R.stepU ?_; (repeat' (first | (with_reducible refine And.intro ?_ ?_) | (with_reducible intro _))); all_goals refine R.Lft.mk ?_)
  refine R.WO_call2 rfl rfl R.vv R.vv ?_
  refine (n30_add z1 ⟨!z2.neg, z2.A, z2.n, z2.c, z2.L⟩ 64 _ ((g1.ext hb4).ext hb5) (g2.ext hb5) (by decide)).mono ?_
  rintro _ w6 ⟨z3, rfl, hb6, g3, e3⟩
  have hM := hM.call hb6
  refine ⟨_, rfl, ?_⟩
  (refine R.stepU ?_; (repeat' (first | (with_reducible refine And.intro ?_ ?_) | (with_reducible intro _))); all_goals refine R.Lft.mk ?_)
  refine R.WO_call1 rfl rfl R.vv ?_
  refine (n30_sign z3 65 _ g3 (by decide)).mono ?_
  rintro _ w7 ⟨rfl, hb7⟩
  have hM := hM.call hb7
  refine ⟨_, rfl, ?_⟩
  (refine R.stepU ?_; (repeat' (first | (with_reducible refine And.intro ?_ ?_) | (with_reducible intro _))); all_goals refine R.Lft.mk ?_)
  exact ⟨by rw [e3, nm_less, cmpZ_sub, e1, e2], R.Own.below (by assumption)⟩
/-- What must hold of fractions that are compared. -/
def okN (a : Rt) : Bool := !decide (a.den.n = 0) && decide (a.num = sgn a.num.z)
def fcmpE (a b : Rt) : Int := if okN a && okN b then (if shortB a && shortB b then 0 else 6) else 1
def fcmpV (a b : Rt) : Int := if fcmpE a b = 0 then cmpZ (resZ (a.num.z * (⟨false, b.den⟩ : Sg).z)).z (resZ (b.num.z * (⟨false, a.den⟩ : Sg).z)).z else 0
theorem both_ {a b : Bool} (h : (!a) = false) (g : (!b) = false) : (a && b) = true := by cases a <;> cases b <;> simp at h g ⊢
end Go.Proofs.YtmoppmfbfpjdnaaGreat
namespace Go.Proofs.YtmoppmfbfpjdnaaGreat
open Go.RowKit
open R (In64 InU64 lo64 nth)

def qAdd (a b : Int × Int) : Int × Int := (a.1 * b.2 + b.1 * a.2, a.2 * b.2)
def qMul (a b : Int × Int) : Int × Int := (a.1 * b.1, a.2 * b.2)
def qSub (a b : Int × Int) : Int × Int := qAdd a (-b.1, b.2)
def qOver (a b : Int × Int) : Int × Int := (a.1 * b.2, a.2 * b.1)
structure Ln where
  ax : Int
  ay : Int
  aw : Int
  bx : Int
  b_y : Int
  bw : Int
  px : Int
  py : Int
namespace Ln
variable (l : Ln)
def Ux : Int := l.px * l.aw - l.ax
def Uy : Int := l.py * l.aw - l.ay
def Tx : Int := l.px * l.bw - l.bx
def Ty : Int := l.py * l.bw - l.b_y
def Vx : Int := l.bx * l.aw - l.ax * l.bw
def Vy : Int := l.b_y * l.aw - l.ay * l.bw
def N : Int := (l.Ux * l.Vx + l.Uy * l.Vy) * l.bw
def D : Int := l.Vx * l.Vx + l.Vy * l.Vy
def X : Int := l.Ux * l.Vy - l.Uy * l.Vx
def EA : Int := l.Ux * l.Ux + l.Uy * l.Uy
def EB : Int := l.Tx * l.Tx + l.Ty * l.Ty
def tQ : Int × Int :=
  qOver (qAdd (qMul (qSub (l.px, 1) (l.ax, l.aw)) (qSub (l.bx, l.bw) (l.ax, l.aw))) (qMul (qSub (l.py, 1) (l.ay, l.aw)) (qSub (l.b_y, l.bw) (l.ay, l.aw))))
    (qAdd (qMul (qSub (l.bx, l.bw) (l.ax, l.aw)) (qSub (l.bx, l.bw) (l.ax, l.aw))) (qMul (qSub (l.b_y, l.bw) (l.ay, l.aw)) (qSub (l.b_y, l.bw) (l.ay, l.aw))))
def partQ : Int × Int := if l.tQ.1 < 0 then (0, 1) else if 1 * l.tQ.2 < l.tQ.1 * 1 then (1, 1) else l.tQ
def offQ (a : Int × Int) (b : Int × Int) (p : Int) (t : Int × Int) : Int × Int := qSub (qAdd a (qMul t (qSub b a))) (p, 1)
def sumQ (x y : Int × Int) : Int × Int := qAdd (qMul x x) (qMul y y)
def sqQ (t : Int × Int) : Int × Int := sumQ (offQ (l.ax, l.aw) (l.bx, l.bw) l.px t) (offQ (l.ay, l.aw) (l.b_y, l.bw) l.py t)
def squareQ : Int × Int := l.sqQ l.partQ
def endQ : Int × Int := sumQ (qSub (l.ax, l.aw) (l.px, 1)) (qSub (l.ay, l.aw) (l.py, 1))
def e1 : Int := l.aw * (l.bw * l.aw)
def e2 : Int := l.bw * l.aw * (l.bw * l.aw)
def K : Int := l.e1 * l.e1 * l.e2
theorem tQ_eq : l.tQ = (l.K * l.N, l.K * l.D) := by
  unfold tQ qOver qAdd qMul qSub qAdd K N D e1 e2 Ux Uy Vx Vy
  simp only [Prod.mk.injEq]
  constructor <;> grind

def F (m n : Int) : Int := (m * l.Vx - n * l.bw * l.Ux) * (m * l.Vx - n * l.bw * l.Ux) + (m * l.Vy - n * l.bw * l.Uy) * (m * l.Vy - n * l.bw * l.Uy)
theorem offQx (m n : Int) : offQ (l.ax, l.aw) (l.bx, l.bw) l.px (m, n) = (l.aw * (m * l.Vx - n * l.bw * l.Ux), n * l.e1) := by
  unfold offQ qMul qSub qAdd e1 Ux Vx
  simp only [Prod.mk.injEq]
  constructor <;> grind
theorem offQy (m n : Int) : offQ (l.ay, l.aw) (l.b_y, l.bw) l.py (m, n) = (l.aw * (m * l.Vy - n * l.bw * l.Uy), n * l.e1) := by
  unfold offQ qMul qSub qAdd e1 Uy Vy
  simp only [Prod.mk.injEq]
  constructor <;> grind
theorem sqQ_same {m n a d : Int} (h : l.aw * l.aw * l.F m n * d = a * (n * l.e1 * (n * l.e1))) : (l.sqQ (m, n)).1 * d = a * (l.sqQ (m, n)).2 := by
  unfold sqQ
  rw [offQx, offQy]
  unfold sumQ qAdd qMul
  dsimp only
  unfold F at h
  grind
theorem F_0 (n : Int) : l.F 0 n = n * n * (l.bw * l.bw) * l.EA := by unfold F EA; grind
theorem F_1 (n : Int) : l.F n n = n * n * (l.aw * l.aw) * l.EB := by unfold F EB Tx Ty Ux Uy Vx Vy; grind
theorem F_t (k : Int) : l.F (k * l.N) (k * l.D) = k * k * (l.bw * l.bw) * l.D * (l.X * l.X) := by unfold F N D X; grind
variable (ha : 0 < l.aw) (hb : 0 < l.bw)
include ha hb
theorem e1_pos : 0 < l.e1 := Int.mul_pos ha (Int.mul_pos hb ha)
theorem e2_pos : 0 < l.e2 := Int.mul_pos (Int.mul_pos hb ha) (Int.mul_pos hb ha)
theorem K_pos : 0 < l.K := Int.mul_pos (Int.mul_pos (l.e1_pos ha hb) (l.e1_pos ha hb)) (l.e2_pos ha hb)
variable (hD : 0 < l.D)
include hD
theorem part_lo (h : l.N ≤ 0) : l.partQ.1 = 0 ∧ 0 < l.partQ.2 := by
  have hK := l.K_pos ha hb
  unfold partQ
  rw [tQ_eq]
  dsimp only
  have h1 := Int.mul_pos hK hD
  have h2 : l.K * l.N ≤ 0 := Int.mul_nonpos_of_nonneg_of_nonpos (by omega) h
  split
  · exact ⟨rfl, by decide⟩
  · rw [if_neg (by omega)]
    exact ⟨by dsimp only; omega, h1⟩
theorem part_hi (h : l.D ≤ l.N) : l.partQ.1 = l.partQ.2 ∧ 0 < l.partQ.2 := by
  have hK := l.K_pos ha hb
  unfold partQ
  rw [tQ_eq]
  dsimp only
  have h1 := Int.mul_pos hK hD
  have h2 : l.K * l.D ≤ l.K * l.N := Int.mul_le_mul_of_nonneg_left h (by omega)
  rw [if_neg (by omega)]
  split
  · exact ⟨rfl, by decide⟩
  · exact ⟨by dsimp only; omega, h1⟩
theorem part_in (h0 : 0 < l.N) (h : l.N < l.D) : l.partQ = (l.K * l.N, l.K * l.D) ∧ 0 < l.K * l.D := by
  have hK := l.K_pos ha hb
  unfold partQ
  rw [tQ_eq]
  dsimp only
  have h1 := Int.mul_pos hK hD
  have h2 : l.K * l.N < l.K * l.D := Int.mul_lt_mul_of_pos_left h hK
  have h3 := Int.mul_pos hK h0
  rw [if_neg (by omega), if_neg (by omega)]
  exact ⟨rfl, h1⟩
theorem sq_lo (h : l.N ≤ 0) : l.squareQ.1 * (l.aw * l.aw) = l.EA * l.squareQ.2 := by
  obtain ⟨h1, h2⟩ := l.part_lo ha hb hD h
  unfold squareQ
  generalize l.partQ = t at h1 h2 ⊢
  obtain ⟨m, n⟩ := t
  dsimp only at h1 h2 ⊢
  subst h1
  refine l.sqQ_same ?_
  rw [F_0]
  unfold e1
  grind
theorem sq_hi (h : l.D ≤ l.N) : l.squareQ.1 * (l.bw * l.bw) = l.EB * l.squareQ.2 := by
  obtain ⟨h1, h2⟩ := l.part_hi ha hb hD h
  unfold squareQ
  generalize l.partQ = t at h1 h2 ⊢
  obtain ⟨m, n⟩ := t
  dsimp only at h1 h2 ⊢
  subst h1
  refine l.sqQ_same ?_
  rw [F_1]
  unfold e1
  grind
theorem sq_in (h0 : 0 < l.N) (h : l.N < l.D) : l.squareQ.1 * (l.aw * l.aw * l.D) = l.X * l.X * l.squareQ.2 := by
  obtain ⟨h1, h2⟩ := l.part_in ha hb hD h0 h
  unfold squareQ
  rw [h1]
  refine l.sqQ_same ?_
  rw [F_t]
  unfold e1
  grind
theorem sq_den : 0 < l.squareQ.2 := by
  have hp : 0 < l.partQ.2 := by
    rcases Int.lt_or_le 0 l.N with h0 | h0
    · rcases Int.lt_or_le l.N l.D with h | h
      · obtain ⟨h1, h2⟩ := l.part_in ha hb hD h0 h
        rw [h1]
        exact h2
      · exact (l.part_hi ha hb hD h).2
    · exact (l.part_lo ha hb hD h0).2
  unfold squareQ
  generalize l.partQ = t at hp ⊢
  obtain ⟨m, n⟩ := t
  dsimp only at hp ⊢
  unfold sqQ
  rw [offQx, offQy]
  have h1 := Int.mul_pos hp (l.e1_pos ha hb)
  exact Int.mul_pos (Int.mul_pos h1 h1) (Int.mul_pos h1 h1)
omit ha hb hD
theorem endQ_eq : l.endQ = (l.EA * (l.aw * l.aw), l.aw * l.aw * (l.aw * l.aw)) := by
  unfold endQ sumQ qSub qAdd qMul EA Ux Uy
  simp only [Prod.mk.injEq]
  constructor <;> grind
theorem lagr : l.EA * l.D = l.X * l.X + (l.Ux * l.Vx + l.Uy * l.Vy) * (l.Ux * l.Vx + l.Uy * l.Vy) := by unfold EA D X; grind
theorem ends : l.aw * l.aw * l.EB = l.bw * l.bw * l.EA - 2 * l.N + l.D := by unfold EA EB N D Tx Ty Ux Uy Vx Vy; grind
theorem sq_nn (a : Int) : 0 ≤ a * a := by
  rcases Int.le_total 0 a with h | h
  · exact Int.mul_nonneg h h
  · exact Int.mul_nonneg_of_nonpos_of_nonpos h h
theorem le_frac {S1 S2 a d q E : Int} (h : S1 * d = a * S2) (hd : 0 < d) (hq : 0 < q) (hS : 0 ≤ S2) (hle : a * q ≤ E * d) : S1 * (q * q) ≤ E * q * S2 := by
  refine Int.le_of_mul_le_mul_right ?_ hd
  have := Int.mul_le_mul_of_nonneg_right hle (Int.mul_nonneg hS (Int.le_of_lt hq))
  have e1 : S1 * (q * q) * d = a * q * (S2 * q) := by grind
  have e2 : E * q * S2 * d = E * d * (S2 * q) := by grind
  rw [e1, e2]
  exact this
include ha hb hD
theorem end_le : l.squareQ.1 * l.endQ.2 ≤ l.endQ.1 * l.squareQ.2 := by
  have hq := Int.mul_pos ha ha
  have hS := Int.le_of_lt (l.sq_den ha hb hD)
  rw [endQ_eq]
  dsimp only
  rcases Int.lt_or_le 0 l.N with h0 | h0
  · rcases Int.lt_or_le l.N l.D with h | h
    · refine le_frac (l.sq_in ha hb hD h0 h) (Int.mul_pos hq hD) hq hS ?_
      have h1 := l.lagr
      have h2 := sq_nn (l.Ux * l.Vx + l.Uy * l.Vy)
      have h3 : l.X * l.X ≤ l.EA * l.D := by omega
      have := Int.mul_le_mul_of_nonneg_right h3 (Int.le_of_lt hq)
      have e : l.EA * (l.aw * l.aw * l.D) = l.EA * l.D * (l.aw * l.aw) := by grind
      rw [e]
      exact this
    · refine le_frac (l.sq_hi ha hb hD h) (Int.mul_pos hb hb) hq hS ?_
      have h1 := l.ends
      have e : l.EB * (l.aw * l.aw) = l.aw * l.aw * l.EB := by grind
      have e2 : l.EA * (l.bw * l.bw) = l.bw * l.bw * l.EA := by grind
      rw [e, e2]
      omega
  · exact le_frac (l.sq_lo ha hb hD h0) hq hq hS (Int.le_refl _)
omit ha hb hD
def swap : Ln := ⟨l.bx, l.b_y, l.bw, l.ax, l.ay, l.aw, l.px, l.py⟩
theorem swap_D : l.swap.D = l.D := by unfold swap D Vx Vy; grind
theorem swap_N : l.swap.N = l.D - l.N := by unfold swap N D Ux Uy Vx Vy; grind
theorem swap_EA : l.swap.EA = l.EB := rfl
theorem swap_EB : l.swap.EB = l.EA := rfl
theorem swap_X : l.swap.X * l.swap.X * (l.aw * l.aw) = l.X * l.X * (l.bw * l.bw) := by
  have h : l.swap.X * l.aw = l.X * l.bw ∨ l.swap.X * l.aw = -(l.X * l.bw) := by unfold swap X Ux Uy Vx Vy; grind
  have e : l.swap.X * l.swap.X * (l.aw * l.aw) = l.swap.X * l.aw * (l.swap.X * l.aw) := by grind
  rw [e]
  rcases h with h | h <;> rw [h] <;> grind
end Ln

/-- A fraction in lowest terms that is n / d. -/
def IsR (n d : Int) (r : Rt) : Prop := r.num.z * d = n * (r.den.n : Int) ∧ r.num = sgn r.num.z ∧ Nat.gcd r.num.mag.n r.den.n = 1 ∧ 0 < r.den.n
theorem IsR.terms {n d : Int} {r : Rt} (h : IsR n d r) : termsB r = true := by
  unfold termsB
  rw [decide_eq_false (by have := h.2.2.2; omega), decide_eq_true h.2.1, decide_eq_true (show gcdW r.num.mag r.den = W 1 by unfold gcdW; rw [h.2.2.1])]
  rfl
theorem IsR.uniq {n d m e : Int} {r s : Rt} (hr : IsR n d r) (hs : IsR m e s) (hd : 0 < d) (he : 0 < e) (h : n * e = m * d) : r = s := by
  obtain ⟨r1, r2, r3, r4⟩ := hr
  obtain ⟨s1, s2, s3, s4⟩ := hs
  have hx : r.num.z * (s.den.n : Int) = s.num.z * (r.den.n : Int) := by
    have hde := Int.mul_pos hd he
    refine Int.eq_of_mul_eq_mul_right (a := d * e) (by omega) ?_
    have e1 : r.num.z * (s.den.n : Int) * (d * e) = (r.num.z * d) * ((s.den.n : Int) * e) := by grind
    have e2 : s.num.z * (r.den.n : Int) * (d * e) = (s.num.z * e) * ((r.den.n : Int) * d) := by grind
    rw [e1, e2, r1, s1]
    grind
  have hn : r.num.mag.n * s.den.n = s.num.mag.n * r.den.n := by
    have := congrArg Int.natAbs hx
    rwa [Int.natAbs_mul, Int.natAbs_mul, Sg.abs, Sg.abs, Int.natAbs_natCast, Int.natAbs_natCast] at this
  have d1 : r.den.n ∣ s.den.n := (Nat.Coprime.symm r3 : Nat.Coprime r.den.n r.num.mag.n).dvd_of_dvd_mul_left ⟨s.num.mag.n, by rw [hn, Nat.mul_comm]⟩
  have d2 : s.den.n ∣ r.den.n := (Nat.Coprime.symm s3 : Nat.Coprime s.den.n s.num.mag.n).dvd_of_dvd_mul_left ⟨r.num.mag.n, by rw [← hn, Nat.mul_comm]⟩
  have hde : r.den.n = s.den.n := Nat.dvd_antisymm d1 d2
  have hnz : r.num.z = s.num.z := by
    rw [hde] at hx
    exact Int.eq_of_mul_eq_mul_right (by omega) hx
  exact Rt.ext_iff.2 ⟨by rw [r2, s2, hnz], Wd.ext_ hde⟩
theorem ofR_is {n d : Int} (hn : n.natAbs < W512) (hd : 0 < d) (hdl : d.natAbs < W512) : IsR n d (ofR (sgn n) (sgn d)) := by
  have m1 := sgn_mag hn
  have m2 := sgn_mag hdl
  have hp : 0 < d.natAbs := by omega
  have hs : sidS (sgn n) (sgn d) = sgn n := by
    unfold sidS sgn
    dsimp only
    rw [decide_eq_false (by omega : ¬ d < 0)]
    cases decide (n < 0) <;> rfl
  have hg0 : 0 < Nat.gcd n.natAbs d.natAbs := Nat.gcd_pos_of_pos_right _ hp
  have hgn : Nat.gcd n.natAbs d.natAbs ∣ n.natAbs := Nat.gcd_dvd_left _ _
  have hgd : Nat.gcd n.natAbs d.natAbs ∣ d.natAbs := Nat.gcd_dvd_right _ _
  have hco : Nat.gcd (n.natAbs / Nat.gcd n.natAbs d.natAbs) (d.natAbs / Nat.gcd n.natAbs d.natAbs) = 1 := Nat.gcd_div_gcd_div_gcd_of_pos_right hp
  have hG : (gcdW (sgn n).mag (sgn d).mag).n = Nat.gcd n.natAbs d.natAbs := by rw [gcdW_n, m1, m2]
  unfold ofR
  rw [if_neg (by rw [m2]; omega), hs]
  unfold lowR
  have q1 : (qW (sgn n).mag (gcdW (sgn n).mag (sgn d).mag)).n = n.natAbs / Nat.gcd n.natAbs d.natAbs := by rw [qWn, hG, m1]
  have q2 : (qW (sgn d).mag (gcdW (sgn n).mag (sgn d).mag)).n = d.natAbs / Nat.gcd n.natAbs d.natAbs := by rw [qWn, hG, m2]
  generalize qW (sgn n).mag (gcdW (sgn n).mag (sgn d).mag) = A at q1
  generalize qW (sgn d).mag (gcdW (sgn n).mag (sgn d).mag) = B at q2
  generalize Nat.gcd n.natAbs d.natAbs = g at *
  obtain ⟨x, hx⟩ := hgn
  obtain ⟨y, hy⟩ := hgd
  rw [hx, Nat.mul_div_cancel_left _ hg0] at q1 hco
  rw [hy, Nat.mul_div_cancel_left _ hg0] at q2 hco
  have hz : (⟨(sgn n).neg, A⟩ : Sg).z = if n < 0 then -(x : Int) else (x : Int) := by
    unfold sgn Sg.z
    dsimp only
    rw [q1]
    by_cases c : n < 0
    · rw [decide_eq_true c, if_pos rfl, if_pos c]
    · rw [decide_eq_false c, if_neg (by decide), if_neg c]
  have hzl := Sg.z_lt ⟨(sgn n).neg, A⟩
  have hza : (⟨(sgn n).neg, A⟩ : Sg).z.natAbs = x := by rw [Sg.abs]; exact q1
  refine ⟨?_, ?_, ?_, ?_⟩
  · show (sgn (⟨(sgn n).neg, A⟩ : Sg).z).z * d = n * (B.n : Int)
    rw [sgn_z hzl, hz, q2]
    have e1 : d = (g : Int) * (y : Int) := by rw [← Int.natCast_mul, ← hy]; omega
    have e2 : n = if n < 0 then -((g : Int) * (x : Int)) else (g : Int) * (x : Int) := by rw [← Int.natCast_mul, ← hx]; split <;> omega
    by_cases c : n < 0
    · rw [if_pos c] at e2 ⊢
      grind
    · rw [if_neg c] at e2 ⊢
      grind
  · show sgn (⟨(sgn n).neg, A⟩ : Sg).z = sgn (sgn (⟨(sgn n).neg, A⟩ : Sg).z).z
    rw [sgn_z hzl]
  · show Nat.gcd (sgn (⟨(sgn n).neg, A⟩ : Sg).z).mag.n B.n = 1
    rw [sgn_mag hzl, hza, q2]
    exact hco
  · show 0 < B.n
    rw [q2]
    rcases Nat.eq_zero_or_pos y with c | c
    · rw [c] at hy
      omega
    · exact c
end Go.Proofs.YtmoppmfbfpjdnaaGreat
namespace Go.Proofs.YtmoppmfbfpjdnaaGreat
open Go.RowKit
open R (In64 InU64 lo64 nth)

/-- A number of not more than k bits. -/
def BZ (k : Nat) (z : Int) : Prop := z.natAbs < 2 ^ k
theorem BZ.mono {i j : Nat} {a : Int} (h : BZ i a) (hij : i ≤ j) : BZ j a := Nat.lt_of_lt_of_le h (Nat.pow_le_pow_right (by decide) hij)
theorem BZ.mul {i j : Nat} {a b : Int} (ha : BZ i a) (hb : BZ j b) : BZ (i + j) (a * b) := by
  unfold BZ at *
  rw [Int.natAbs_mul, Nat.pow_add]
  exact Nat.mul_lt_mul_of_lt_of_le ha (Nat.le_of_lt hb) (Nat.two_pow_pos j)
theorem BZ.add {i : Nat} {a b : Int} (ha : BZ i a) (hb : BZ i b) : BZ (i + 1) (a + b) := by
  unfold BZ at *
  rw [Nat.pow_succ]
  omega
theorem BZ.sub {i : Nat} {a b : Int} (ha : BZ i a) (hb : BZ i b) : BZ (i + 1) (a - b) := by
  unfold BZ at *
  rw [Nat.pow_succ]
  omega
theorem BZ.fit {k : Nat} {z : Int} (h : BZ k z) (hk : k ≤ 512) : z.natAbs < W512 := by
  refine Nat.lt_of_lt_of_le (h.mono hk) (Nat.le_of_eq ?_)
  decide +kernel
theorem BZ.res {k : Nat} {z : Int} (h : BZ k z) (hk : k ≤ 512) : (resZ z).z = z := by rw [res_fit (h.fit hk), sgn_z (h.fit hk)]
attribute [irreducible] BZ
theorem near_of {a : Sp} (h : nearS a = true) : BZ 92 a.x.z ∧ BZ 92 a.y.z ∧ BZ 62 (a.w.n : Int) ∧ mayS a = true := by
  unfold nearS at h
  simp only [Bool.and_eq_true, decide_eq_true_eq] at h
  obtain ⟨h1, h2, h3, h4⟩ := h
  have key : ∀ {n k : Nat}, ((bitLen n : Nat) : Int) ≤ (k : Nat) → n < 2 ^ k := fun {n k} h => Nat.lt_of_lt_of_le (bitLen_spec n).1 (Nat.pow_le_pow_right (by decide) (by omega))
  refine ⟨?_, ?_, ?_, h4⟩
  · unfold BZ
    rw [Sg.abs]
    exact key h1
  · unfold BZ
    rw [Sg.abs]
    exact key h2
  · unfold BZ
    rw [Int.natAbs_natCast]
    exact key h3
theorem may_of {a : Sp} (h : mayS a = true) : 0 < a.w.n ∧ Nat.gcd (Nat.gcd a.x.mag.n a.y.mag.n) a.w.n = 1 ∧ a.x = sgn a.x.z ∧ a.y = sgn a.y.z := by
  unfold mayS at h
  simp only [Bool.and_eq_true, Bool.not_eq_true', decide_eq_true_eq, decide_eq_false_iff_not] at h
  obtain ⟨h0, _, _, _, h4⟩ := h
  have e1 : a.x = (lowS a.x a.y a.w).x := congrArg Sp.x h4
  have e2 : a.y = (lowS a.x a.y a.w).y := congrArg Sp.y h4
  have e3 : a.w = (lowS a.x a.y a.w).w := congrArg Sp.w h4
  have fx : ∀ {s : Sg} {z : Sg}, s = sgn z.z → s = sgn s.z := fun {s z} e => by rw [e, sgn_z (Sg.z_lt z)]
  refine ⟨by omega, ?_, fx e1, fx e2⟩
  have e4 : a.w.n = a.w.n / (gS a.x a.y a.w).n := by
    have := congrArg Wd.n e3
    rwa [show (lowS a.x a.y a.w).w = qW a.w (gS a.x a.y a.w) from rfl, qWn] at this
  have e5 : (gS a.x a.y a.w).n = Nat.gcd (Nat.gcd a.x.mag.n a.y.mag.n) a.w.n := by unfold gS; rw [gcdW_n, gcdW_n]
  rw [← e5]
  rcases Nat.lt_or_ge 1 (gS a.x a.y a.w).n with c | c
  · have := Nat.div_lt_self (n := a.w.n) (by omega) c
    omega
  · rcases Nat.eq_zero_or_pos (gS a.x a.y a.w).n with d | d
    · rw [d, Nat.div_zero] at e4
      omega
    · omega
def lineL (a b : Sp) (p : Pt) : Ln := ⟨a.x.z, a.y.z, a.w.n, b.x.z, b.y.z, b.w.n, p.x, p.y⟩
theorem line_swap (a b : Sp) (p : Pt) : lineL b a p = (lineL a b p).swap := rfl
structure NearL (a b : Sp) (p : Pt) : Prop where
  na : nearS a = true
  nb : nearS b = true
  ne : a ≠ b
  pt : ptB p = true
theorem NearL.of {a b : Sp} {p : Pt} (h : lineB a b p = true) : NearL a b p := by
  unfold lineB at h
  simp only [Bool.and_eq_true, Bool.not_eq_true', decide_eq_false_iff_not] at h
  exact ⟨h.1, h.2.1, h.2.2.1, h.2.2.2⟩
theorem NearL.swap {a b : Sp} {p : Pt} (h : NearL a b p) : NearL b a p := ⟨h.nb, h.na, fun e => h.ne e.symm, h.pt⟩
theorem NearL.line {a b : Sp} {p : Pt} (h : NearL a b p) : lineB a b p = true := by
  unfold lineB
  rw [h.na, h.nb, h.pt, decide_eq_false h.ne]
  rfl
section
variable {a b : Sp} {p : Pt} (h : NearL a b p)
include h
theorem NearL.pb : BZ 30 p.x ∧ BZ 30 p.y := by
  have := h.pt
  unfold ptB at this
  simp only [Bool.and_eq_true, decide_eq_true_eq] at this
  unfold BZ
  omega
theorem NearL.aw : 0 < (lineL a b p).aw := by
  have := (may_of (near_of h.na).2.2.2).1
  show (0 : Int) < (a.w.n : Int)
  omega
theorem NearL.bw : 0 < (lineL a b p).bw := h.swap.aw
theorem NearL.U : BZ 93 (lineL a b p).Ux ∧ BZ 93 (lineL a b p).Uy := by
  obtain ⟨a1, a2, a3, -⟩ := near_of h.na
  obtain ⟨p1, p2⟩ := h.pb
  exact ⟨((p1.mul a3).sub (i := 92) a1), ((p2.mul a3).sub (i := 92) a2)⟩
theorem NearL.T : BZ 93 (lineL a b p).Tx ∧ BZ 93 (lineL a b p).Ty := h.swap.U
theorem NearL.V : BZ 155 (lineL a b p).Vx ∧ BZ 155 (lineL a b p).Vy := by
  obtain ⟨a1, a2, a3, -⟩ := near_of h.na
  obtain ⟨b1, b2, b3, -⟩ := near_of h.nb
  exact ⟨(b1.mul a3).sub (a1.mul b3), (b2.mul a3).sub (a2.mul b3)⟩
theorem NearL.to : toW a p = ⟨sgn (lineL a b p).Ux, sgn (lineL a b p).Uy⟩ := by
  obtain ⟨a1, a2, a3, -⟩ := near_of h.na
  obtain ⟨p1, p2⟩ := h.pb
  obtain ⟨u1, u2⟩ := h.U
  unfold toW
  rw [sgn_z (p1.fit (by decide)), sgn_z (p2.fit (by decide))]
  show (⟨resZ ((resZ (p.x * (a.w.n : Int))).z - a.x.z), resZ ((resZ (p.y * (a.w.n : Int))).z - a.y.z)⟩ : Wy) = _
  rw [(p1.mul a3).res (by decide), (p2.mul a3).res (by decide)]
  show (⟨resZ (lineL a b p).Ux, resZ (lineL a b p).Uy⟩ : Wy) = _
  rw [res_fit (u1.fit (by decide)), res_fit (u2.fit (by decide))]
theorem NearL.btw : btwW a b = ⟨sgn (lineL a b p).Vx, sgn (lineL a b p).Vy⟩ := by
  obtain ⟨a1, a2, a3, -⟩ := near_of h.na
  obtain ⟨b1, b2, b3, -⟩ := near_of h.nb
  obtain ⟨u1, u2⟩ := h.V
  unfold btwW
  show (⟨resZ ((resZ (b.x.z * (a.w.n : Int))).z - (resZ (a.x.z * (b.w.n : Int))).z), resZ ((resZ (b.y.z * (a.w.n : Int))).z - (resZ (a.y.z * (b.w.n : Int))).z)⟩ : Wy) = _
  rw [(b1.mul a3).res (by decide), (b2.mul a3).res (by decide), (a1.mul b3).res (by decide), (a2.mul b3).res (by decide)]
  show (⟨resZ (lineL a b p).Vx, resZ (lineL a b p).Vy⟩ : Wy) = _
  rw [res_fit (u1.fit (by decide)), res_fit (u2.fit (by decide))]
omit h
theorem dot_fit {i j : Nat} {x y u v : Int} (hx : BZ i x) (hy : BZ i y) (hu : BZ j u) (hv : BZ j v) (hk : i + j + 1 ≤ 512) : dotW ⟨sgn x, sgn y⟩ ⟨sgn u, sgn v⟩ = sgn (x * u + y * v) ∧ BZ (i + j + 1) (x * u + y * v) := by
  have h1 := (hx.mul hu).add (hy.mul hv)
  refine ⟨?_, h1⟩
  unfold dotW
  rw [sgn_z (hx.fit (by omega)), sgn_z (hy.fit (by omega)), sgn_z (hu.fit (by omega)), sgn_z (hv.fit (by omega)), (hx.mul hu).res (by omega), (hy.mul hv).res (by omega), res_fit (h1.fit hk)]
theorem cross_fit {i j : Nat} {x y u v : Int} (hx : BZ i x) (hy : BZ i y) (hu : BZ j u) (hv : BZ j v) (hk : i + j + 1 ≤ 512) : crossW ⟨sgn x, sgn y⟩ ⟨sgn u, sgn v⟩ = sgn (x * v - y * u) ∧ BZ (i + j + 1) (x * v - y * u) := by
  have h1 := (hx.mul hv).sub (hy.mul hu)
  refine ⟨?_, h1⟩
  unfold crossW
  rw [sgn_z (hx.fit (by omega)), sgn_z (hy.fit (by omega)), sgn_z (hu.fit (by omega)), sgn_z (hv.fit (by omega)), (hx.mul hv).res (by omega), (hy.mul hu).res (by omega), res_fit (h1.fit hk)]
include h
theorem NearL.N : partN a b p = sgn (lineL a b p).N ∧ BZ 311 (lineL a b p).N := by
  obtain ⟨b1, b2, b3, -⟩ := near_of h.nb
  obtain ⟨u1, u2⟩ := h.U
  obtain ⟨v1, v2⟩ := h.V
  obtain ⟨d1, d2⟩ := dot_fit u1 u2 v1 v2 (by decide)
  have h1 : BZ 311 (lineL a b p).N := d2.mul b3
  refine ⟨?_, h1⟩
  unfold partN
  rw [h.to, h.btw, d1, sgn_z (d2.fit (by decide))]
  show resZ (lineL a b p).N = _
  rw [res_fit (h1.fit (by decide))]
theorem NearL.D : partD a b = sgn (lineL a b p).D ∧ BZ 311 (lineL a b p).D := by
  obtain ⟨v1, v2⟩ := h.V
  obtain ⟨d1, d2⟩ := dot_fit v1 v2 v1 v2 (by decide)
  unfold partD
  rw [h.btw]
  exact ⟨d1, d2⟩
theorem NearL.Dpos : 0 < (lineL a b p).D := by
  obtain ⟨a1, a2, a3, a4⟩ := may_of (near_of h.na).2.2.2
  obtain ⟨b1, b2, b3, b4⟩ := may_of (near_of h.nb).2.2.2
  have hx := Ln.sq_nn (lineL a b p).Vx
  have hy := Ln.sq_nn (lineL a b p).Vy
  rcases Int.lt_or_le 0 (lineL a b p).D with c | c
  · exact c
  exfalso
  unfold Ln.D at c
  have x0 : (lineL a b p).Vx = 0 := by
    rcases Int.mul_eq_zero.1 (show (lineL a b p).Vx * (lineL a b p).Vx = 0 by omega) with e | e <;> exact e
  have y0 : (lineL a b p).Vy = 0 := by
    rcases Int.mul_eq_zero.1 (show (lineL a b p).Vy * (lineL a b p).Vy = 0 by omega) with e | e <;> exact e
  have ex : b.x.z * (a.w.n : Int) = a.x.z * (b.w.n : Int) := by
    have : b.x.z * (a.w.n : Int) - a.x.z * (b.w.n : Int) = 0 := x0
    omega
  have ey : b.y.z * (a.w.n : Int) = a.y.z * (b.w.n : Int) := by
    have : b.y.z * (a.w.n : Int) - a.y.z * (b.w.n : Int) = 0 := y0
    omega
  have nx : b.x.mag.n * a.w.n = a.x.mag.n * b.w.n := by
    have := congrArg Int.natAbs ex
    rwa [Int.natAbs_mul, Int.natAbs_mul, Sg.abs, Sg.abs, Int.natAbs_natCast, Int.natAbs_natCast] at this
  have ny : b.y.mag.n * a.w.n = a.y.mag.n * b.w.n := by
    have := congrArg Int.natAbs ey
    rwa [Int.natAbs_mul, Int.natAbs_mul, Sg.abs, Sg.abs, Int.natAbs_natCast, Int.natAbs_natCast] at this
  have hw : a.w.n = b.w.n := by
    have e1 : Nat.gcd (Nat.gcd (b.x.mag.n * a.w.n) (b.y.mag.n * a.w.n)) (b.w.n * a.w.n) = a.w.n := by
      rw [Nat.gcd_mul_right, Nat.gcd_mul_right, b2, Nat.one_mul]
    have e2 : Nat.gcd (Nat.gcd (a.x.mag.n * b.w.n) (a.y.mag.n * b.w.n)) (a.w.n * b.w.n) = b.w.n := by
      rw [Nat.gcd_mul_right, Nat.gcd_mul_right, a2, Nat.one_mul]
    rw [nx, ny, Nat.mul_comm b.w.n a.w.n, e2] at e1
    exact e1.symm
  have hn0 : (a.w.n : Int) ≠ 0 := by omega
  rw [← hw] at ex ey
  have zx := Int.eq_of_mul_eq_mul_right hn0 ex
  have zy := Int.eq_of_mul_eq_mul_right hn0 ey
  exact h.ne (Sp.ext_iff.2 ⟨by rw [a3, b3, zx], by rw [a4, b4, zy], Wd.ext_ hw⟩)
theorem NearL.sqA : squareA a b p = ofR (sgn ((lineL a b p).X * (lineL a b p).X)) (sgn ((lineL a b p).aw * (lineL a b p).aw * (lineL a b p).D)) ∧ BZ 498 ((lineL a b p).X * (lineL a b p).X) ∧ BZ 435 ((lineL a b p).aw * (lineL a b p).aw * (lineL a b p).D) := by
  obtain ⟨a1, a2, a3, -⟩ := near_of h.na
  obtain ⟨u1, u2⟩ := h.U
  obtain ⟨v1, v2⟩ := h.V
  obtain ⟨c1, c2⟩ := cross_fit u1 u2 v1 v2 (by decide)
  obtain ⟨d1, d2⟩ := h.D
  have c3 : BZ 498 ((lineL a b p).X * (lineL a b p).X) := c2.mul c2
  have w2 : BZ 124 ((a.w.n : Int) * (a.w.n : Int)) := a3.mul a3
  have d3 : BZ 435 ((lineL a b p).aw * (lineL a b p).aw * (lineL a b p).D) := w2.mul d2
  refine ⟨?_, c3, d3⟩
  unfold squareA
  have e1 : crossW (toW a p) (btwW a b) = sgn (lineL a b p).X := by rw [h.to, h.btw]; exact c1
  have e2 : dotW (btwW a b) (btwW a b) = sgn (lineL a b p).D := d1
  rw [e1, e2, sgn_z (z := (lineL a b p).X) (c2.fit (by decide)), res_fit (c3.fit (by decide)), sgn_z (d2.fit (by decide))]
  show ofR _ (resZ ((resZ ((a.w.n : Int) * (a.w.n : Int))).z * (lineL a b p).D)) = _
  rw [w2.res (by decide)]
  show ofR _ (resZ ((lineL a b p).aw * (lineL a b p).aw * (lineL a b p).D)) = _
  rw [res_fit (d3.fit (by decide))]
theorem NearL.sqB : squareB a p = ofR (sgn (lineL a b p).EA) (sgn ((lineL a b p).aw * (lineL a b p).aw)) ∧ BZ 187 (lineL a b p).EA ∧ BZ 124 ((lineL a b p).aw * (lineL a b p).aw) := by
  obtain ⟨a1, a2, a3, -⟩ := near_of h.na
  obtain ⟨u1, u2⟩ := h.U
  obtain ⟨c1, c2⟩ := dot_fit u1 u2 u1 u2 (by decide)
  have w2 : BZ 124 ((a.w.n : Int) * (a.w.n : Int)) := a3.mul a3
  refine ⟨?_, c2, w2⟩
  unfold squareB
  rw [h.to, c1]
  show ofR _ (resZ ((a.w.n : Int) * (a.w.n : Int))) = _
  rw [res_fit (w2.fit (by decide))]
  rfl
/-- What far answers, as whole numbers. -/
theorem NearL.cases : (0 < (partN a b p).z ↔ 0 < (lineL a b p).N) ∧ ((partN a b p).z < (partD a b).z ↔ (lineL a b p).N < (lineL a b p).D) := by
  obtain ⟨n1, n2⟩ := h.N
  obtain ⟨d1, d2⟩ := h.D
  rw [n1, d1, sgn_z (n2.fit (by decide)), sgn_z (d2.fit (by decide))]
  exact ⟨Iff.rfl, Iff.rfl⟩
theorem NearL.square : ∃ n d, 0 < d ∧ IsR n d (squareR a b p) ∧ (lineL a b p).squareQ.1 * d = n * (lineL a b p).squareQ.2 := by
  obtain ⟨k1, k2⟩ := h.cases
  have ha := h.aw
  have hb := h.bw
  have hD := h.Dpos
  unfold squareR
  rcases Int.lt_or_le 0 (lineL a b p).N with h0 | h0
  · rcases Int.lt_or_le (lineL a b p).N (lineL a b p).D with h1 | h1
    · rw [if_pos ⟨k1.2 h0, k2.2 h1⟩]
      obtain ⟨s1, s2, s3⟩ := h.sqA
      have hd := Int.mul_pos (Int.mul_pos ha ha) hD
      rw [s1]
      exact ⟨_, _, hd, ofR_is (s2.fit (by decide)) hd (s3.fit (by decide)), (lineL a b p).sq_in ha hb hD h0 h1⟩
    · have q : ¬ (partN a b p).z < (partD a b).z := fun c => by have := k2.1 c; omega
      rw [if_neg (fun c => q c.2), if_pos (by omega)]
      obtain ⟨s1, s2, s3⟩ := h.swap.sqB
      have hd := Int.mul_pos hb hb
      rw [s1]
      exact ⟨_, _, hd, ofR_is (s2.fit (by decide)) hd (s3.fit (by decide)), (lineL a b p).sq_hi ha hb hD h1⟩
  · have q : ¬ 0 < (partN a b p).z := fun c => by have := k1.1 c; omega
    have q2 : (partN a b p).z < (partD a b).z := k2.2 (by omega)
    rw [if_neg (fun c => q c.1), if_neg (by omega)]
    obtain ⟨s1, s2, s3⟩ := h.sqB
    have hd := Int.mul_pos ha ha
    rw [s1]
    exact ⟨_, _, hd, ofR_is (s2.fit (by decide)) hd (s3.fit (by decide)), (lineL a b p).sq_lo ha hb hD h0⟩
theorem NearL.part : (∃ n d, 0 < d ∧ IsR n d (partR a b p) ∧ (lineL a b p).partQ.1 * d = n * (lineL a b p).partQ.2) ∧ fpartE a b p = 0 := by
  obtain ⟨k1, k2⟩ := h.cases
  have ha := h.aw
  have hb := h.bw
  have hD := h.Dpos
  obtain ⟨n1, n2⟩ := h.N
  obtain ⟨d1, d2⟩ := h.D
  have one : ∀ z : Int, z.natAbs < 2 → IsR z 1 ⟨sgn z, W 1⟩ := fun z hz => by
    have w1 : (W 1).n = 1 := wlx (by decide)
    have hz' : z.natAbs < W512 := Nat.lt_of_lt_of_le hz (by decide +kernel)
    refine ⟨?_, ?_, ?_, ?_⟩
    · show (sgn z).z * 1 = z * ((W 1).n : Int)
      rw [w1, sgn_z hz']
      omega
    · show sgn z = sgn (sgn z).z
      rw [sgn_z hz']
    · show Nat.gcd _ (W 1).n = 1
      rw [w1, Nat.gcd_one_right]
    · show 0 < (W 1).n
      rw [w1]
      decide
  unfold partR fpartE
  rcases Int.lt_or_le 0 (lineL a b p).N with h0 | h0
  · have c1 : ¬ (partN a b p).z ≤ 0 := by have := k1.2 h0; omega
    rw [if_neg c1, if_neg c1]
    rcases Int.lt_or_le (lineL a b p).N (lineL a b p).D with h1 | h1
    · have c2 : ¬ (partD a b).z ≤ (partN a b p).z := by have := k2.2 h1; omega
      rw [if_neg c2, if_neg c2, n1, d1]
      obtain ⟨e1, -⟩ := (lineL a b p).part_in ha hb hD h0 h1
      refine ⟨⟨_, _, hD, ofR_is (n2.fit (by decide)) hD (d2.fit (by decide)), ?_⟩, ?_⟩
      · rw [e1]
        dsimp only
        grind
      · unfold eW
        rw [sgn_mag (d2.fit (by decide)), if_neg (by omega)]
    · have q : ¬ (partN a b p).z < (partD a b).z := fun c => by have := k2.1 c; omega
      have c2 : (partD a b).z ≤ (partN a b p).z := by omega
      rw [if_pos c2, if_pos c2]
      obtain ⟨e1, -⟩ := (lineL a b p).part_hi ha hb hD h1
      exact ⟨⟨1, 1, by decide, one 1 (by decide), by omega⟩, rfl⟩
  · have q : ¬ 0 < (partN a b p).z := fun c => by have := k1.1 c; omega
    have c1 : (partN a b p).z ≤ 0 := by omega
    rw [if_pos c1, if_pos c1]
    obtain ⟨e1, -⟩ := (lineL a b p).part_lo ha hb hD h0
    exact ⟨⟨0, 1, by decide, one 0 (by decide), by omega⟩, rfl⟩
/-- Turned about, a point is as far. -/
theorem NearL.turn : squareR b a p = squareR a b p := by
  obtain ⟨k1, k2⟩ := h.cases
  obtain ⟨j1, j2⟩ := h.swap.cases
  have ha := h.aw
  have hb := h.bw
  have hD := h.Dpos
  rw [line_swap a b p, Ln.swap_N] at j1 j2
  rw [Ln.swap_D] at j2
  unfold squareR
  rcases Int.lt_or_le 0 (lineL a b p).N with h0 | h0
  · rcases Int.lt_or_le (lineL a b p).N (lineL a b p).D with h1 | h1
    · rw [if_pos ⟨j1.2 (by omega), j2.2 (by omega)⟩, if_pos ⟨k1.2 h0, k2.2 h1⟩]
      obtain ⟨s1, s2, s3⟩ := h.sqA
      obtain ⟨t1, t2, t3⟩ := h.swap.sqA
      have hd := Int.mul_pos (Int.mul_pos ha ha) hD
      have hd2 := Int.mul_pos (Int.mul_pos h.swap.aw h.swap.aw) h.swap.Dpos
      rw [s1, t1]
      refine (ofR_is (t2.fit (by decide)) hd2 (t3.fit (by decide))).uniq (ofR_is (s2.fit (by decide)) hd (s3.fit (by decide))) hd2 hd ?_
      have e := (lineL a b p).swap_X
      rw [line_swap a b p, Ln.swap_D]
      show (lineL a b p).swap.X * (lineL a b p).swap.X * _ = _ * ((lineL a b p).bw * (lineL a b p).bw * (lineL a b p).D)
      grind
    · have q1 : ¬ (partN a b p).z < (partD a b).z := fun c => by have := k2.1 c; omega
      have q2 : ¬ 0 < (partN b a p).z := fun c => by have := j1.1 c; omega
      have q3 : (partN b a p).z < (partD b a).z := j2.2 (by omega)
      rw [if_neg (fun c => q2 c.1), if_neg (by omega), if_neg (fun c => q1 c.2), if_pos (by omega)]
  · have q1 : ¬ 0 < (partN a b p).z := fun c => by have := k1.1 c; omega
    have q2 : (partN a b p).z < (partD a b).z := k2.2 (by omega)
    have q3 : ¬ (partN b a p).z < (partD b a).z := fun c => by have := j2.1 c; omega
    rw [if_neg (fun c => q3 c.2), if_pos (by omega), if_neg (fun c => q1 c.1), if_neg (by omega)]
end
end Go.Proofs.YtmoppmfbfpjdnaaGreat
namespace Go.Proofs.YtmoppmfbfpjdnaaGreat
open Go.RowKit
open R (In64 InU64 lo64 nth)

/-- A number as it was laid; trimmed. -/
def Nm.t (x : Nm) : Nm := ⟨x.neg, x.A, trimN x.L, x.c, x.L.take (trimN x.L)⟩
theorem Nm.t_z (x : Nm) : x.t.z = x.z := by unfold Nm.t; rw [nm_z, trimN_dv]; rfl
abbrev rowN (x : Nm) : R.Res := .row x.A x.n x.c 42 1 (x.L.flatMap R.cU)
def RawN (k : Nat) (x : Nm) : Prop := x.n = x.L.length ∧ DigI x.L ∧ x.n ≤ k
theorem RawN.mono {k m : Nat} {x : Nm} (h : RawN k x) (hk : k ≤ m) : RawN m x := ⟨h.1, h.2.1, Nat.le_trans h.2.2 hk⟩
theorem GNm.of {W w : World} {l : List R.Res} {x : Nm} {k : Nat} (hM : R.Own [] W w l) (hm : rowN x ∈ l) (h : RawN k x) : GNm k w x.t := GNm.trim hM hm h.1 h.2.1 (row_capN hM hm) h.2.2
theorem GNm.mono {k m : Nat} {w : World} {x : Nm} (h : GNm k w x) (hk : k ≤ m) : GNm m w x := ⟨h.1, h.2.1, h.2.2.1, h.2.2.2.1, Nat.le_trans h.2.2.2.2 hk⟩
theorem GNm.neg {k : Nat} {w : World} {x : Nm} (h : GNm k w x) : GNm k w ⟨!x.neg, x.A, x.n, x.c, x.L⟩ := h
def Fr.t (x : Fr) : Fr := ⟨x.n.t, x.d.t⟩
def RawF (k : Nat) (x : Fr) : Prop := RawN k x.n ∧ RawN k x.d
def GFr (k : Nat) (w : World) (x : Fr) : Prop := GNm k w x.n ∧ GNm k w x.d
theorem RawF.mono {k m : Nat} {x : Fr} (h : RawF k x) (hk : k ≤ m) : RawF m x := ⟨h.1.mono hk, h.2.mono hk⟩
theorem GFr.of {W w : World} {l : List R.Res} {x : Fr} {k : Nat} (hM : R.Own [] W w l) (h1 : rowN x.n ∈ l) (h2 : rowN x.d ∈ l) (h : RawF k x) : GFr k w x.t := ⟨GNm.of hM h1 h.1, GNm.of hM h2 h.2⟩
theorem GFr.mono {k m : Nat} {w : World} {x : Fr} (h : GFr k w x) (hk : k ≤ m) : GFr m w x := ⟨h.1.mono hk, h.2.mono hk⟩
theorem GFr.ext {k : Nat} {w w' : World} {x : Fr} (h : GFr k w x) (hb : Below w.heap.size w w') : GFr k w' x := ⟨h.1.ext hb, h.2.ext hb⟩
/-- A fraction's number and divisor. -/
def Fr.q (x : Fr) : Int × Int := (x.n.z, x.d.z)
theorem Fr.t_q (x : Fr) : x.t.q = x.q := by
  show (x.n.t.z, x.d.t.z) = _
  rw [Nm.t_z, Nm.t_z]
  rfl
theorem R.Own.give1 {F : List Nat} {W w w' : World} {l : List R.Res} {a : R.Res} (h : R.Own F W w l) (hc : R.Own [] w w' [a]) : R.Own F W w' (a :: l) := (show R.Own F W w' (l ++ [a]) from R.Own.callF (l := l) (lc := []) (by rw [List.append_nil]; exact h) hc).perm (List.perm_append_comm (l₁ := [a]) (l₂ := l))
theorem R.Own.give2 {F : List Nat} {W w w' : World} {l : List R.Res} {a b : R.Res} (h : R.Own F W w l) (hc : R.Own [] w w' [a, b]) : R.Own F W w' (a :: b :: l) := (show R.Own F W w' (l ++ [a, b]) from R.Own.callF (l := l) (lc := []) (by rw [List.append_nil]; exact h) hc).perm (List.perm_append_comm (l₁ := [a, b]) (l₂ := l))
attribute [local irreducible] W512 digsL trimN in
set_option maxHeartbeats 2000000 in
theorem m_of (a : Sg) (w : World) : Calls Tryz.prog 9 #[.agg (cS a).toArray] w fun e w' => ∃ x : Nm, e = .returned (.agg (cNm x.t).toArray) ∧ R.Own [] w w' [rowN x] ∧ RawN 32 x ∧ x.z = a.z := by
  have hM := R.Own.start [] w
  have d1 := digsL_dig a.mag.n 32
  have d3 := digsL_len a.mag.n 32
  have d5 := digsL_whole a.mag
  refine R.calls_of_WC (fn := Tryz.f9) Tryz.func9 rfl Tryz.ntmps9 (Nat.le_of_ble_eq_true rfl) ?_
  (refine R.stepU ?_; (repeat' (first | (with_reducible refine And.intro ?_ ?_) | (with_reducible intro _))); all_goals refine R.Lft.mk ?_)
  refine R.WC_planX [(0, false), (1, false), (2, false), (3, false), (4, true), (5, true), (6, false), (7, true)] R.mixed (by decide +kernel) R.ohm ?_
  (refine R.stepU ?_; (repeat' (first | (with_reducible refine And.intro ?_ ?_) | (with_reducible intro _))); all_goals refine R.Lft.mk ?_)
  rename_i A c _ hM
  refine R.WO_call1 rfl rfl R.vv ?_
  refine ((con_trim A 32 c).h (digsL a.mag.n 32) _ ⟨R.Own.inp hM (.head _), d3.symm, d1, row_capN hM (.head _), by omega⟩).mono ?_
  rintro _ w4 ⟨rfl, rfl⟩
  refine ⟨_, rfl, ?_⟩
  (refine R.stepU ?_; (repeat' (first | (with_reducible refine And.intro ?_ ?_) | (with_reducible intro _))); all_goals refine R.Lft.mk ?_)
  rename_i hM
  exact ⟨⟨a.neg, A, 32, c, digsL a.mag.n 32⟩, rfl, R.Own.sub hM (List.Sublist.cons_cons _ (List.nil_sublist _)), ⟨d3.symm, d1, Nat.le_refl _⟩, by rw [nm_z, d5]; rfl⟩
attribute [local irreducible] W512 trimN in
set_option maxHeartbeats 2000000 in
theorem m_mul (x y : Nm) (k m : Nat) (w : World) (hx : GNm k w x) (hy : GNm m w y) (hk : k ≤ 10000) (hm : m ≤ 10000) : Calls Tryz.prog 32 #[.agg (cNm x).toArray, .agg (cNm y).toArray] w fun e w' => ∃ z : Nm, e = .returned (.agg (cNm z.t).toArray) ∧ R.Own [] w w' [rowN z] ∧ RawN (k + m) z ∧ z.z = x.z * y.z := by
  have hM := R.Own.start [] w
  obtain ⟨x1, x2, x3, x4, x5⟩ := hx
  obtain ⟨y1, y2, y3, y4, y5⟩ := hy
  refine R.calls_of_WC (fn := Tryz.f32) Tryz.func32 rfl Tryz.ntmps32 (Nat.le_of_ble_eq_true rfl) ?_
  (refine R.stepU ?_; (repeat' (first | (with_reducible refine And.intro ?_ ?_) | (with_reducible intro _))); all_goals refine R.Lft.mk ?_)
  refine R.WC_planX [(0, false), (1, false), (2, false), (3, false), (4, false), (5, false), (6, false), (7, false), (8, false), (9, true), (10, true), (11, false), (12, true)] R.mixed (by decide +kernel) R.ohm ?_
  (refine R.stepU ?_; (repeat' (first | (with_reducible refine And.intro ?_ ?_) | (with_reducible intro _))); all_goals refine R.Lft.mk ?_)
  rename_i hM
  refine R.WO_call2 rfl rfl R.vv R.vv ?_
  refine (times_i x.A y.A x.n x.c y.n y.c x.L y.L _ (hM.inpIn x1) x2 x3 (by omega) (hM.inpIn y1) y2 y3 (by omega)).mono ?_
  rintro _ w4 ⟨A1, zs, rfl, hG, hl, hd, hv⟩
  have hM := R.Own.give hM hG
  refine ⟨_, rfl, ?_⟩
  (refine R.stepU ?_; (repeat' (first | (with_reducible refine And.intro ?_ ?_) | (with_reducible intro _))); all_goals refine R.Lft.mk ?_)
  rename_i hM
  exact ⟨⟨!(x.neg == y.neg), A1, x.n + y.n, x.n + y.n, zs⟩, rfl, R.Own.sub hM (List.Sublist.cons_cons _ (List.nil_sublist _)), ⟨hl, hd, by dsimp only; omega⟩, by rw [nm_z, hv]; exact mul_sign _ _ _ _⟩
attribute [local irreducible] W512 trimN in
set_option maxHeartbeats 2000000 in
theorem m_add (x y : Nm) (k : Nat) (w : World) (hx : GNm k w x) (hy : GNm k w y) (hk : k ≤ 10000) : Calls Tryz.prog 31 #[.agg (cNm x).toArray, .agg (cNm y).toArray] w fun e w' => ∃ z : Nm, e = .returned (.agg (cNm z.t).toArray) ∧ R.Own [] w w' [rowN z] ∧ RawN (k + 1) z ∧ z.z = x.z + y.z := by
  have hM := R.Own.start [] w
  obtain ⟨x1, x2, x3, x4, x5⟩ := hx
  obtain ⟨y1, y2, y3, y4, y5⟩ := hy
  by_cases hs : x.neg = y.neg
  · refine R.calls_of_WC (fn := Tryz.f31) Tryz.func31 rfl Tryz.ntmps31 (Nat.le_of_ble_eq_true rfl) ?_
    (refine R.stepU ?_; (repeat' (first | (with_reducible refine And.intro ?_ ?_) | (with_reducible intro _))); all_goals refine R.Lft.mk ?_)
    refine R.WC_planX [(0, false), (1, false), (2, false), (3, false), (4, false), (5, false), (6, true), (7, true), (8, false), (9, true)] R.mixed (by decide +kernel) R.ohm ?_
    (refine R.stepU ?_; (repeat' (first | (with_reducible refine And.intro ?_ ?_) | (with_reducible intro _))); all_goals refine R.Lft.mk ?_)
    rename_i hM
    refine R.WO_call2 rfl rfl R.vv R.vv ?_
    refine (plus_i x.A y.A x.n x.c y.n y.c x.L y.L _ (hM.inpIn x1) x2 x3 (by omega) (hM.inpIn y1) y2 y3 (by omega)).mono ?_
    rintro _ w4 ⟨A1, c1, n1, zs, rfl, hG, hl, hd, hv, hn1⟩
    have hM := R.Own.give hM hG
    refine ⟨_, rfl, ?_⟩
    (refine R.stepU ?_; (repeat' (first | (with_reducible refine And.intro ?_ ?_) | (with_reducible intro _))); all_goals refine R.Lft.mk ?_)
    refine R.WO_call1 rfl rfl R.vv ?_
    refine ((con_trim A1 n1 c1).h zs _ ⟨R.Own.inp hM (.head _), hl, hd, row_capN hM (.head _), by omega⟩).mono ?_
    rintro _ w5 ⟨rfl, rfl⟩
    refine ⟨_, rfl, ?_⟩
    (refine R.stepU ?_; (repeat' (first | (with_reducible refine And.intro ?_ ?_) | (with_reducible intro _))); all_goals refine R.Lft.mk ?_)
    rename_i hM
    exact ⟨⟨x.neg, A1, n1, c1, zs⟩, rfl, R.Own.sub hM (List.Sublist.cons_cons _ (List.nil_sublist _)), ⟨hl, hd, by dsimp only; omega⟩, by
      rw [nm_z, hv]
      unfold Nm.z
      rw [← hs]
      split <;> omega⟩
  · refine R.calls_of_WC (fn := Tryz.f31) Tryz.func31 rfl Tryz.ntmps31 (Nat.le_of_ble_eq_true rfl) ?_
    (refine R.stepU ?_; (repeat' (first | (with_reducible refine And.intro ?_ ?_) | (with_reducible intro _))); all_goals refine R.Lft.mk ?_)
    rename_i hM
    refine R.WO_call2 rfl rfl R.vv R.vv ?_
    refine (less_i x.A y.A x.n x.c y.n y.c x.L y.L _ (hM.inpIn x1) x2 x3 (by omega) (hM.inpIn y1) y2 y3 (by omega)).mono ?_
    rintro _ w4 ⟨rfl, rfl⟩
    refine ⟨_, rfl, ?_⟩
    by_cases hlt : dv x.L < dv y.L
    · rw [decide_eq_true hlt]
      (refine R.stepU ?_; (repeat' (first | (with_reducible refine And.intro ?_ ?_) | (with_reducible intro _))); all_goals refine R.Lft.mk ?_)
      refine R.WC_planX [(0, false), (1, false), (2, false), (3, false), (4, false), (5, false), (6, true), (7, true), (8, false), (9, true)] R.mixed (by decide +kernel) R.ohm ?_
      (refine R.stepU ?_; (repeat' (first | (with_reducible refine And.intro ?_ ?_) | (with_reducible intro _))); all_goals refine R.Lft.mk ?_)
      rename_i hM
      refine R.WO_call2 rfl rfl R.vv R.vv ?_
      refine (minus_i y.A x.A y.n y.c x.n x.c y.L x.L _ (hM.inpIn y1) y2 y3 (by omega) (hM.inpIn x1) x2 x3 (by omega) (by omega)).mono ?_
      rintro _ w4 ⟨A1, c1, zs, rfl, hG, hl, hd, hv⟩
      have hM := R.Own.give hM hG
      refine ⟨_, rfl, ?_⟩
      (refine R.stepU ?_; (repeat' (first | (with_reducible refine And.intro ?_ ?_) | (with_reducible intro _))); all_goals refine R.Lft.mk ?_)
      refine R.WO_call1 rfl rfl R.vv ?_
      refine ((con_trim A1 y.n c1).h zs _ ⟨R.Own.inp hM (.head _), hl, hd, row_capN hM (.head _), by omega⟩).mono ?_
      rintro _ w5 ⟨rfl, rfl⟩
      refine ⟨_, rfl, ?_⟩
      (refine R.stepU ?_; (repeat' (first | (with_reducible refine And.intro ?_ ?_) | (with_reducible intro _))); all_goals refine R.Lft.mk ?_)
      rename_i hM
      exact ⟨⟨y.neg, A1, y.n, c1, zs⟩, rfl, R.Own.sub hM (List.Sublist.cons_cons _ (List.nil_sublist _)), ⟨hl, hd, by dsimp only; omega⟩, by
        rw [nm_z, hv]
        unfold Nm.z
        cases hx : x.neg <;> cases hy : y.neg <;> simp_all <;> omega⟩
    · rw [decide_eq_false hlt]
      (refine R.stepU ?_; (repeat' (first | (with_reducible refine And.intro ?_ ?_) | (with_reducible intro _))); all_goals refine R.Lft.mk ?_)
      refine R.WC_planX [(0, false), (1, false), (2, false), (3, false), (4, false), (5, false), (6, true), (7, true), (8, false), (9, true)] R.mixed (by decide +kernel) R.ohm ?_
      (refine R.stepU ?_; (repeat' (first | (with_reducible refine And.intro ?_ ?_) | (with_reducible intro _))); all_goals refine R.Lft.mk ?_)
      rename_i hM
      refine R.WO_call2 rfl rfl R.vv R.vv ?_
      refine (minus_i x.A y.A x.n x.c y.n y.c x.L y.L _ (hM.inpIn x1) x2 x3 (by omega) (hM.inpIn y1) y2 y3 (by omega) (by omega)).mono ?_
      rintro _ w4 ⟨A1, c1, zs, rfl, hG, hl, hd, hv⟩
      have hM := R.Own.give hM hG
      refine ⟨_, rfl, ?_⟩
      (refine R.stepU ?_; (repeat' (first | (with_reducible refine And.intro ?_ ?_) | (with_reducible intro _))); all_goals refine R.Lft.mk ?_)
      refine R.WO_call1 rfl rfl R.vv ?_
      refine ((con_trim A1 x.n c1).h zs _ ⟨R.Own.inp hM (.head _), hl, hd, row_capN hM (.head _), by omega⟩).mono ?_
      rintro _ w5 ⟨rfl, rfl⟩
      refine ⟨_, rfl, ?_⟩
      (refine R.stepU ?_; (repeat' (first | (with_reducible refine And.intro ?_ ?_) | (with_reducible intro _))); all_goals refine R.Lft.mk ?_)
      rename_i hM
      exact ⟨⟨x.neg, A1, x.n, c1, zs⟩, rfl, R.Own.sub hM (List.Sublist.cons_cons _ (List.nil_sublist _)), ⟨hl, hd, by dsimp only; omega⟩, by
        rw [nm_z, hv]
        unfold Nm.z
        cases hx : x.neg <;> cases hy : y.neg <;> simp_all <;> omega⟩
end Go.Proofs.YtmoppmfbfpjdnaaGreat
namespace Go.Proofs.YtmoppmfbfpjdnaaGreat
open Go.RowKit
open R (In64 InU64 lo64 nth)

attribute [local irreducible] W512 trimN digsL dig4I in
set_option maxHeartbeats 4000000 in
theorem f_first (a : Sp) (w : World) : Calls Tryz.prog 11 #[.agg (cSp a).toArray] w fun e w' => ∃ z : Fr, e = .returned (.agg (cFr z.t).toArray) ∧ R.Own [] w w' [rowN z.n, rowN z.d] ∧ RawF (32) z ∧ z.q = (a.x.z, (a.w.n : Int)) := by
  have hM := R.Own.start [] w
  have d1 := digsL_dig a.w.n 32
  have d3 := digsL_len a.w.n 32
  have d5 := digsL_whole a.w
  refine R.calls_of_WC (fn := Tryz.f11) Tryz.func11 rfl Tryz.ntmps11 (Nat.le_of_ble_eq_true rfl) ?_
  (refine R.stepU ?_; (repeat' (first | (with_reducible refine And.intro ?_ ?_) | (with_reducible intro _))); all_goals refine R.Lft.mk ?_)
  refine R.WC_planX [(0, false), (1, false), (3, false), (4, false), (2, true), (5, true), (6, true), (7, false), (8, false), (9, true)] R.mixed (by decide +kernel) R.ohm ?_
  (refine R.stepU ?_; (repeat' (first | (with_reducible refine And.intro ?_ ?_) | (with_reducible intro _))); all_goals refine R.Lft.mk ?_)
  rename_i hM
  refine R.WO_call1 rfl rfl R.vv ?_
  refine (m_of a.x _).mono ?_
  rintro _ _ ⟨z1, rfl, hO1, r1, e1⟩
  have hM := R.Own.give1 hM hO1
  refine ⟨_, rfl, ?_⟩
  (refine R.stepU ?_; (repeat' (first | (with_reducible refine And.intro ?_ ?_) | (with_reducible intro _))); all_goals refine R.Lft.mk ?_)
  rename_i A c _ hM
  refine R.WO_call1 rfl rfl R.vv ?_
  refine ((con_trim A 32 c).h (digsL a.w.n 32) _ ⟨R.Own.inp hM (.head _), d3.symm, d1, row_capN hM (.head _), by omega⟩).mono ?_
  rintro _ _ ⟨rfl, rfl⟩
  refine ⟨_, rfl, ?_⟩
  (refine R.stepU ?_; (repeat' (first | (with_reducible refine And.intro ?_ ?_) | (with_reducible intro _))); all_goals refine R.Lft.mk ?_)
  rename_i hM
  have hM : R.Own [] w _ (rowN ⟨false, A, 32, c, digsL a.w.n 32⟩ :: _) := R.pk (r := .row A 32 c _ _ _) hM
  exact ⟨⟨z1, ⟨false, A, 32, c, digsL a.w.n 32⟩⟩, rfl, R.Own.sub (R.pk (r := rowN z1) hM) (List.Sublist.cons_cons _ (List.Sublist.cons_cons _ (List.nil_sublist _))), ⟨r1, d3.symm, d1, Nat.le_refl _⟩, by unfold Fr.q; dsimp only; rw [e1, nm_z, d5]; rfl⟩
attribute [local irreducible] W512 trimN digsL dig4I in
set_option maxHeartbeats 4000000 in
theorem f_cmp (u v : Fr) (k m : Nat) (w : World) (hu : GFr k w u) (hv : GFr m w v) (hk : k + m ≤ 9000) : Calls Tryz.prog 10 #[.agg (cFr u).toArray, .agg (cFr v).toArray] w fun e w' => e = .returned (.int .i64 (cmpZ (u.q.1 * v.q.2) (v.q.1 * u.q.2))) ∧ Below w.heap.size w w' := by
  have hM := R.Own.start [] w
  refine R.calls_of_WC (fn := Tryz.f10) Tryz.func10 rfl Tryz.ntmps10 (Nat.le_of_ble_eq_true rfl) ?_
  (refine R.stepU ?_; (repeat' (first | (with_reducible refine And.intro ?_ ?_) | (with_reducible intro _))); all_goals refine R.Lft.mk ?_)
  refine R.WC_planX [(0, false), (1, false), (2, false), (3, false), (5, false), (6, false), (7, false), (8, false), (4, true), (9, true), (10, true), (11, true), (12, true), (13, false)] R.mixed (by decide +kernel) R.ohm ?_
  (refine R.stepU ?_; (repeat' (first | (with_reducible refine And.intro ?_ ?_) | (with_reducible intro _))); all_goals refine R.Lft.mk ?_)
  rename_i hM
  refine R.WO_call2 rfl rfl R.vv R.vv ?_
  refine (m_mul u.n v.d k m _ (hu.1.ext (R.Own.below hM)) (hv.2.ext (R.Own.below hM)) (by omega) (by omega)).mono ?_
  rintro _ _ ⟨z1, rfl, hO1, r1, e1⟩
  have hM := R.Own.give1 hM hO1
  refine ⟨_, rfl, ?_⟩
  (refine R.stepU ?_; (repeat' (first | (with_reducible refine And.intro ?_ ?_) | (with_reducible intro _))); all_goals refine R.Lft.mk ?_)
  rename_i hM
  refine R.WO_call2 rfl rfl R.vv R.vv ?_
  refine (m_mul v.n u.d m k _ (hv.1.ext (R.Own.below hM)) (hu.2.ext (R.Own.below hM)) (by omega) (by omega)).mono ?_
  rintro _ _ ⟨z2, rfl, hO2, r2, e2⟩
  have hM := R.Own.give1 hM hO2
  refine ⟨_, rfl, ?_⟩
  (refine R.stepU ?_; (repeat' (first | (with_reducible refine And.intro ?_ ?_) | (with_reducible intro _))); all_goals refine R.Lft.mk ?_)
  rename_i hM
  refine R.WO_call1 rfl rfl R.vv ?_
  refine (n30_less z2.t _).mono ?_
  rintro _ _ ⟨rfl, hb1⟩
  have hM := R.Own.call hM hb1
  refine ⟨_, rfl, ?_⟩
  (refine R.stepU ?_; (repeat' (first | (with_reducible refine And.intro ?_ ?_) | (with_reducible intro _))); all_goals refine R.Lft.mk ?_)
  rename_i hM
  refine R.WO_call2 rfl rfl R.vv R.vv ?_
  refine (m_add z1.t ⟨!z2.t.neg, z2.t.A, z2.t.n, z2.t.c, z2.t.L⟩ (k + m) _ (GNm.of hM R.memb r1) ((GNm.of hM R.memb r2).mono (by omega)).neg (by omega)).mono ?_
  rintro _ _ ⟨z3, rfl, hO3, r3, e3⟩
  have hM := R.Own.give1 hM hO3
  refine ⟨_, rfl, ?_⟩
  (refine R.stepU ?_; (repeat' (first | (with_reducible refine And.intro ?_ ?_) | (with_reducible intro _))); all_goals refine R.Lft.mk ?_)
  rename_i hM
  refine R.WO_call1 rfl rfl R.vv ?_
  refine (n30_sign z3.t (k + m + 1) _ (GNm.of hM R.memb r3) (by omega)).mono ?_
  rintro _ _ ⟨rfl, hb2⟩
  have hM := R.Own.call hM hb2
  refine ⟨_, rfl, ?_⟩
  (refine R.stepU ?_; (repeat' (first | (with_reducible refine And.intro ?_ ?_) | (with_reducible intro _))); all_goals refine R.Lft.mk ?_)
  rename_i hM
  exact ⟨by rw [Nm.t_z, e3, Nm.t_z, nm_less, Nm.t_z, cmpZ_sub, e1, e2]; rfl, R.Own.below hM⟩
end Go.Proofs.YtmoppmfbfpjdnaaGreat
namespace Go.Proofs.YtmoppmfbfpjdnaaGreat.R
open Go.RowKit

/-- Calls, one behind the other. -/
def tr0 (r : PT) : List Nat → PT
  | [] => r
  | c :: cs => .e c (tr0 r cs)
/-- .. while one thing is still to be laid. -/
def tr1 (b : Nat) (r : PT) : List Nat → PT
  | [] => .e b r
  | c :: cs => .f c b (tr1 b r cs) (tr0 r (c :: cs))
/-- .. while two are. -/
def tr2 (a b : Nat) (r : PT) : List Nat → PT
  | [] => .f a b (tr1 b r []) (tr1 a r [])
  | c :: cs => .g c a b (tr2 a b r cs) (tr1 b r (c :: cs)) (tr1 a r (c :: cs))
abbrev Zs := List (Nat × Value × List Res)
def slz (zs : Zs) : List (Nat × Value) := zs.map fun e => (e.1, e.2.1)
def rsz (zs : Zs) : List Res := zs.flatMap fun e => e.2.2
theorem agrees_app {f : Fr} : ∀ {l m : List (Nat × Value)}, Agrees f (l ++ m) ↔ Agrees f l ∧ Agrees f m
  | [], _ => ⟨fun h => ⟨trivial, h⟩, fun h => h.2⟩
  | (_, _) :: _, _ => ⟨fun h => ⟨⟨h.1, (agrees_app.1 h.2).1⟩, (agrees_app.1 h.2).2⟩, fun h => ⟨h.1.1, agrees_app.2 ⟨h.1.2, h.2⟩⟩⟩
theorem agrees_upd {f : Fr} {d : Nat} {v : Value} : ∀ {l : List (Nat × Value)}, Agrees f l → (∀ p ∈ l, p.1 ≠ d) → Agrees (upd f d v) l
  | [], _, _ => trivial
  | (e, u) :: l, h, hk => ⟨by
      have hn : e ≠ d := hk (e, u) (.head _)
      show (upd f d v) e = u
      unfold upd
      have hb : Nat.beq e d = false := by
        cases hb : Nat.beq e d with
        | false => rfl
        | true => exact absurd (Nat.eq_of_beq_eq_true hb) hn
      rw [hb]
      exact h.1, agrees_upd h.2 fun p hp => hk p (.tail _ hp)⟩
theorem upd_at {f : Fr} {d : Nat} {v : Value} : (upd f d v) d = v := by
  unfold upd
  rw [show Nat.beq d d = true from Nat.beq_refl d]
  rfl
section
variable {P : Program} {ops : Array Oper} {n : Nat} {F : List Nat} {W : World} {base : List Res} {K : Fr → World → Prop} (Pz : Nat → Zs → Prop) (sl0 : List (Nat × Value)) (da db : Nat)
def Chain (P : Program) (ops : Array Oper) (n : Nat) (F : List Nat) (W : World) (base : List Res) (Pz : Nat → Zs → Prop) (sl0 : List (Nat × Value)) (da db : Nat) : Nat → List Nat → List (Nat × Nat) → Prop
  | _, _, [] => True
  | k, ks, (c, d) :: l => (∃ op ty p af, ops[c]? = some ⟨some d, op, ty, p, af, none⟩ ∧ Nat.blt d n = true ∧ (d ≠ da ∧ d ≠ db ∧ d ∉ ks) ∧ ∀ zs Y X f w, Pz k zs → Own F W w (rsz zs ++ (base ++ X)) →
      WO P (callT P) ⟨some d, op, ty, p, af, none⟩ (over (slz zs ++ (sl0 ++ Y)) f) w fun v w' => ∃ r, Pz (k + 1) ((d, v, r) :: zs) ∧ Own F W w' (r ++ (rsz zs ++ (base ++ X)))) ∧ Chain P ops n F W base Pz sl0 da db (k + 1) (d :: ks) l
structure St (F : List Nat) (W : World) (base : List Res) (Pz : Nat → Zs → Prop) (sl0 : List (Nat × Value)) (da db : Nat) (k : Nat) (ks : List Nat) (zs : Zs) (Y : List (Nat × Value)) (X : List Res) (f : Fr) (w : World) : Prop where
  pz : Pz k zs
  keys : ∀ p ∈ slz zs ++ sl0, p.1 ∈ ks
  ky : ∀ p ∈ Y, p.1 = da ∨ p.1 = db
  ag : Agrees f (slz zs ++ (sl0 ++ Y))
  own : Own F W w (rsz zs ++ (base ++ X))
variable {Pz sl0 da db}
theorem base_of {w : World} {l X : List Res} (h : Own F W w (l ++ (base ++ X))) : Own F W w base := h.sub ((List.sublist_append_left base X).trans (List.sublist_append_right _ _))
theorem St.call {k : Nat} {ks : List Nat} {zs : Zs} {Y : List (Nat × Value)} {X : List Res} {f : Fr} {w w' : World} {d : Nat} {v : Value} {r : List Res} (h : St F W base Pz sl0 da db k ks zs Y X f w) (hd : d ≠ da ∧ d ≠ db ∧ d ∉ ks) (hp : Pz (k + 1) ((d, v, r) :: zs)) (ho : Own F W w' (r ++ (rsz zs ++ (base ++ X)))) :
    St F W base Pz sl0 da db (k + 1) (d :: ks) ((d, v, r) :: zs) Y X (upd f d v) w' where
  pz := hp
  keys := fun p hp => by
    rcases List.mem_cons.1 (show p ∈ (d, v) :: (slz zs ++ sl0) from hp) with e | e
    · rw [e]; exact .head _
    · exact .tail _ (h.keys p e)
  ky := h.ky
  ag := by
    refine ⟨upd_at, agrees_upd h.ag fun p hp e => ?_⟩
    have hp : p ∈ slz zs ++ (sl0 ++ Y) := hp
    rw [← List.append_assoc] at hp
    rcases List.mem_append.1 hp with q | q
    · exact hd.2.2 (by rw [← e]; exact h.keys p q)
    · rcases h.ky p q with g | g
      · exact hd.1 (by rw [← e, g])
      · exact hd.2.1 (by rw [← e, g])
  own := by
    show Own F W w' ((r ++ rsz zs) ++ (base ++ X))
    rw [List.append_assoc]
    exact ho
theorem chain0 {r : PT} {Y : List (Nat × Value)} {X : List Res} : ∀ (l : List (Nat × Nat)) (k : Nat) (ks : List Nat) (zs : Zs) (f : Fr) (w : World), Chain P ops n F W base Pz sl0 da db k ks l → St F W base Pz sl0 da db k ks zs Y X f w →
    (∀ zs f w, Pz (k + l.length) zs → Agrees f (slz zs ++ (sl0 ++ Y)) → Own F W w (rsz zs ++ (base ++ X)) → WT P ops n (fun w2 => Own F W w2 base) (fun w2 => Own F W w2 base) K r f w) → WT P ops n (fun w2 => Own F W w2 base) (fun w2 => Own F W w2 base) K (tr0 r (l.map Prod.fst)) f w
  | [], k, ks, zs, f, w, _, hS, hr => hr zs f w hS.pz hS.ag hS.own
  | (c, d) :: l, k, ks, zs, f, w, ⟨⟨op, ty, p, af, h1, h2, h3, h4⟩, hC⟩, hS, hr => by
    refine WT_e (WT_e0 h1 h2 ?_)
    have h := h4 zs Y X f w hS.pz hS.own
    rw [over_agrees hS.ag] at h
    refine WO_mono h ?_
    rintro v w' ⟨r1, hp, ho⟩
    exact ⟨base_of (l := r1 ++ rsz zs) (by rw [List.append_assoc]; exact ho), chain0 l (k + 1) (d :: ks) _ _ w' hC (hS.call h3 hp ho) (by
      rw [show k + 1 + l.length = k + (l.length + 1) by omega]
      exact hr)⟩
theorem St.laid {k : Nat} {ks : List Nat} {zs : Zs} {Y : List (Nat × Value)} {X : List Res} {f : Fr} {w w' : World} {d : Nat} {v : Value} {b : Res} (h : St F W base Pz sl0 da db k ks zs Y X f w) (hd : d = da ∨ d = db) (hk : d ∉ ks) (hy : ∀ p ∈ Y, p.1 ≠ d) (ho : Own F W w' (b :: (rsz zs ++ (base ++ X)))) :
    St F W base Pz sl0 da db k ks zs (Y ++ [(d, v)]) (X ++ [b]) (upd f d v) w' where
  pz := h.pz
  keys := h.keys
  ky := fun p hp => by
    rcases List.mem_append.1 hp with q | q
    · exact h.ky p q
    · rw [List.mem_singleton.1 q]; exact hd
  ag := by
    rw [← List.append_assoc, ← List.append_assoc]
    refine agrees_app.2 ⟨agrees_upd (by rw [List.append_assoc]; exact h.ag) fun p hp e => ?_, upd_at, trivial⟩
    rcases List.mem_append.1 hp with q | q
    · exact hk (by rw [← e]; exact h.keys p q)
    · exact hy p q e
  own := by
    rw [← List.append_assoc, ← List.append_assoc]
    exact ho.perm (by rw [← List.append_assoc]; exact List.perm_append_comm (l₁ := _) (l₂ := [b]))
theorem chain1 {r : PT} {Y : List (Nat × Value)} {X : List Res} {b d : Nat} {tb ty : TypeId} {p : String} {af : Array Edge} {zb : Value} [ZeroT P tb zb] (hb : ops[b]? = some ⟨some d, .alloc tb, ty, p, af, none⟩) (hbn : Nat.blt d n = true) (hd : d = da ∨ d = db) (hy : ∀ p ∈ Y, p.1 ≠ d) :
    ∀ (l : List (Nat × Nat)) (k : Nat) (ks : List Nat) (zs : Zs) (f : Fr) (w : World), Chain P ops n F W base Pz sl0 da db k ks l → St F W base Pz sl0 da db k ks zs Y X f w → d ∉ ks →
    (∀ zs g f w, Pz (k + l.length) zs → Agrees f (slz zs ++ (sl0 ++ (Y ++ [(d, .pointer (some ⟨g, 0, none⟩))]))) → Own F W w (rsz zs ++ (base ++ (X ++ [.blk g tb zb.cells.toList]))) → WT P ops n (fun w2 => Own F W w2 base) (fun w2 => Own F W w2 base) K r f w) → WT P ops n (fun w2 => Own F W w2 base) (fun w2 => Own F W w2 base) K (tr1 b r (l.map Prod.fst)) f w
  | [], k, ks, zs, f, w, _, hS, hk, hr => by
    refine WT_e (WT_e0 hb hbn ?_)
    refine WO_allocO rfl hS.own fun g w' ho => ?_
    have hS2 := hS.laid (v := .pointer (some ⟨g, 0, none⟩)) hd hk hy ho
    exact ⟨base_of hS2.own, hr zs g _ _ hS2.pz hS2.ag hS2.own⟩
  | (c, e) :: l, k, ks, zs, f, w, hCC@⟨⟨op, ty', p', af', h1, h2, h3, h4⟩, hC⟩, hS, hk, hr => by
    refine WT_f ⟨WT_e0 h1 h2 ?_, WT_e0 hb hbn ?_⟩
    · have h := h4 zs Y X f w hS.pz hS.own
      rw [over_agrees hS.ag] at h
      refine WO_mono h ?_
      rintro v w' ⟨r1, hp, ho⟩
      refine ⟨base_of (l := r1 ++ rsz zs) (by rw [List.append_assoc]; exact ho), chain1 hb hbn hd hy l (k + 1) (e :: ks) _ _ w' hC (hS.call h3 hp ho) ?_ (by
        rw [show k + 1 + l.length = k + (l.length + 1) by omega]
        exact hr)⟩
      intro hm
      rcases List.mem_cons.1 hm with q | q
      · rcases hd with g | g
        · exact h3.1 (by rw [← q, g])
        · exact h3.2.1 (by rw [← q, g])
      · exact hk q
    · refine WO_allocO rfl hS.own fun g w' ho => ?_
      have hS2 := hS.laid (v := .pointer (some ⟨g, 0, none⟩)) hd hk hy ho
      exact ⟨base_of hS2.own, chain0 ((c, e) :: l) k ks zs _ w' hCC hS2 fun zs f w => hr zs g f w⟩
theorem chain2 {r : PT} {a b : Nat} {ta tya tb tyb : TypeId} {pa pb : String} {afa afb : Array Edge} {za zb : Value} [ZeroT P ta za] [ZeroT P tb zb] (ha : ops[a]? = some ⟨some da, .alloc ta, tya, pa, afa, none⟩) (hb : ops[b]? = some ⟨some db, .alloc tb, tyb, pb, afb, none⟩) (han : Nat.blt da n = true) (hbn : Nat.blt db n = true) (hab : da ≠ db) :
    ∀ (l : List (Nat × Nat)) (k : Nat) (ks : List Nat) (zs : Zs) (f : Fr) (w : World), Chain P ops n F W base Pz sl0 da db k ks l → St F W base Pz sl0 da db k ks zs [] [] f w → da ∉ ks → db ∉ ks →
    (∀ zs g g' f w, Pz (k + l.length) zs → Agrees f (slz zs ++ (sl0 ++ [(da, .pointer (some ⟨g, 0, none⟩)), (db, .pointer (some ⟨g', 0, none⟩))])) → Own F W w (rsz zs ++ (base ++ [.blk g ta za.cells.toList, .blk g' tb zb.cells.toList])) → WT P ops n (fun w2 => Own F W w2 base) (fun w2 => Own F W w2 base) K r f w) → WT P ops n (fun w2 => Own F W w2 base) (fun w2 => Own F W w2 base) K (tr2 a b r (l.map Prod.fst)) f w := by
  intro l k ks zs f w hC hS hka hkb hr
  have two : ∀ (m : List (Nat × Nat)) (k' : Nat) (ks' : List Nat) (zs' : Zs) (f' : Fr) (w' : World), k' + m.length = k + l.length → Chain P ops n F W base Pz sl0 da db k' ks' m → St F W base Pz sl0 da db k' ks' zs' [] [] f' w' → da ∉ ks' → db ∉ ks' →
      WE P ops n (fun w2 => Own F W w2 base) (fun w2 => Own F W w2 base) K a (tr1 b r (m.map Prod.fst)) f' w' ∧ WE P ops n (fun w2 => Own F W w2 base) (fun w2 => Own F W w2 base) K b (tr1 a r (m.map Prod.fst)) f' w' := fun m k' ks' zs' f' w' hkl hC hS hka hkb => by
    refine ⟨WT_e0 ha han (WO_allocO rfl hS.own fun g w'' ho => ?_), WT_e0 hb hbn (WO_allocO rfl hS.own fun g w'' ho => ?_)⟩
    · have hS2 := hS.laid (v := .pointer (some ⟨g, 0, none⟩)) (.inl rfl) hka (fun p hp => by cases hp) ho
      refine ⟨base_of hS2.own, chain1 (zb := zb) hb hbn (.inr rfl) (fun p hp => by rw [List.mem_singleton.1 hp]; exact hab) m k' ks' zs' _ w'' hC hS2 hkb fun zs g' f w => ?_⟩
      rw [hkl]
      exact hr zs g g' f w
    · have hS2 := hS.laid (v := .pointer (some ⟨g, 0, none⟩)) (.inr rfl) hkb (fun p hp => by cases hp) ho
      refine ⟨base_of hS2.own, chain1 (zb := za) ha han (.inl rfl) (fun p hp => by rw [List.mem_singleton.1 hp]; exact fun e => hab e.symm) m k' ks' zs' _ w'' hC hS2 hka fun zs g' f w => ?_⟩
      rw [hkl]
      intro h1 h2 h3
      refine hr zs g' g f w h1 ?_ (h3.perm ?_)
      · rw [← List.append_assoc] at h2 ⊢
        obtain ⟨q1, q2, q3, -⟩ := agrees_app.1 h2
        exact agrees_app.2 ⟨q1, q3, q2, trivial⟩
      · exact List.Perm.append_left _ (List.Perm.append_left _ (List.Perm.swap _ _ _))
  have main : ∀ (m : List (Nat × Nat)) (k' : Nat) (ks' : List Nat) (zs' : Zs) (f' : Fr) (w' : World), k' + m.length = k + l.length → Chain P ops n F W base Pz sl0 da db k' ks' m → St F W base Pz sl0 da db k' ks' zs' [] [] f' w' → da ∉ ks' → db ∉ ks' →
      WT P ops n (fun w2 => Own F W w2 base) (fun w2 => Own F W w2 base) K (tr2 a b r (m.map Prod.fst)) f' w' := fun m => by
    induction m with
    | nil =>
      intro k' ks' zs' f' w' hkl hC hS hka hkb
      obtain ⟨h1, h2⟩ := two [] k' ks' zs' f' w' hkl hC hS hka hkb
      exact WT_f ⟨h1, h2⟩
    | cons cd m ih =>
      obtain ⟨c, e⟩ := cd
      intro k' ks' zs' f' w' hkl hC hS hka hkb
      obtain ⟨h1, h2⟩ := two ((c, e) :: m) k' ks' zs' f' w' hkl hC hS hka hkb
      obtain ⟨⟨op, ty, p, af, q1, q2, q3, q4⟩, hC2⟩ := hC
      refine WT_g ⟨WT_e0 q1 q2 ?_, h1, h2⟩
      have h := q4 zs' [] [] f' w' hS.pz hS.own
      rw [over_agrees hS.ag] at h
      refine WO_mono h ?_
      rintro v w'' ⟨r1, hp, ho⟩
      refine ⟨base_of (l := r1 ++ rsz zs') (by rw [List.append_assoc]; exact ho), ih (k' + 1) (e :: ks') _ _ w'' (by rw [← hkl]; show k' + 1 + m.length = k' + (m.length + 1); omega) hC2 (hS.call q3 hp ho) ?_ ?_⟩
      · intro hm
        rcases List.mem_cons.1 hm with g | g
        · exact q3.1 g.symm
        · exact hka g
      · intro hm
        rcases List.mem_cons.1 hm with g | g
        · exact q3.2.1 g.symm
        · exact hkb g
  exact main l k ks zs f w rfl hC hS hka hkb
end
attribute [irreducible] tr0 tr1 tr2
end Go.Proofs.YtmoppmfbfpjdnaaGreat.R
