/- Numbers of any length, with a sign: snicketref30. -/
import Derived.Test.YtebgjcginmgoaaaGreatS5
import Derived.Test.YtebgjcginmgoaaaGreatOv
import Derived.Test.YtebgjcginmgoaaaGreatQt
import Derived.Test.YtebgjcginmgoaaaGreatWy
namespace Go.Proofs.YtebgjcginmgoaaaGreat
open Go.RowKit
open R (In64 InU64 lo64 nth)

structure Nm where
  neg : Bool
  A : Option Addr
  n : Nat
  c : Nat
  L : List Int
instance inh_Nm : Inhabited Nm := ⟨⟨false, none, 0, 0, []⟩⟩
def cNm (x : Nm) : List Value := [.bool x.neg, .slice x.A x.n x.c]
instance encc_Nm : R.EncC cNm 2 := ⟨fun _ => rfl, by simp [cNm, Value.oneCell'], by decide⟩
instance enct_Nm : R.EncT Tryz.prog 43 Nm cNm 2 := {}
def GNm (k : Nat) (w : World) (x : Nm) : Prop := R.Inp [] w x.A x.n 1 (x.L.flatMap R.cU) ∧ x.n = x.L.length ∧ DigI x.L ∧ x.n ≤ x.c ∧ x.n ≤ k
def Nm.z (x : Nm) : Int := if x.neg then -((dv x.L : Nat) : Int) else ((dv x.L : Nat) : Int)
theorem GNm.ext {k : Nat} {w w' : World} {x : Nm} (h : GNm k w x) (hb : Below w.heap.size w w') : GNm k w' x := ⟨h.1.ext hb, h.2⟩
theorem flat_take (L : List Int) (k : Nat) : (L.flatMap R.cU).take (k * 1) = (L.take k).flatMap R.cU := by
  rw [Nat.mul_one]
  induction L generalizing k with
  | nil => simp
  | cons a L ih =>
    cases k with
    | zero => simp
    | succ k =>
      rw [List.flatMap_cons, List.take_succ_cons, List.flatMap_cons, ← ih]
      rfl
/-- A number that is trimmed. -/
theorem GNm.trim {W w : World} {l : List R.Res} {A : Option Addr} {n c k : Nat} {L : List Int} {b : Bool} (hM : R.Own [] W w l) (hm : R.Res.row A n c 22 1 (L.flatMap R.cU) ∈ l) (hn : n = L.length) (hd : DigI L) (hc : n ≤ c) (hk : n ≤ k) : GNm k w ⟨b, A, trimN L, c, L.take (trimN L)⟩ := by
  have h1 := (R.Own.inp hM hm).take (trimN L) (by rw [hn]; exact trimN_le L)
  rw [flat_take] at h1
  have := trimN_le L
  refine ⟨h1, ?_, hd.take _, ?_, ?_⟩
  · dsimp only
    rw [List.length_take]
    omega
  · dsimp only
    omega
  · dsimp only
    omega
theorem row_capN {A : Option Addr} {F : List Nat} {W w : World} {l : List R.Res} {n c sz : Nat} {e : TypeId} {cs : List Value} (hM : R.Own F W w l) (hm : R.Res.row A n c e sz cs ∈ l) : n ≤ c := by
  have hr : w.ownsRow 0 e sz (.slice A n c) n cs := hM.ok _ hm
  rcases hr.2 with ⟨hv, h0⟩ | ⟨g, cap, cur, hv, _, _, h3, h4, _⟩
  · omega
  · injection hv with _ _ a3
    omega
theorem nm_z {b : Bool} {A : Option Addr} {n c : Nat} {L : List Int} : (⟨b, A, n, c, L⟩ : Nm).z = if b then -((dv L : Nat) : Int) else ((dv L : Nat) : Int) := rfl
attribute [local irreducible] W512 digsL trimN in
set_option maxHeartbeats 2000000 in
theorem n30_of (a : Sg) (w : World) : Calls Tryz.prog 38 #[.agg (cS a).toArray] w fun e w' => ∃ x : Nm, e = .returned (.agg (cNm x).toArray) ∧ Below w.heap.size w w' ∧ GNm 32 w' x ∧ x.z = a.z := by
  have hM := R.Own.start [] w
  have d1 := digsL_dig a.mag.n 32
  have d3 := digsL_len a.mag.n 32
  have d5 := digsL_whole a.mag
  refine R.calls_of_WC (fn := Tryz.f38) Tryz.func38 rfl Tryz.ntmps38 (Nat.le_of_ble_eq_true rfl) ?_
  (refine R.stepU ?_; (repeat' (first | (with_reducible refine And.intro ?_ ?_) | (with_reducible intro _))); all_goals refine R.Lft.mk ?_)
  refine R.WC_planX [(0, false), (1, false), (2, false), (3, false), (4, true), (5, true), (6, false), (7, true)] R.mixed (by decide +kernel) R.ohm ?_
  (refine R.stepU ?_; (repeat' (first | (with_reducible refine And.intro ?_ ?_) | (with_reducible intro _))); all_goals refine R.Lft.mk ?_)
  rename_i A c _ hM
  refine R.WO_call1 rfl rfl R.vv ?_
  refine ((con_trim A 32 c).h (digsL a.mag.n 32) _ ⟨R.Own.inp hM (.head _), d3.symm, d1, row_capN hM (.head _), by omega⟩).mono ?_
  rintro _ w4 ⟨rfl, rfl⟩
  refine ⟨_, rfl, ?_⟩
  (refine R.stepU ?_; (repeat' (first | (with_reducible refine And.intro ?_ ?_) | (with_reducible intro _))); all_goals refine R.Lft.mk ?_)
  rename_i hM
  exact ⟨⟨a.neg, A, trimN (digsL a.mag.n 32), c, (digsL a.mag.n 32).take (trimN (digsL a.mag.n 32))⟩, rfl, R.Own.below hM, GNm.trim hM (.head _) d3.symm d1 (row_capN hM (.head _)) (Nat.le_refl _), by rw [nm_z, trimN_dv, d5]; rfl⟩
theorem mul_sign (p q : Bool) (a b : Nat) : (if !(p == q) then -((a * b : Nat) : Int) else ((a * b : Nat) : Int)) = (if p then -(a : Int) else (a : Int)) * (if q then -(b : Int) else (b : Int)) := by
  cases p <;> cases q <;> simp [Int.natCast_mul, Int.neg_mul, Int.mul_neg]
attribute [local irreducible] W512 trimN in
set_option maxHeartbeats 2000000 in
theorem n30_mul (x y : Nm) (k m : Nat) (w : World) (hx : GNm k w x) (hy : GNm m w y) (hk : k ≤ 10000) (hm : m ≤ 10000) : Calls Tryz.prog 45 #[.agg (cNm x).toArray, .agg (cNm y).toArray] w fun e w' => ∃ z : Nm, e = .returned (.agg (cNm z).toArray) ∧ Below w.heap.size w w' ∧ GNm (k + m) w' z ∧ z.z = x.z * y.z := by
  have hM := R.Own.start [] w
  obtain ⟨x1, x2, x3, x4, x5⟩ := hx
  obtain ⟨y1, y2, y3, y4, y5⟩ := hy
  refine R.calls_of_WC (fn := Tryz.f45) Tryz.func45 rfl Tryz.ntmps45 (Nat.le_of_ble_eq_true rfl) ?_
  (refine R.stepU ?_; (repeat' (first | (with_reducible refine And.intro ?_ ?_) | (with_reducible intro _))); all_goals refine R.Lft.mk ?_)
  refine R.WC_planX [(0, false), (1, false), (2, false), (3, false), (4, false), (5, false), (6, false), (7, false), (8, false), (9, true), (10, true), (11, false), (12, true)] R.mixed (by decide +kernel) R.ohm ?_
  (refine R.stepU ?_; (repeat' (first | (with_reducible refine And.intro ?_ ?_) | (with_reducible intro _))); all_goals refine R.Lft.mk ?_)
  rename_i hM
  refine R.WO_call2 rfl rfl R.vv R.vv ?_
  refine (times_i x.A y.A x.n x.c y.n y.c x.L y.L _ (hM.inpIn x1) x2 x3 (by omega) (hM.inpIn y1) y2 y3 (by omega)).mono ?_
  rintro _ w4 ⟨A1, zs, rfl, hG, hl, hd, hv⟩
  have hM := R.Own.give hM hG
  refine ⟨_, rfl, ?_⟩
  (refine R.stepU ?_; (repeat' (first | (with_reducible refine And.intro ?_ ?_) | (with_reducible intro _))); all_goals refine R.Lft.mk ?_)
  rename_i hM
  exact ⟨⟨!(x.neg == y.neg), A1, trimN zs, x.n + y.n, zs.take (trimN zs)⟩, rfl, R.Own.below hM, GNm.trim hM (.head _) hl hd (Nat.le_refl _) (by omega), by rw [nm_z, trimN_dv, hv]; exact mul_sign _ _ _ _⟩
theorem n30_less (x : Nm) (w : World) : Calls Tryz.prog 43 #[.agg (cNm x).toArray] w fun e w' => e = .returned (.agg (cNm ⟨!x.neg, x.A, x.n, x.c, x.L⟩).toArray) ∧ Below w.heap.size w w' := by
  have hM := R.Own.start [] w
  refine R.calls_of_WC (fn := Tryz.f43) Tryz.func43 rfl Tryz.ntmps43 (Nat.le_of_ble_eq_true rfl) ?_
  (refine R.stepU ?_; (repeat' (first | (with_reducible refine And.intro ?_ ?_) | (with_reducible intro _))); all_goals refine R.Lft.mk ?_; (all_goals (try (exact ⟨rfl, R.Own.below (by assumption)⟩))))
attribute [local irreducible] W512 trimN in
set_option maxHeartbeats 2000000 in
theorem n30_add (x y : Nm) (k : Nat) (w : World) (hx : GNm k w x) (hy : GNm k w y) (hk : k ≤ 10000) : Calls Tryz.prog 44 #[.agg (cNm x).toArray, .agg (cNm y).toArray] w fun e w' => ∃ z : Nm, e = .returned (.agg (cNm z).toArray) ∧ Below w.heap.size w w' ∧ GNm (k + 1) w' z ∧ z.z = x.z + y.z := by
  have hM := R.Own.start [] w
  obtain ⟨x1, x2, x3, x4, x5⟩ := hx
  obtain ⟨y1, y2, y3, y4, y5⟩ := hy
  by_cases hs : x.neg = y.neg
  · refine R.calls_of_WC (fn := Tryz.f44) Tryz.func44 rfl Tryz.ntmps44 (Nat.le_of_ble_eq_true rfl) ?_
    (refine R.stepU ?_; (repeat' (first | (with_reducible refine And.intro ?_ ?_) | (with_reducible intro _))); all_goals refine R.Lft.mk ?_)
    refine R.WC_planX [(0, false), (1, false), (2, false), (3, false), (4, false), (5, false), (6, true), (7, true), (8, false), (9, true)] R.mixed (by decide +kernel) R.ohm ?_
    (refine R.stepU ?_; (repeat' (first | (with_reducible refine And.intro ?_ ?_) | (with_reducible intro _))); all_goals refine R.Lft.mk ?_)
    rename_i hM
    refine R.WO_call2 rfl rfl R.vv R.vv ?_
    refine (plus_i x.A y.A x.n x.c y.n y.c x.L y.L _ (hM.inpIn x1) x2 x3 (by omega) (hM.inpIn y1) y2 y3 (by omega)).mono ?_
    rintro _ w4 ⟨A1, c1, n1, zs, rfl, hG, hl, hd, hv, hn1⟩
    have hM := R.Own.give hM hG
    refine ⟨_, rfl, ?_⟩
    (refine R.stepU ?_; (repeat' (first | (with_reducible refine And.intro ?_ ?_) | (with_reducible intro _))); all_goals refine R.Lft.mk ?_)
    refine R.WO_call1 rfl rfl R.vv ?_
    refine ((con_trim A1 n1 c1).h zs _ ⟨R.Own.inp hM (.head _), hl, hd, row_capN hM (.head _), by omega⟩).mono ?_
    rintro _ w5 ⟨rfl, rfl⟩
    refine ⟨_, rfl, ?_⟩
    (refine R.stepU ?_; (repeat' (first | (with_reducible refine And.intro ?_ ?_) | (with_reducible intro _))); all_goals refine R.Lft.mk ?_)
    rename_i hM
    exact ⟨⟨x.neg, A1, trimN zs, c1, zs.take (trimN zs)⟩, rfl, R.Own.below hM, GNm.trim hM (.head _) hl hd (row_capN hM (.head _)) (by omega), by
      rw [nm_z, trimN_dv, hv]
      unfold Nm.z
      rw [← hs]
      split <;> omega⟩
  · refine R.calls_of_WC (fn := Tryz.f44) Tryz.func44 rfl Tryz.ntmps44 (Nat.le_of_ble_eq_true rfl) ?_
    (refine R.stepU ?_; (repeat' (first | (with_reducible refine And.intro ?_ ?_) | (with_reducible intro _))); all_goals refine R.Lft.mk ?_)
    rename_i hM
    refine R.WO_call2 rfl rfl R.vv R.vv ?_
    refine (less_i x.A y.A x.n x.c y.n y.c x.L y.L _ (hM.inpIn x1) x2 x3 (by omega) (hM.inpIn y1) y2 y3 (by omega)).mono ?_
    rintro _ w4 ⟨rfl, rfl⟩
    refine ⟨_, rfl, ?_⟩
    by_cases hlt : dv x.L < dv y.L
    · rw [decide_eq_true hlt]
      (refine R.stepU ?_; (repeat' (first | (with_reducible refine And.intro ?_ ?_) | (with_reducible intro _))); all_goals refine R.Lft.mk ?_)
      refine R.WC_planX [(0, false), (1, false), (2, false), (3, false), (4, false), (5, false), (6, true), (7, true), (8, false), (9, true)] R.mixed (by decide +kernel) R.ohm ?_
      (refine R.stepU ?_; (repeat' (first | (with_reducible refine And.intro ?_ ?_) | (with_reducible intro _))); all_goals refine R.Lft.mk ?_)
      rename_i hM
      refine R.WO_call2 rfl rfl R.vv R.vv ?_
      refine (minus_i y.A x.A y.n y.c x.n x.c y.L x.L _ (hM.inpIn y1) y2 y3 (by omega) (hM.inpIn x1) x2 x3 (by omega) (by omega)).mono ?_
      rintro _ w4 ⟨A1, c1, zs, rfl, hG, hl, hd, hv⟩
      have hM := R.Own.give hM hG
      refine ⟨_, rfl, ?_⟩
      (refine R.stepU ?_; (repeat' (first | (with_reducible refine And.intro ?_ ?_) | (with_reducible intro _))); all_goals refine R.Lft.mk ?_)
      refine R.WO_call1 rfl rfl R.vv ?_
      refine ((con_trim A1 y.n c1).h zs _ ⟨R.Own.inp hM (.head _), hl, hd, row_capN hM (.head _), by omega⟩).mono ?_
      rintro _ w5 ⟨rfl, rfl⟩
      refine ⟨_, rfl, ?_⟩
      (refine R.stepU ?_; (repeat' (first | (with_reducible refine And.intro ?_ ?_) | (with_reducible intro _))); all_goals refine R.Lft.mk ?_)
      rename_i hM
      exact ⟨⟨y.neg, A1, trimN zs, c1, zs.take (trimN zs)⟩, rfl, R.Own.below hM, GNm.trim hM (.head _) hl hd (row_capN hM (.head _)) (by omega), by
        rw [nm_z, trimN_dv, hv]
        unfold Nm.z
        cases hx : x.neg <;> cases hy : y.neg <;> simp_all <;> omega⟩
    · rw [decide_eq_false hlt]
      (refine R.stepU ?_; (repeat' (first | (with_reducible refine And.intro ?_ ?_) | (with_reducible intro _))); all_goals refine R.Lft.mk ?_)
      refine R.WC_planX [(0, false), (1, false), (2, false), (3, false), (4, false), (5, false), (6, true), (7, true), (8, false), (9, true)] R.mixed (by decide +kernel) R.ohm ?_
      (refine R.stepU ?_; (repeat' (first | (with_reducible refine And.intro ?_ ?_) | (with_reducible intro _))); all_goals refine R.Lft.mk ?_)
      rename_i hM
      refine R.WO_call2 rfl rfl R.vv R.vv ?_
      refine (minus_i x.A y.A x.n x.c y.n y.c x.L y.L _ (hM.inpIn x1) x2 x3 (by omega) (hM.inpIn y1) y2 y3 (by omega) (by omega)).mono ?_
      rintro _ w4 ⟨A1, c1, zs, rfl, hG, hl, hd, hv⟩
      have hM := R.Own.give hM hG
      refine ⟨_, rfl, ?_⟩
      (refine R.stepU ?_; (repeat' (first | (with_reducible refine And.intro ?_ ?_) | (with_reducible intro _))); all_goals refine R.Lft.mk ?_)
      refine R.WO_call1 rfl rfl R.vv ?_
      refine ((con_trim A1 x.n c1).h zs _ ⟨R.Own.inp hM (.head _), hl, hd, row_capN hM (.head _), by omega⟩).mono ?_
      rintro _ w5 ⟨rfl, rfl⟩
      refine ⟨_, rfl, ?_⟩
      (refine R.stepU ?_; (repeat' (first | (with_reducible refine And.intro ?_ ?_) | (with_reducible intro _))); all_goals refine R.Lft.mk ?_)
      rename_i hM
      exact ⟨⟨x.neg, A1, trimN zs, c1, zs.take (trimN zs)⟩, rfl, R.Own.below hM, GNm.trim hM (.head _) hl hd (row_capN hM (.head _)) (by omega), by
        rw [nm_z, trimN_dv, hv]
        unfold Nm.z
        cases hx : x.neg <;> cases hy : y.neg <;> simp_all <;> omega⟩
theorem n30_sign (x : Nm) (k : Nat) (w : World) (hx : GNm k w x) (hk : k ≤ 100000) : Calls Tryz.prog 42 #[.agg (cNm x).toArray] w fun e w' => e = .returned (.int .i64 (cmpZ x.z 0)) ∧ Below w.heap.size w w' := by
  have hM := R.Own.start [] w
  obtain ⟨x1, x2, x3, x4, x5⟩ := hx
  have hz : bitLen (dv x.L) = 0 ↔ dv x.L = 0 := ⟨fun h => by
    rcases Nat.eq_zero_or_pos (dv x.L) with g | g
    · exact g
    · have := bl_pos g
      omega, fun h => by rw [h]; rfl⟩
  have hv : x.z = if x.neg then -((dv x.L : Nat) : Int) else ((dv x.L : Nat) : Int) := rfl
  refine R.calls_of_WC (fn := Tryz.f42) Tryz.func42 rfl Tryz.ntmps42 (Nat.le_of_ble_eq_true rfl) ?_
  (refine R.stepU ?_; (repeat' (first | (with_reducible refine And.intro ?_ ?_) | (with_reducible intro _))); all_goals refine R.Lft.mk ?_)
  all_goals
    refine ⟨?_, R.Own.below (by assumption)⟩
    rw [hv]
  · have h : dv x.L = 0 := hz.1 (by omega)
    rw [h]
    cases x.neg <;> rfl
  · have h : dv x.L ≠ 0 := fun h => by have := hz.2 h; omega
    rw [if_pos (by assumption), cmpZ_lt (by omega)]
  · have h : dv x.L ≠ 0 := fun h => by have := hz.2 h; omega
    rw [if_neg (by rw [show x.neg = false by assumption]; decide), cmpZ_gt (by omega)]
end Go.Proofs.YtebgjcginmgoaaaGreat
