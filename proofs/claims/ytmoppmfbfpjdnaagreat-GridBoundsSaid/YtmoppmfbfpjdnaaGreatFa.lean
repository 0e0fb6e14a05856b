/- Package far: numbers, ways, how far along the nearest point is, how far a point is. -/
import Derived.Test.YtmoppmfbfpjdnaaGreatFs
import Derived.Test.YtmoppmfbfpjdnaaGreatRa
import Derived.Test.YtmoppmfbfpjdnaaGreatWy
namespace Go.Proofs.YtmoppmfbfpjdnaaGreat
open Go.RowKit
open R (In64 InU64 lo64 nth)

attribute [local irreducible] W512 in
instance con_fmul (a b : Sg) : R.ConB Tryz.prog 53 #[.agg (cS a).toArray, .agg (cS b).toArray] Unit (fun _ _ => True) (fun _ => .agg (cS (resZ (a.z * b.z))).toArray) := ⟨fun _ w _ => by
  have hM := R.Own.start [] w
  refine R.calls_of_WC (fn := Tryz.f53) Tryz.func53 rfl Tryz.ntmps53 (Nat.le_of_ble_eq_true rfl) ?_
  (refine R.stepU ?_; (repeat' (first | (with_reducible refine And.intro ?_ ?_) | (with_reducible intro _))); all_goals refine R.Lft.mk ?_; (all_goals (try (exact ⟨rfl, R.Own.below (by assumption)⟩))))⟩
attribute [local irreducible] W512 in
instance con_fadd (a b : Sg) : R.ConB Tryz.prog 83 #[.agg (cS a).toArray, .agg (cS b).toArray] Unit (fun _ _ => True) (fun _ => .agg (cS (resZ (a.z + b.z))).toArray) := ⟨fun _ w _ => by
  have hM := R.Own.start [] w
  refine R.calls_of_WC (fn := Tryz.f83) Tryz.func83 rfl Tryz.ntmps83 (Nat.le_of_ble_eq_true rfl) ?_
  (refine R.stepU ?_; (repeat' (first | (with_reducible refine And.intro ?_ ?_) | (with_reducible intro _))); all_goals refine R.Lft.mk ?_; (all_goals (try (exact ⟨rfl, R.Own.below (by assumption)⟩))))⟩
attribute [local irreducible] W512 in
instance con_fsub (a b : Sg) : R.ConB Tryz.prog 78 #[.agg (cS a).toArray, .agg (cS b).toArray] Unit (fun _ _ => True) (fun _ => .agg (cS (resZ (a.z - b.z))).toArray) := ⟨fun _ w _ => by
  have hM := R.Own.start [] w
  refine R.calls_of_WC (fn := Tryz.f78) Tryz.func78 rfl Tryz.ntmps78 (Nat.le_of_ble_eq_true rfl) ?_
  (refine R.stepU ?_; (repeat' (first | (with_reducible refine And.intro ?_ ?_) | (with_reducible intro _))); all_goals refine R.Lft.mk ?_; (all_goals (try (exact ⟨rfl, R.Own.below (by assumption)⟩))))⟩
/-- What a spot is divided by. -/
def byS (a : Sp) : Sg := ⟨false, a.w⟩
attribute [local irreducible] W512 in
instance con_fby (a : Sp) : R.ConB Tryz.prog 54 #[.agg (cSp a).toArray] Unit (fun _ _ => True) (fun _ => .agg (cS (byS a)).toArray) := ⟨fun _ w _ => by
  have hM := R.Own.start [] w
  refine R.calls_of_WC (fn := Tryz.f54) Tryz.func54 rfl Tryz.ntmps54 (Nat.le_of_ble_eq_true rfl) ?_
  (refine R.stepU ?_; (repeat' (first | (with_reducible refine And.intro ?_ ?_) | (with_reducible intro _))); all_goals refine R.Lft.mk ?_; (all_goals (try (exact ⟨rfl, R.Own.below (by assumption)⟩))))⟩
/-- Ways. -/
def toW (a : Sp) (p : Pt) : Wy := ⟨resZ ((resZ ((sgn p.x).z * (byS a).z)).z - a.x.z), resZ ((resZ ((sgn p.y).z * (byS a).z)).z - a.y.z)⟩
def btwW (a b : Sp) : Wy := ⟨resZ ((resZ (b.x.z * (byS a).z)).z - (resZ (a.x.z * (byS b).z)).z), resZ ((resZ (b.y.z * (byS a).z)).z - (resZ (a.y.z * (byS b).z)).z)⟩
def dotW (u v : Wy) : Sg := resZ ((resZ (u.x.z * v.x.z)).z + (resZ (u.y.z * v.y.z)).z)
def crossW (u v : Wy) : Sg := resZ ((resZ (u.x.z * v.y.z)).z - (resZ (u.y.z * v.x.z)).z)
theorem nbw_t {b : Bool} {p : Prop} (hd : b = true) (h : (!b) = true) : p := by rw [hd] at h; cases h
theorem nbw_f {b : Bool} {p : Prop} (hd : b = false) (h : (!b) = false) : p := by rw [hd] at h; cases h
theorem bbw_t {b : Bool} {p : Prop} (hd : b = true) (h : b = false) : p := by rw [hd] at h; cases h
attribute [local irreducible] W512 in
set_option maxHeartbeats 4000000 in
instance con_fto (a : Sp) (p : Pt) : R.ConB Tryz.prog 49 #[.agg (cSp a).toArray, .agg (cPt p).toArray] Unit (fun _ _ => In64 p.x ∧ In64 p.y) (fun _ => .agg (cWy (toW a p)).toArray) := ⟨fun _ w ⟨h1, h2⟩ => by
  have hM := R.Own.start [] w
  refine R.calls_of_WC (fn := Tryz.f49) Tryz.func49 rfl Tryz.ntmps49 (Nat.le_of_ble_eq_true rfl) ?_
  (refine R.stepU ?_; (repeat' (first | (with_reducible refine And.intro ?_ ?_) | (with_reducible intro _))); all_goals refine R.Lft.mk ?_)
  refine R.WC_planX [(0, false), (1, false), (3, false), (6, false), (7, false), (9, false), (10, false), (12, false), (15, false), (16, false), (2, true), (4, true), (5, true), (8, true), (11, true), (13, true), (14, true), (17, true), (18, false), (19, true)] R.mixed (by decide +kernel) R.ohm ?_
  (refine R.stepU ?_; (repeat' (first | (with_reducible refine And.intro ?_ ?_) | (with_reducible intro _))); all_goals refine R.Lft.mk ?_; (all_goals (try (exact ⟨rfl, R.Own.below (by assumption)⟩))))⟩
attribute [local irreducible] W512 in
set_option maxHeartbeats 4000000 in
instance con_fbtw (a b : Sp) : R.ConB Tryz.prog 50 #[.agg (cSp a).toArray, .agg (cSp b).toArray] Unit (fun _ _ => True) (fun _ => .agg (cWy (btwW a b)).toArray) := ⟨fun _ w _ => by
  have hM := R.Own.start [] w
  refine R.calls_of_WC (fn := Tryz.f50) Tryz.func50 rfl Tryz.ntmps50 (Nat.le_of_ble_eq_true rfl) ?_
  (refine R.stepU ?_; (repeat' (first | (with_reducible refine And.intro ?_ ?_) | (with_reducible intro _))); all_goals refine R.Lft.mk ?_)
  refine R.WC_planX [(0, false), (1, false), (2, false), (5, false), (6, false), (7, false), (11, false), (12, false), (13, false), (16, false), (17, false), (18, false), (3, true), (4, true), (8, true), (9, true), (10, true), (14, true), (15, true), (19, true), (20, true), (21, true), (22, false), (23, true)] R.mixed (by decide +kernel) R.ohm ?_
  (refine R.stepU ?_; (repeat' (first | (with_reducible refine And.intro ?_ ?_) | (with_reducible intro _))); all_goals refine R.Lft.mk ?_; (all_goals (try (exact ⟨rfl, R.Own.below (by assumption)⟩))))⟩
attribute [local irreducible] W512 in
set_option maxHeartbeats 4000000 in
instance con_fdot (u v : Wy) : R.ConB Tryz.prog 55 #[.agg (cWy u).toArray, .agg (cWy v).toArray] Unit (fun _ _ => True) (fun _ => .agg (cS (dotW u v)).toArray) := ⟨fun _ w _ => by
  have hM := R.Own.start [] w
  refine R.calls_of_WC (fn := Tryz.f55) Tryz.func55 rfl Tryz.ntmps55 (Nat.le_of_ble_eq_true rfl) ?_
  (refine R.stepU ?_; (repeat' (first | (with_reducible refine And.intro ?_ ?_) | (with_reducible intro _))); all_goals refine R.Lft.mk ?_)
  refine R.WC_planX [(0, false), (1, false), (2, false), (3, false), (5, false), (6, false), (7, false), (8, false), (4, true), (9, true), (10, true), (11, true)] R.mixed (by decide +kernel) R.ohm ?_
  (refine R.stepU ?_; (repeat' (first | (with_reducible refine And.intro ?_ ?_) | (with_reducible intro _))); all_goals refine R.Lft.mk ?_; (all_goals (try (exact ⟨rfl, R.Own.below (by assumption)⟩))))⟩
attribute [local irreducible] W512 in
set_option maxHeartbeats 4000000 in
instance con_fcross (u v : Wy) : R.ConB Tryz.prog 51 #[.agg (cWy u).toArray, .agg (cWy v).toArray] Unit (fun _ _ => True) (fun _ => .agg (cS (crossW u v)).toArray) := ⟨fun _ w _ => by
  have hM := R.Own.start [] w
  refine R.calls_of_WC (fn := Tryz.f51) Tryz.func51 rfl Tryz.ntmps51 (Nat.le_of_ble_eq_true rfl) ?_
  (refine R.stepU ?_; (repeat' (first | (with_reducible refine And.intro ?_ ?_) | (with_reducible intro _))); all_goals refine R.Lft.mk ?_)
  refine R.WC_planX [(0, false), (1, false), (2, false), (3, false), (5, false), (6, false), (7, false), (8, false), (4, true), (9, true), (10, true), (11, true)] R.mixed (by decide +kernel) R.ohm ?_
  (refine R.stepU ?_; (repeat' (first | (with_reducible refine And.intro ?_ ?_) | (with_reducible intro _))); all_goals refine R.Lft.mk ?_; (all_goals (try (exact ⟨rfl, R.Own.below (by assumption)⟩))))⟩
/-- Which spots are near, which lines and points there are. -/
def nearS (a : Sp) : Bool := decide (((bitLen a.x.mag.n : Nat) : Int) ≤ 92) && (decide (((bitLen a.y.mag.n : Nat) : Int) ≤ 92) && (decide (((bitLen a.w.n : Nat) : Int) ≤ 62) && mayS a))
def ptB (p : Pt) : Bool := decide (-536870912 ≤ p.x) && (decide (p.x ≤ 536870912) && (decide (-536870912 ≤ p.y) && decide (p.y ≤ 536870912)))
def lineB (a b : Sp) (p : Pt) : Bool := nearS a && (nearS b && (!decide (a = b) && ptB p))
attribute [local irreducible] W512 mayS in
set_option maxHeartbeats 4000000 in
instance con_fnear (a : Sp) : R.ConB Tryz.prog 46 #[.agg (cSp a).toArray] Unit (fun _ _ => True) (fun _ => .bool (nearS a)) := ⟨fun _ w _ => by
  have hM := R.Own.start [] w
  refine R.calls_of_WC (fn := Tryz.f46) Tryz.func46 rfl Tryz.ntmps46 (Nat.le_of_ble_eq_true rfl) ?_
  (refine R.stepU ?_; (repeat' (first | (with_reducible refine And.intro ?_ ?_) | (with_reducible intro _))); all_goals refine R.Lft.mk ?_)
  all_goals
    refine ⟨?_, R.Own.below (by assumption)⟩
    simp [nearS, *]⟩
attribute [local irreducible] W512 in
set_option maxHeartbeats 4000000 in
instance con_within (n : Int) : R.ConB Tryz.prog 45 #[.int .i64 n] Unit (fun _ _ => True) (fun _ => .bool (decide (-536870912 ≤ n) && decide (n ≤ 536870912))) := ⟨fun _ w _ => by
  have hM := R.Own.start [] w
  refine R.calls_of_WC (fn := Tryz.f45) Tryz.func45 rfl Tryz.ntmps45 (Nat.le_of_ble_eq_true rfl) ?_
  (refine R.stepU ?_; (repeat' (first | (with_reducible refine And.intro ?_ ?_) | (with_reducible intro _))); all_goals refine R.Lft.mk ?_)
  all_goals
    refine ⟨?_, R.Own.below (by assumption)⟩
    simp [*]⟩
attribute [local irreducible] W512 in
set_option maxHeartbeats 4000000 in
instance con_ptmay (p : Pt) : R.ConB Tryz.prog 23 #[.agg (cPt p).toArray] Unit (fun _ _ => True) (fun _ => .bool (ptB p)) := ⟨fun _ w _ => by
  have hM := R.Own.start [] w
  refine R.calls_of_WC (fn := Tryz.f23) Tryz.func23 rfl Tryz.ntmps23 (Nat.le_of_ble_eq_true rfl) ?_
  (refine R.stepU ?_; (repeat' (first | (with_reducible refine And.intro ?_ ?_) | (with_reducible intro _))); all_goals refine R.Lft.mk ?_)
  all_goals
    refine ⟨?_, R.Own.below (by assumption)⟩
    first
      | (simp_all [ptB]; done)
      | (simp_all [ptB]; intros; omega)⟩
attribute [local irreducible] W512 nearS ptB in
set_option maxHeartbeats 4000000 in
instance con_fmay (a b : Sp) (p : Pt) : R.ConB Tryz.prog 25 #[.agg (cSp a).toArray, .agg (cSp b).toArray, .agg (cPt p).toArray] Unit (fun _ _ => True) (fun _ => .bool (lineB a b p)) := ⟨fun _ w _ => by
  have hM := R.Own.start [] w
  refine R.calls_of_WC (fn := Tryz.f25) Tryz.func25 rfl Tryz.ntmps25 (Nat.le_of_ble_eq_true rfl) ?_
  (refine R.stepU ?_; (repeat' (first | (with_reducible refine And.intro ?_ ?_) | (with_reducible intro _))); all_goals refine R.Lft.mk ?_)
  all_goals
    refine ⟨?_, R.Own.below (by assumption)⟩
    simp [lineB, *]⟩
/-- How far along the nearest point is: what is divided, and by what. -/
def partN (a b : Sp) (p : Pt) : Sg := resZ ((dotW (toW a p) (btwW a b)).z * (byS b).z)
def partD (a b : Sp) : Sg := dotW (btwW a b) (btwW a b)
attribute [local irreducible] W512 toW btwW dotW byS in
set_option maxHeartbeats 4000000 in
instance con_fpart (a b : Sp) (p : Pt) : R.ConB Tryz.prog 47 #[.agg (cSp a).toArray, .agg (cSp b).toArray, .agg (cPt p).toArray] Unit (fun _ _ => In64 p.x ∧ In64 p.y) (fun _ => .tuple #[.agg (cS (partN a b p)).toArray, .agg (cS (partD a b)).toArray]) := ⟨fun _ w ⟨h1, h2⟩ => by
  have hM := R.Own.start [] w
  refine R.calls_of_WC (fn := Tryz.f47) Tryz.func47 rfl Tryz.ntmps47 (Nat.le_of_ble_eq_true rfl) ?_
  (refine R.stepU ?_; (repeat' (first | (with_reducible refine And.intro ?_ ?_) | (with_reducible intro _))); all_goals refine R.Lft.mk ?_)
  (refine R.WC_planK 1 [(0, false), (1, false), (3, false), (5, false), (8, false), (9, false), (2, true), (4, true), (6, true), (7, true), (10, true), (11, true), (12, true)] R.mixed (by decide +kernel) R.ohm ?_; simp only [List.take_succ_cons, List.take_zero])
  (refine R.stepU ?_; (repeat' (first | (with_reducible refine And.intro ?_ ?_) | (with_reducible intro _))); all_goals refine R.Lft.mk ?_; (all_goals (try (exact ⟨rfl, R.Own.below (by assumption)⟩))))⟩
theorem cmpZ_le0 {x y : Int} : cmpZ x y ≤ 0 ↔ x ≤ y := by unfold cmpZ; split <;> (try split) <;> omega
theorem cmpZ_ge0 {x y : Int} : 0 ≤ cmpZ x y ↔ y ≤ x := by unfold cmpZ; split <;> (try split) <;> omega
theorem nul_z : (⟨false, W 0⟩ : Sg).z = 0 := by
  show ((W 0).n : Int) = 0
  rw [W_n W512_pos]
  rfl
def partR (a b : Sp) (p : Pt) : Rt := if (partN a b p).z ≤ 0 then ⟨sgn 0, W 1⟩ else if (partD a b).z ≤ (partN a b p).z then ⟨sgn 1, W 1⟩ else ofR (partN a b p) (partD a b)
def fpartE (a b : Sp) (p : Pt) : Int := if (partN a b p).z ≤ 0 then 0 else if (partD a b).z ≤ (partN a b p).z then 0 else eW (partD a b).mag
end Go.Proofs.YtmoppmfbfpjdnaaGreat
