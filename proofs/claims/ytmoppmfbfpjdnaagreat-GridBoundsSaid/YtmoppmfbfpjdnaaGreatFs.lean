/- Points of the grid as spots. -/
import Derived.Test.YtmoppmfbfpjdnaaGreatSq
namespace Go.Proofs.YtmoppmfbfpjdnaaGreat
open Go.RowKit
open R (In64 InU64 lo64 nth)

def atS (x y : Int) : Sp := ⟨sgn x, sgn y, W 1⟩
attribute [local irreducible] W512 in
theorem at10 (x y : Int) (hx : In64 x) (hy : In64 y) (w : World) : Calls Tryz.prog 12 #[.agg #[.int .i64 x, .int .i64 y]] w fun e w' => e = .returned (.agg (cSp (atS x y)).toArray) ∧ Below w.heap.size w w' := by
  have hM := R.Own.start [] w
  refine R.calls_of_WC (fn := Tryz.f12) Tryz.func12 rfl Tryz.ntmps12 (Nat.le_of_ble_eq_true rfl) ?_
  (refine R.stepU ?_; (repeat' (first | (with_reducible refine And.intro ?_ ?_) | (with_reducible intro _))); all_goals refine R.Lft.mk ?_)
  refine R.WC_planX [(0, false), (1, false), (3, false), (4, false), (6, false), (2, true), (5, true), (7, false), (8, true)] R.mixed (by decide +kernel) R.ohm ?_
  (refine R.stepU ?_; (repeat' (first | (with_reducible refine And.intro ?_ ?_) | (with_reducible intro _))); all_goals refine R.Lft.mk ?_; (all_goals (try (exact ⟨rfl, R.Own.below (by assumption)⟩))))
instance con_at10 (x y : Int) : R.ConB Tryz.prog 12 #[.agg #[.int .i64 x, .int .i64 y]] Unit (fun _ _ => In64 x ∧ In64 y) (fun _ => .agg (cSp (atS x y)).toArray) := ⟨fun _ w h => at10 x y h.1 h.2 w⟩
theorem wlx {n : Nat} (h : n < 18446744073709551616) : (W n).n = n := W_n (wsmall h)
theorem lz_ {z : Int} (h : z.natAbs < 18446744073709551616) : (sgn z).z = z := sgn_z (wsmall h)
theorem sgm {z : Int} (h : z.natAbs < 18446744073709551616) : (sgn z).mag.n = z.natAbs := sgn_mag (wsmall h)
theorem len_small {n : Nat} (h : n < 18446744073709551616) : len120 n = true := by
  unfold len120
  refine decide_eq_true ?_
  have := bitLen_le_ (show n < 2 ^ 64 from h)
  omega
theorem qW1 (a : Wd) : qW a (W 1) = a := Wd.ext_ (by rw [qWn, wlx (by decide), Nat.div_one])
theorem mayS_at {x y : Int} (hx : In64 x) (hy : In64 y) : mayS (atS x y) = true := by
  have hx : x.natAbs < 18446744073709551616 := by unfold In64 at hx; omega
  have hy : y.natAbs < 18446744073709551616 := by unfold In64 at hy; omega
  have hg : gS (sgn x) (sgn y) (W 1) = W 1 := by
    unfold gS
    refine Wd.ext_ ?_
    rw [gcdW_n, wlx (by decide), Nat.gcd_one_right]
  have hl : lowS (sgn x) (sgn y) (W 1) = atS x y := by
    unfold lowS
    rw [hg, qW1, qW1, qW1]
    refine Sp.ext_iff.2 ⟨?_, ?_, rfl⟩
    · exact congrArg sgn (lz_ hx)
    · exact congrArg sgn (lz_ hy)
  unfold mayS
  show (!decide ((W 1).n = 0) && (len120 (sgn x).mag.n && (len120 (sgn y).mag.n && (len120 (W 1).n && decide (atS x y = lowS (sgn x) (sgn y) (W 1)))))) = true
  rw [hl, sgm hx, sgm hy, wlx (by decide), len_small hx, len_small hy, len_small (by decide), decide_eq_true rfl]
  rfl
theorem cmpS_at {x y a b : Int} (hx : In64 x) (hy : In64 y) (ha : In64 a) (hb : In64 b) : cmpS (atS x y) (atS a b) = orI (cmpZ x a) (cmpZ y b) := by
  have key : ∀ u v : Int, In64 u → In64 v → cmpP (sgn u) (sgn v) (W 1) (W 1) = cmpZ u v := fun u v hu hv => by
    have hu : u.natAbs < 18446744073709551616 := by unfold In64 at hu; omega
    have hv : v.natAbs < 18446744073709551616 := by unfold In64 at hv; omega
    unfold cmpP
    have h1 : (⟨false, W 1⟩ : Sg).z = 1 := by
      show ((W 1).n : Int) = 1
      rw [wlx (by decide)]
      rfl
    rw [h1, Int.mul_one, Int.mul_one, lz_ hu, lz_ hv, res_fit (wsmall hu), res_fit (wsmall hv), lz_ hu, lz_ hv]
  show orI (cmpP (sgn x) (sgn a) (W 1) (W 1)) (cmpP (sgn y) (sgn b) (W 1) (W 1)) = _
  rw [key x a hx ha, key y b hy hb]
end Go.Proofs.YtmoppmfbfpjdnaaGreat
