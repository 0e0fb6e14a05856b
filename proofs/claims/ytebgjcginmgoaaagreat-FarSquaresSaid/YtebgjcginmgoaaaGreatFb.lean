/- far.Along; awake30. -/
import Derived.Test.YtebgjcginmgoaaaGreatFl
import Derived.Test.YtebgjcginmgoaaaGreatFrame
namespace Go.Proofs.YtebgjcginmgoaaaGreat
open Go.RowKit
open R (In64 InU64 lo64 nth)

/-- A part of a weight, cut. -/
def alongB (x : Rt) : Bool := termsB x && (decide (((bitLen x.den.n : Nat) : Int) ≤ 400) && (!x.num.neg && decide (cmpI x.num.mag.n x.den.n ≤ 0)))
def alongN (u : Int) (x : Rt) : Int := smZ (ovS (resZ ((sgn u).z * x.num.z)) ⟨false, x.den⟩).z
def alongE (u : Int) (x : Rt) : Int := if 0 ≤ u ∧ u ≤ 2147483648 then (if alongB x then 0 else 1) else 10
def alongV (u : Int) (x : Rt) : Int := if 0 ≤ u ∧ u ≤ 2147483648 then (if alongB x then alongN u x else 0) else 0
section
variable {x : Rt}
theorem nd_t {p : Prop} [Decidable p] (h : (!decide p) = true) : ¬ p := by simpa using h
theorem nd_f {p : Prop} [Decidable p] (h : (!decide p) = false) : p := by simpa using h
theorem along_t (h1 : ¬ x.den.n = 0) (h2 : x.num = sgn x.num.z) (h3 : gcdW x.num.mag x.den = W 1) (h4 : ((bitLen x.den.n : Nat) : Int) ≤ 400) (h5 : x.num.neg = false) (h6 : cmpI x.num.mag.n x.den.n ≤ 0) : alongB x = true := by
  unfold alongB termsB
  rw [decide_eq_false h1, decide_eq_true h2, decide_eq_true h3, decide_eq_true h4, h5, decide_eq_true h6]
  rfl
theorem along_1 (h : x.den.n = 0) : alongB x = false := by unfold alongB termsB; rw [decide_eq_true h]; rfl
theorem along_2 (h : ¬ x.num = sgn x.num.z) : alongB x = false := by unfold alongB termsB; rw [decide_eq_false h]; simp
theorem along_3 (h : ¬ gcdW x.num.mag x.den = W 1) : alongB x = false := by unfold alongB termsB; rw [decide_eq_false h]; simp
theorem along_4 (h : ¬ ((bitLen x.den.n : Nat) : Int) ≤ 400) : alongB x = false := by unfold alongB; rw [decide_eq_false h]; simp
theorem along_5 (h : x.num.neg = true) : alongB x = false := by unfold alongB; rw [h]; simp
theorem along_6 (h : ¬ cmpI x.num.mag.n x.den.n ≤ 0) : alongB x = false := by unfold alongB; rw [decide_eq_false h]; simp
end
attribute [local irreducible] W512 resZ ovS smZ cmpI bitLen gcdW sgn in
set_option maxHeartbeats 4000000 in
instance con_falong (u : Int) (x : Rt) : R.ConB Tryz.prog 35 #[.int .i64 u, .agg (cR x).toArray] Unit (fun _ _ => In64 u) (fun _ => .tuple #[.int .i64 (alongV u x), .int .i64 (alongE u x)]) := ⟨fun _ w hu => by
  have hM := R.Own.start [] w
  unfold alongV alongE
  by_cases h0 : 0 ≤ u ∧ u ≤ 2147483648
  · rw [if_pos h0, if_pos h0]
    obtain ⟨h0, h0'⟩ := h0
    refine R.calls_of_WC (fn := Tryz.f35) Tryz.func35 rfl Tryz.ntmps35 (Nat.le_of_ble_eq_true rfl) ?_
    (refine R.stepU ?_; (repeat' (first | (with_reducible refine And.intro ?_ ?_) | (with_reducible intro _))); all_goals refine R.Lft.mk ?_)
    refine R.WC_planX [(0, false), (1, false), (2, true), (3, false), (4, false), (5, false), (6, false), (7, false), (8, false), (9, true), (10, false), (11, false), (12, false), (13, false), (14, false), (15, false), (16, false), (17, false), (18, true), (19, true), (20, false), (21, false), (22, false)] R.mixed (by decide +kernel) R.ohm ?_
    (refine R.stepU ?_; (repeat' (first | (with_reducible refine And.intro ?_ ?_) | (with_reducible intro _))); all_goals refine R.Lft.mk ?_)
    all_goals first
      | exact ⟨by rw [along_1 (nd_f (by assumption))]; rfl, R.Own.below (by assumption)⟩
      | exact ⟨by rw [along_2 (by assumption)]; rfl, R.Own.below (by assumption)⟩
      | exact ⟨by rw [along_3 (nd_t (by assumption))]; rfl, R.Own.below (by assumption)⟩
      | exact ⟨by rw [along_4 (by omega)]; rfl, R.Own.below (by assumption)⟩
      | exact ⟨by rw [along_5 (by assumption)]; rfl, R.Own.below (by assumption)⟩
      | exact ⟨by rw [along_6 (by omega)]; rfl, R.Own.below (by assumption)⟩
      | (exfalso; omega)
      | skip
    have e : alongB x = true := along_t (nd_t (by assumption)) (by assumption) (nd_f (by assumption)) (by omega) (by assumption) (by omega)
    rw [e, if_pos rfl, if_pos rfl]
    refine R.WC_planF (.q 0 (.q 2 (.q 3 (.q 5 (.q 6 (.q 7 (.f 1 12 (.f 4 12 (.f 8 12 (.q 9 (.q 10 (.q 11 (.e 12 (.e 13 (.q 14 .nil)))))) (.e 8 (.q 9 (.q 10 (.q 11 (.e 13 (.q 14 .nil))))))) (.e 4 (.e 8 (.q 9 (.q 10 (.q 11 (.e 13 (.q 14 .nil)))))))) (.e 1 (.e 4 (.e 8 (.q 9 (.q 10 (.q 11 (.e 13 (.q 14 .nil))))))))))))))) R.mixed (by decide +kernel) R.ohm ?_
    (refine R.stepU ?_; (repeat' (first | (with_reducible refine And.intro ?_ ?_) | (with_reducible intro _))); all_goals refine R.Lft.mk ?_)
    all_goals exact ⟨rfl, R.Own.below (by assumption)⟩
  · rw [if_neg h0, if_neg h0]
    refine R.calls_of_WC (fn := Tryz.f35) Tryz.func35 rfl Tryz.ntmps35 (Nat.le_of_ble_eq_true rfl) ?_
    (refine R.stepU ?_; (repeat' (first | (with_reducible refine And.intro ?_ ?_) | (with_reducible intro _))); all_goals refine R.Lft.mk ?_)
    all_goals first
      | exact ⟨rfl, R.Own.below (by assumption)⟩
      | (exfalso; omega)⟩
theorem ofR_nat {a b g : Nat} (hb : b ≠ 0) (ha : a < 18446744073709551616) (hb2 : b < 18446744073709551616) (hg : Nat.gcd a b = g) : ofR (sgn (a : Nat)) (sgn (b : Nat)) = ⟨sgn ((a / g : Nat) : Int), W (b / g)⟩ := by
  have ea : (sgn ((a : Nat) : Int)).mag.n = a := by rw [sgm (by omega)]; omega
  have eb : (sgn ((b : Nat) : Int)).mag.n = b := by rw [sgm (by omega)]; omega
  have eg : (gcdW (sgn ((a : Nat) : Int)).mag (sgn ((b : Nat) : Int)).mag).n = g := by rw [gcdW_n, ea, eb, hg]
  have e1 : (qW (sgn ((a : Nat) : Int)).mag (gcdW (sgn ((a : Nat) : Int)).mag (sgn ((b : Nat) : Int)).mag)).n = a / g := by rw [qWn, ea, eg]
  have e2 : qW (sgn ((b : Nat) : Int)).mag (gcdW (sgn ((a : Nat) : Int)).mag (sgn ((b : Nat) : Int)).mag) = W (b / g) := by
    refine Wd.ext_ ?_
    rw [qWn, eb, eg, wlx (Nat.lt_of_le_of_lt (Nat.div_le_self _ _) hb2)]
  have en : ∀ n : Nat, (sgn (n : Int)).neg = false := fun n => by
    show decide (((n : Nat) : Int) < 0) = false
    exact decide_eq_false (by omega)
  unfold ofR
  rw [if_neg (by rw [eb]; exact hb)]
  unfold lowR sidS
  rw [en, en]
  dsimp only
  rw [e2]
  refine Rt.ext_iff.2 ⟨?_, rfl⟩
  show sgn ((qW _ _).n : Int) = _
  rw [e1]
theorem in0 : inP ⟨0, 0⟩ := ⟨⟨by decide, by decide⟩, by decide, by decide⟩
theorem in2 : inP ⟨2, 0⟩ := ⟨⟨by decide, by decide⟩, by decide, by decide⟩
theorem in13 : inP ⟨1, 3⟩ := ⟨⟨by decide, by decide⟩, by decide, by decide⟩
theorem s30 : squareR (atS 0 0) (atS 2 0) ⟨1, 3⟩ = ⟨sgn 9, W 1⟩ := by
  have h := squareR_at in0 in2 in13
  have e : sR 2 4 (-6) 10 10 = ofR (sgn ((36 : Nat) : Int)) (sgn ((4 : Nat) : Int)) := if_pos ⟨by decide, by decide⟩
  rw [ofR_nat (g := 4) (by decide) (by decide) (by decide) (by decide)] at e
  exact h.trans e
theorem p30 : partR (atS 0 0) (atS 2 0) ⟨1, 3⟩ = ⟨sgn 1, W 2⟩ := by
  have h := partR_at in0 in2 in13
  have e : pR 2 4 = ofR (sgn ((2 : Nat) : Int)) (sgn ((4 : Nat) : Int)) := by
    unfold pR
    rw [if_neg (by decide), if_neg (by decide)]
    rfl
  rw [ofR_nat (g := 2) (by decide) (by decide) (by decide) (by decide)] at e
  exact h.trans e
attribute [local irreducible] lineB atS in
theorem l30 : lineB (atS 0 0) (atS 2 0) ⟨1, 3⟩ = true := line_at in0 in2 in13 (by decide)
attribute [local irreducible] squareE atS in
theorem se30 : squareE (atS 0 0) (atS 2 0) ⟨1, 3⟩ = 0 := squareE_at in0 in2 in13 (by decide)
attribute [local irreducible] fpartE atS in
theorem pe30 : fpartE (atS 0 0) (atS 2 0) ⟨1, 3⟩ = 0 := fpartE_at in0 in2 (by decide)
theorem a30 : alongB ⟨sgn 1, W 2⟩ = true := by
  have h1 : (W 2).n = 2 := wlx (by decide)
  have h2 : (sgn 1).z = 1 := sz_ (by decide)
  have h3 : (sgn 1).mag.n = 1 := sgm (by decide)
  refine along_t ?_ ?_ ?_ ?_ rfl ?_
  · show ¬ (W 2).n = 0
    rw [h1]; decide
  · show sgn 1 = sgn (sgn 1).z
    rw [h2]
  · show gcdW (sgn 1).mag (W 2) = W 1
    refine Wd.ext_ ?_
    rw [gcdW_n, h1, h3, wlx (by decide)]
    decide
  · show ((bitLen (W 2).n : Nat) : Int) ≤ 400
    rw [h1]
    have := bitLen_le_ (x := 2) (m := 30) (by decide)
    omega
  · show cmpI (sgn 1).mag.n (W 2).n ≤ 0
    rw [h1, h3]
    decide
theorem n30 : alongN 7 ⟨sgn 1, W 2⟩ = 3 := by
  have h1 : (W 2).n = 2 := wlx (by decide)
  have e1 : (⟨false, W 2⟩ : Sg).z = 2 := by
    show ((W 2).n : Int) = 2
    rw [h1]; rfl
  unfold alongN
  show smZ (ovS (resZ ((sgn 7).z * (sgn 1).z)) ⟨false, W 2⟩).z = 3
  rw [sz_ (by decide), sz_ (by decide), rs_ (by decide)]
  unfold ovS
  rw [if_neg (by show ¬ (W 2).n = 0; rw [h1]; decide), e1, sz_ (z := 7 * 1) (by decide), show flrZ (7 * 1) 2 = 3 from by decide, sz_ (z := 3) (by decide)]
  decide
theorem av30 : alongV 7 ⟨sgn 1, W 2⟩ = 3 := by
  unfold alongV
  rw [if_pos (by decide), if_pos a30, n30]
theorem ae30 : alongE 7 ⟨sgn 1, W 2⟩ = 0 := by
  unfold alongE
  rw [if_pos (by decide), if_pos a30]
instance con_sq30 : R.ConB Tryz.prog 4 #[.agg (cSp (atS 0 0)).toArray, .agg (cSp (atS 2 0)).toArray, .agg #[.int .i64 1, .int .i64 3]] Unit (fun _ _ => True) (fun _ => .tuple #[.agg (cR ⟨sgn 9, W 1⟩).toArray, .int .i64 0]) := ⟨fun s w _ => by
  have q := (con_fSquare (atS 0 0) (atS 2 0) ⟨1, 3⟩).h s w ⟨by unfold In64; decide, by unfold In64; decide⟩
  rw [se30, if_pos rfl, s30] at q
  exact q⟩
instance con_pt30 : R.ConB Tryz.prog 5 #[.agg (cSp (atS 0 0)).toArray, .agg (cSp (atS 2 0)).toArray, .agg #[.int .i64 1, .int .i64 3]] Unit (fun _ _ => True) (fun _ => .tuple #[.agg (cR ⟨sgn 1, W 2⟩).toArray, .int .i64 0]) := ⟨fun s w _ => by
  have q := (con_fPart (atS 0 0) (atS 2 0) ⟨1, 3⟩).h s w ⟨by unfold In64; decide, by unfold In64; decide⟩
  rw [l30, if_pos rfl, if_pos rfl, p30, pe30] at q
  exact q⟩
instance con_al30 : R.ConB Tryz.prog 35 #[.int .i64 7, .agg (cR ⟨sgn 1, W 2⟩).toArray] Unit (fun _ _ => True) (fun _ => .tuple #[.int .i64 3, .int .i64 0]) := ⟨fun s w _ => by
  have q := (con_falong 7 ⟨sgn 1, W 2⟩).h s w (by unfold In64; decide)
  rw [av30, ae30] at q
  exact q⟩
attribute [local irreducible] W512 atS sgn in
set_option maxHeartbeats 4000000 in
theorem awake30 (w : World) : Calls Tryz.prog 9 #[] w fun e w' => e = .returned (.bool true) ∧ Below w.heap.size w w' := by
  have hM := R.Own.start [] w
  refine R.calls_of_WC (fn := Tryz.f9) Tryz.func9 rfl Tryz.ntmps9 (Nat.le_of_ble_eq_true rfl) ?_
  (refine R.stepU ?_; (repeat' (first | (with_reducible refine And.intro ?_ ?_) | (with_reducible intro _))); all_goals refine R.Lft.mk ?_)
  refine R.WC_planX [(0, false), (1, false), (2, false), (3, false), (4, false), (5, true), (6, false), (7, false), (8, false), (9, false), (10, false), (11, false), (12, false), (13, false), (14, false), (15, false), (16, false), (17, false), (18, false), (19, false), (20, false), (21, false), (22, false), (23, false), (24, false), (25, false), (26, false), (27, false), (28, false), (29, false), (30, false), (31, false), (32, false)] R.mixed (by decide +kernel) R.ohm ?_
  (refine R.stepU ?_; (repeat' (first | (with_reducible refine And.intro ?_ ?_) | (with_reducible intro _))); all_goals refine R.Lft.mk ?_)
  all_goals first
    | exact ⟨rfl, R.Own.below (by assumption)⟩
    | exact absurd rfl (by assumption)
instance con_awake30 : R.ConB Tryz.prog 9 #[] Unit (fun _ _ => True) (fun _ => .bool true) := ⟨fun _ w _ => awake30 w⟩
end Go.Proofs.YtebgjcginmgoaaaGreat
