/- The law FarAlong: its walk. -/
import Derived.Test.YtebgjcginmgoaaaFu
import Derived.Test.YtebgjcginmgoaaaOpn
import Derived.Test.YtebgjcginmgoaaaOpen
namespace Go.Proofs.Ytebgjcginmgoaaa
open Go.ChangeShapes Go.WideShapes Go.ChangeAt Go.RowKit
open R (In64 InU64 lo64 nth)
/-- A number as its digits, trimmed. -/
def ofN (b : Bool) (A : Option Addr) (c : Nat) (m : Wd) : Nm := ⟨b, A, trimN (digsL m.n 32), c, (digsL m.n 32).take (trimN (digsL m.n 32))⟩
theorem ofN_z (b : Bool) (A : Option Addr) (c : Nat) (m : Wd) : (ofN b A c m).z = (⟨b, m⟩ : Sg).z := by
  unfold ofN
  rw [nm_z, trimN_dv, digsL_whole]
  rfl
theorem ofN_G {W w : World} {l : List R.Res} {A : Option Addr} {c : Nat} {b : Bool} {m : Wd} (hM : R.Own [] W w l) (hm : R.Res.row A 32 c 29 1 ((digsL m.n 32).flatMap R.cU) ∈ l) : GNm 32 w (ofN b A c m) := GNm.trim hM hm (digsL_len m.n 32).symm (digsL_dig m.n 32) (row_capN hM hm) (Nat.le_refl _)
attribute [local irreducible] W512 digsL trimN in
set_option maxHeartbeats 2000000 in
theorem of_row (a : Sg) (w : World) : Calls Try.prog 16 #[.agg (cS a).toArray] w fun e w' => ∃ A c, e = .returned (.agg (cNm (ofN a.neg A c a.mag)).toArray) ∧ R.Gives w w' A 32 c 29 1 ((digsL a.mag.n 32).flatMap R.cU) := by
  have hM := R.Own.start [] w
  have d1 := digsL_dig a.mag.n 32
  have d3 := digsL_len a.mag.n 32
  refine R.calls_of_WC (fn := Try.f16) Try.func16 rfl Try.ntmps16 (Nat.le_of_ble_eq_true rfl) ?_
  (refine R.stepU ?_; (repeat' (first | (with_reducible refine And.intro ?_ ?_) | (with_reducible intro _))); all_goals refine R.Lft.mk ?_)
  refine R.WC_planX [(0, false), (1, false), (2, false), (3, false), (4, true), (5, true), (6, false), (7, true)] R.mixed (by decide +kernel) R.ohm ?_
  (refine R.stepU ?_; (repeat' (first | (with_reducible refine And.intro ?_ ?_) | (with_reducible intro _))); all_goals refine R.Lft.mk ?_)
  rename_i A c _ hM
  refine R.WO_call1 rfl rfl R.vv ?_
  refine ((con_trim A 32 c).h (digsL a.mag.n 32) _ ⟨R.Own.inp hM (.head _), d3.symm, d1, row_capN hM (.head _), by omega⟩).mono ?_
  rintro _ w4 ⟨rfl, rfl⟩
  refine ⟨_, rfl, ?_⟩
  (refine R.stepU ?_; (repeat' (first | (with_reducible refine And.intro ?_ ?_) | (with_reducible intro _))); all_goals refine R.Lft.mk ?_)
  rename_i hM
  exact ⟨A, c, rfl, hM.gives⟩
def mayC (x y : Rt) : Bool := !decide (x.den = W 0) && (!decide (y.den = W 0) && (decide (x.num = sgn x.num.z) && decide (y.num = sgn y.num.z)))
theorem mayC_ok (x y : Rt) : mayC x y = (okN x && okN y) := by
  unfold mayC okN
  have e : ∀ a : Wd, decide (a = W 0) = decide (a.n = 0) := fun a => decide_eq_decide.2 Wd.zero_iff
  rw [e, e]
  cases decide (x.den.n = 0) <;> cases decide (y.den.n = 0) <;> cases decide (x.num = sgn x.num.z) <;> cases decide (y.num = sgn y.num.z) <;> rfl
section
variable {x y : Rt}
theorem mayC_1 (h1 : x.den ≠ W 0) (h2 : y.den ≠ W 0) (h3 : x.num = sgn x.num.z) : mayC x y = decide (y.num = sgn y.num.z) := by unfold mayC; rw [decide_eq_false h1, decide_eq_false h2, decide_eq_true h3]; rfl
theorem mayC_2 (h3 : ¬ x.num = sgn x.num.z) : mayC x y = false := by unfold mayC; rw [decide_eq_false h3]; simp
theorem mayC_3 (h : ¬ y.den ≠ W 0) : mayC x y = false := by unfold mayC; rw [decide_eq_true (Decidable.not_not.1 h)]; simp
theorem mayC_4 (h : ¬ x.den ≠ W 0) : mayC x y = false := by unfold mayC; rw [decide_eq_true (Decidable.not_not.1 h)]; simp
end
attribute [local irreducible] W512 alongV alongE fcmpV fcmpE sgn shortB digsL trimN in
set_option maxHeartbeats 8000000 in
theorem farAlong_any (u : Int) (x y : Rt) (w : World) (hu : In64 u) : Calls Try.prog 4 #[.int .i64 u, .agg (cR x).toArray, .agg (cR y).toArray] w fun e w' => e = .returned (.bool true) ∧ Below w.heap.size w w' := by
  have hM := R.Own.start [] w
  refine R.calls_of_WC (fn := Try.f4) Try.func4 rfl Try.ntmps4 (Nat.le_of_ble_eq_true rfl) ?_
  (refine R.stepU ?_; (repeat' (first | (with_reducible refine And.intro ?_ ?_) | (with_reducible intro _))); all_goals refine R.Lft.mk ?_)
  refine R.WC_cut2 (ι := Nat × Nat) (fun i => [(0, .int .i64 u), (4, .pointer (some ⟨i.1, 0, none⟩)), (5, .pointer (some ⟨i.2, 0, none⟩)), (6, .bool false), (7, .int .i64 (alongV u x)), (8, .int .i64 (alongE u x)), (9, .int .i64 (fcmpV x y)), (10, .int .i64 (fcmpE x y)), (11, .bool (mayC x y))])
    (fun i w2 => R.Own [] w w2 [.blk i.2 39 (cR y), .blk i.1 39 (cR x)]) ?h1 ?h2
  case h1 =>
    refine R.WC_planX [(0, false), (1, false), (2, false), (3, false), (4, false), (5, false), (6, false), (7, false), (8, false), (9, false), (10, false), (11, false), (12, false), (13, false), (14, false), (15, true), (16, false), (17, false), (18, false), (19, false), (20, false), (21, false), (22, false), (23, true), (24, false), (25, false), (26, false)] R.mixed (by decide +kernel) R.ohm ?_
    (refine R.stepU ?_; (repeat' (first | (with_reducible refine And.intro ?_ ?_) | (with_reducible intro _))); all_goals refine R.Lft.mk ?_)
    all_goals exact ⟨rfl, (_, _), ⟨rfl, rfl, rfl, rfl, rfl, rfl, rfl, rfl, R.viaB rfl (by first | exact mayC_1 (by assumption) (by assumption) (by assumption) | exact (mayC_1 (by assumption) (by assumption) (by assumption)).symm | exact mayC_2 (by assumption) | exact (mayC_2 (by assumption)).symm | exact mayC_3 (by assumption) | exact (mayC_3 (by assumption)).symm | exact mayC_4 (by assumption) | exact (mayC_4 (by assumption)).symm), trivial⟩, (by assumption)⟩
  case h2 =>
    rintro ⟨g4, g5⟩ f w2 hM
    dsimp only at hM ⊢
    refine R.then_n ?_
    refine R.WC_seq ?_
    refine R.WC_cut2 (ι := Nat) (fun i => [(0, .int .i64 u), (4, .pointer (some ⟨i, 0, none⟩)), (6, .bool false), (7, .int .i64 (alongV u x)), (8, .int .i64 (alongE u x))])
      (fun i w2 => R.Own [] w w2 [.blk i 39 (cR x)]) ?h3 ?h4
    case h3 =>
      rw [mayC_ok]
      cases ho : okN x && okN y with
      | false =>
        have e : fcmpE x y = 1 := by unfold fcmpE; rw [ho]; rfl
        have e2 : fcmpV x y = 0 := by unfold fcmpV; rw [e, if_neg (by decide)]
        rw [e, e2]
        (refine R.stepU ?_; (repeat' (first | (with_reducible refine And.intro ?_ ?_) | (with_reducible intro _))); all_goals refine R.Lft.mk ?_)
        all_goals exact ⟨rfl, g4, ⟨rfl, rfl, rfl, rfl, rfl, trivial⟩, R.Own.sub (by assumption) R.subl⟩
      | true =>
        cases hs : shortB x && shortB y with
        | false =>
          have e : fcmpE x y = 6 := by unfold fcmpE; rw [ho, hs]; rfl
          have e2 : fcmpV x y = 0 := by unfold fcmpV; rw [e, if_neg (by decide)]
          rw [e, e2]
          (refine R.stepU ?_; (repeat' (first | (with_reducible refine And.intro ?_ ?_) | (with_reducible intro _))); all_goals refine R.Lft.mk ?_)
          all_goals first
            | exact bbw_t (both_ (by assumption) (by assumption)) hs
            | exact ⟨rfl, g4, ⟨rfl, rfl, rfl, rfl, rfl, trivial⟩, R.Own.sub (by assumption) R.subl⟩
        | true =>
          have e : fcmpE x y = 0 := by unfold fcmpE; rw [ho, hs]; rfl
          rw [Bool.and_eq_true] at hs
          obtain ⟨sx, sy⟩ := hs
          have e2 : fcmpV x y = cmpZ (x.num.z * (y.den.n : Int)) (y.num.z * (x.den.n : Int)) := by
            unfold fcmpV
            rw [e, if_pos rfl]
            exact cmp_plain sx sy
          rw [e, e2]
          (refine R.stepU ?_; (repeat' (first | (with_reducible refine And.intro ?_ ?_) | (with_reducible intro _))); all_goals refine R.Lft.mk ?_)
          all_goals first
            | exact nbw_t sx (by assumption)
            | exact nbw_t sy (by assumption)
            | skip
          refine R.WC_cut2 (ι := Option Addr × Nat × Option Addr × Nat × Nat) (fun i => [(0, .int .i64 u), (4, .pointer (some ⟨g4, 0, none⟩)), (5, .pointer (some ⟨g5, 0, none⟩)), (6, .bool false), (7, .int .i64 (alongV u x)), (8, .int .i64 (alongE u x)), (9, .int .i64 (cmpZ (x.num.z * (y.den.n : Int)) (y.num.z * (x.den.n : Int)))), (10, .int .i64 0), (12, .pointer (some ⟨i.2.2.2.2, 0, none⟩))])
            (fun i w2 => R.Own [] w w2 [.blk i.2.2.2.2 54 (cFr ⟨ofN x.num.neg i.1 i.2.1 x.num.mag, ofN false i.2.2.1 i.2.2.2.1 x.den⟩), .row i.2.2.1 32 i.2.2.2.1 29 1 ((digsL x.den.n 32).flatMap R.cU), .row i.1 32 i.2.1 29 1 ((digsL x.num.mag.n 32).flatMap R.cU), .blk g5 39 (cR y), .blk g4 39 (cR x)]) ?h5 ?h6
          case h5 =>
            refine R.WC_planF (.q 0 (.q 1 (.q 3 (.q 4 (.q 5 (.f 2 8 (.f 6 8 (.q 7 (.e 8 (.e 9 .nil))) (.e 6 (.q 7 (.e 9 .nil)))) (.e 2 (.e 6 (.q 7 (.e 9 .nil)))))))))) R.mixed (by decide +kernel) R.ohm ?_
            (refine R.stepU ?_; (repeat' (first | (with_reducible refine And.intro ?_ ?_) | (with_reducible intro _))); all_goals refine R.Lft.mk ?_)
            all_goals
              refine R.WO_call1 rfl rfl R.vv ?_
              refine (of_row x.num _).mono ?_
              rintro _ wa ⟨B1, d1, rfl, hG1⟩
              have hM := R.Own.give R.ohm hG1
              refine ⟨_, rfl, ?_⟩
              (refine R.stepU ?_; (repeat' (first | (with_reducible refine And.intro ?_ ?_) | (with_reducible intro _))); all_goals refine R.Lft.mk ?_)
              all_goals
                refine R.WO_call1 rfl rfl R.vv ?_
                refine (of_row ⟨false, x.den⟩ _).mono ?_
                rintro _ wb ⟨B2, d2, rfl, hG2⟩
                have hM := R.Own.give R.ohm hG2
                refine ⟨_, rfl, ?_⟩
                (refine R.stepU ?_; (repeat' (first | (with_reducible refine And.intro ?_ ?_) | (with_reducible intro _))); all_goals refine R.Lft.mk ?_)
                all_goals
                  rename_i hM
                  exact ⟨rfl, (B1, d1, B2, d2, _), ⟨rfl, rfl, rfl, rfl, rfl, rfl, rfl, rfl, rfl, trivial⟩, (R.pk (r := .blk _ _ (cFr ⟨ofN x.num.neg B1 d1 x.num.mag, ofN false B2 d2 x.den⟩)) hM).sub R.subl⟩
          case h6 =>
            rintro ⟨A1, c1, A2, c2, g12⟩ f w3 hM
            dsimp only at hM ⊢
            (refine R.stepU ?_; (repeat' (first | (with_reducible refine And.intro ?_ ?_) | (with_reducible intro _))); all_goals refine R.Lft.mk ?_)
            refine R.WC_cut2 (ι := Option Addr × Nat × Option Addr × Nat × Nat) (fun i => [(0, .int .i64 u), (4, .pointer (some ⟨g4, 0, none⟩)), (6, .bool false), (7, .int .i64 (alongV u x)), (8, .int .i64 (alongE u x)), (9, .int .i64 (cmpZ (x.num.z * (y.den.n : Int)) (y.num.z * (x.den.n : Int)))), (10, .int .i64 0), (12, .pointer (some ⟨g12, 0, none⟩)), (13, .pointer (some ⟨i.2.2.2.2, 0, none⟩))])
              (fun i w2 => R.Own [] w w2 [.blk i.2.2.2.2 54 (cFr ⟨ofN y.num.neg i.1 i.2.1 y.num.mag, ofN false i.2.2.1 i.2.2.2.1 y.den⟩), .row i.2.2.1 32 i.2.2.2.1 29 1 ((digsL y.den.n 32).flatMap R.cU), .row i.1 32 i.2.1 29 1 ((digsL y.num.mag.n 32).flatMap R.cU), .blk g12 54 (cFr ⟨ofN x.num.neg A1 c1 x.num.mag, ofN false A2 c2 x.den⟩), .row A2 32 c2 29 1 ((digsL x.den.n 32).flatMap R.cU), .row A1 32 c1 29 1 ((digsL x.num.mag.n 32).flatMap R.cU), .blk g4 39 (cR x)]) ?h7 ?h8
            case h7 =>
              refine R.WC_planF (.q 0 (.q 1 (.q 3 (.q 4 (.q 5 (.f 2 8 (.f 6 8 (.q 7 (.e 8 (.e 9 .nil))) (.e 6 (.q 7 (.e 9 .nil)))) (.e 2 (.e 6 (.q 7 (.e 9 .nil)))))))))) R.mixed (by decide +kernel) R.ohm ?_
              (refine R.stepU ?_; (repeat' (first | (with_reducible refine And.intro ?_ ?_) | (with_reducible intro _))); all_goals refine R.Lft.mk ?_)
              all_goals
                refine R.WO_call1 rfl rfl R.vv ?_
                refine (of_row y.num _).mono ?_
                rintro _ wa ⟨B1, d1, rfl, hG1⟩
                have hM := R.Own.give R.ohm hG1
                refine ⟨_, rfl, ?_⟩
                (refine R.stepU ?_; (repeat' (first | (with_reducible refine And.intro ?_ ?_) | (with_reducible intro _))); all_goals refine R.Lft.mk ?_)
                all_goals
                  refine R.WO_call1 rfl rfl R.vv ?_
                  refine (of_row ⟨false, y.den⟩ _).mono ?_
                  rintro _ wb ⟨B2, d2, rfl, hG2⟩
                  have hM := R.Own.give R.ohm hG2
                  refine ⟨_, rfl, ?_⟩
                  (refine R.stepU ?_; (repeat' (first | (with_reducible refine And.intro ?_ ?_) | (with_reducible intro _))); all_goals refine R.Lft.mk ?_)
                  all_goals
                    rename_i hM
                    exact ⟨rfl, (B1, d1, B2, d2, _), ⟨rfl, rfl, rfl, rfl, rfl, rfl, rfl, rfl, rfl, trivial⟩, (R.pk (r := .blk _ _ (cFr ⟨ofN y.num.neg B1 d1 y.num.mag, ofN false B2 d2 y.den⟩)) hM).sub R.subl⟩
            case h8 =>
              rintro ⟨A3, c3, A4, c4, g13⟩ f w3 hM
              dsimp only at hM ⊢
              (refine R.stepU ?_; (repeat' (first | (with_reducible refine And.intro ?_ ?_) | (with_reducible intro _))); all_goals refine R.Lft.mk ?_)
              rename_i hM
              refine R.WO_call2 rfl rfl R.vv R.vv ?_
              refine (n30_cmp ⟨ofN x.num.neg A1 c1 x.num.mag, ofN false A2 c2 x.den⟩ ⟨ofN y.num.neg A3 c3 y.num.mag, ofN false A4 c4 y.den⟩ _ (ofN_G hM (.tail _ (.tail _ (.tail _ (.tail _ (.tail _ (.head _))))))) (ofN_G hM (.tail _ (.tail _ (.tail _ (.tail _ (.head _)))))) (ofN_G hM (.tail _ (.tail _ (.head _)))) (ofN_G hM (.tail _ (.head _)))).mono ?_
              rintro _ w5 ⟨he, hb5⟩
              have ec : cmpZ ((ofN x.num.neg A1 c1 x.num.mag).z * (ofN false A4 c4 y.den).z) ((ofN y.num.neg A3 c3 y.num.mag).z * (ofN false A2 c2 x.den).z) = (cmpZ (x.num.z * (y.den.n : Int)) (y.num.z * (x.den.n : Int))) := by
                rw [ofN_z, ofN_z, ofN_z, ofN_z]
                rfl
              dsimp only at he
              rw [ec] at he
              subst he
              have hM := hM.call hb5
              refine ⟨_, rfl, ?_⟩
              (refine R.stepU ?_; (repeat' (first | (with_reducible refine And.intro ?_ ?_) | (with_reducible intro _))); all_goals refine R.Lft.mk ?_)
              all_goals first
                | exact absurd rfl (by assumption)
                | exact ⟨rfl, g4, ⟨rfl, rfl, rfl, rfl, rfl, trivial⟩, R.Own.sub (by assumption) R.subl⟩
    case h4 =>
      rintro g4 f w2 hM
      by_cases hr : 0 ≤ u ∧ u ≤ 2147483648
      · obtain ⟨h0, h1⟩ := hr
        cases ha : alongB x with
        | true =>
          have eE : alongE u x = 0 := by unfold alongE; rw [if_pos ⟨h0, h1⟩, if_pos ha]
          have eV : alongV u x = alongN u x := by unfold alongV; rw [if_pos ⟨h0, h1⟩, if_pos ha]
          obtain ⟨m, em, m1, m2, m3⟩ := along_plain h0 h1 ha
          obtain ⟨a1, a2, a3, a4, a5⟩ := along_of ha
          rw [eE, eV, em]
          (refine R.stepU ?_; (repeat' (first | (with_reducible refine And.intro ?_ ?_) | (with_reducible intro _))); all_goals refine R.Lft.mk ?_)
          all_goals first
            | exact nbw_t a1 (by assumption)
            | exact bbw_t (by assumption) a4
            | skip
          refine R.WO_call2 rfl rfl R.vv R.vv ?_
          refine (less_i _ _ _ _ _ _ (digsL x.den.n 32) (digsL x.num.mag.n 32) _ (R.Own.inp R.ohm (.tail _ (.head _))) (digsL_len _ _).symm (digsL_dig _ _) (by decide) (R.Own.inp R.ohm (.head _)) (digsL_len _ _).symm (digsL_dig _ _) (by decide)).mono ?_
          rintro _ wl ⟨rfl, rfl⟩
          refine ⟨_, rfl, ?_⟩
          rw [digsL_whole, digsL_whole]
          rw [decide_eq_false (show ¬ x.den.n < x.num.mag.n by omega)]
          have q1 := dig4I_dig (a := u) (by unfold R.InU64; omega)
          have q2 := dig4I_dig (a := (m : Int)) (by unfold R.InU64; omega)
          have q3 := digsL_dig x.num.mag.n 32
          have q4 := digsL_dig x.den.n 32
          have q5 := digsL_len x.num.mag.n 32
          have q6 := digsL_len x.den.n 32
          have v1 := dig4I_dv u
          have v2 := dig4I_dv (m : Int)
          have v3 := digsL_whole x.num.mag
          have v4 := digsL_whole x.den
          have a6 : bitLen (dv (digsL x.den.n 32)) ≤ 400 := by rw [v4]; exact a3
          (refine R.stepU ?_; (repeat' (first | (with_reducible refine And.intro ?_ ?_) | (with_reducible intro _))); all_goals refine R.Lft.mk ?_)
          refine R.WC_planX [(0, false), (1, false), (3, false), (4, false), (5, false), (2, true), (6, true), (7, true), (8, false)] R.mixed (by decide +kernel) R.ohm ?_
          (refine R.stepU ?_; (repeat' (first | (with_reducible refine And.intro ?_ ?_) | (with_reducible intro _))); all_goals refine R.Lft.mk ?_)
          refine R.WO_call2 rfl rfl R.vv R.vv ?_
          refine (times_i _ _ _ _ _ _ (dig4I u) (digsL x.num.mag.n 32) _ (R.Own.inp R.ohm R.memb) (dig4I_len u).symm q1 (by decide) (R.Own.inp R.ohm R.memb) q5.symm q3 (by decide)).mono ?_
          rintro _ wt ⟨A5, zs1, rfl, hG5, hl5, hd5, hv5⟩
          have hM := R.Own.give R.ohm hG5
          refine ⟨_, rfl, ?_⟩
          (refine R.stepU ?_; (repeat' (first | (with_reducible refine And.intro ?_ ?_) | (with_reducible intro _))); all_goals refine R.Lft.mk ?_)
          refine R.WO_call2 rfl rfl R.vv R.vv ?_
          refine (times_i _ _ _ _ _ _ (dig4I (m : Int)) (digsL x.den.n 32) _ (R.Own.inp R.ohm R.memb) (dig4I_len (m : Int)).symm q2 (by decide) (R.Own.inp R.ohm R.memb) q6.symm q4 (by decide)).mono ?_
          rintro _ wt2 ⟨A6, zs2, rfl, hG6, hl6, hd6, hv6⟩
          have hM := R.Own.give R.ohm hG6
          refine ⟨_, rfl, ?_⟩
          (refine R.stepU ?_; (repeat' (first | (with_reducible refine And.intro ?_ ?_) | (with_reducible intro _))); all_goals refine R.Lft.mk ?_)
          refine R.WO_call2 rfl rfl R.vv R.vv ?_
          refine (plus_i _ _ _ _ _ _ zs2 (digsL x.den.n 32) _ (R.Own.inp R.ohm R.memb) hl6 hd6 (by decide) (R.Own.inp R.ohm R.memb) q6.symm q4 (by decide)).mono ?_
          rintro _ wt3 ⟨A7, c7, n7, zs3, rfl, hG7, hl7, hd7, hv7, hn7⟩
          have hM := R.Own.give R.ohm hG7
          refine ⟨_, rfl, ?_⟩
          (refine R.stepU ?_; (repeat' (first | (with_reducible refine And.intro ?_ ?_) | (with_reducible intro _))); all_goals refine R.Lft.mk ?_)
          refine R.WO_call2 rfl rfl R.vv R.vv ?_
          refine (less_i _ _ _ _ _ _ zs1 zs2 _ (R.Own.inp R.ohm R.memb) hl5 hd5 (by decide) (R.Own.inp R.ohm R.memb) hl6 hd6 (by decide)).mono ?_
          rintro _ wl2 ⟨rfl, rfl⟩
          refine ⟨_, rfl, ?_⟩
          rw [decide_eq_false (show ¬ dv zs1 < dv zs2 by rw [hv5, hv6, v1, v2, v3, v4, Int.toNat_natCast]; exact Nat.not_lt.2 m2)]
          (refine R.stepU ?_; (repeat' (first | (with_reducible refine And.intro ?_ ?_) | (with_reducible intro _))); all_goals refine R.Lft.mk ?_)
          refine R.WO_call2 rfl rfl R.vv R.vv ?_
          refine (less_i _ _ _ _ _ _ zs1 zs3 _ (R.Own.inp R.ohm R.memb) hl5 hd5 (by decide) (R.Own.inp R.ohm R.memb) hl7 hd7 (by omega)).mono ?_
          rintro _ wl3 ⟨rfl, rfl⟩
          refine ⟨_, rfl, ?_⟩
          rw [decide_eq_true (show dv zs1 < dv zs3 by rw [hv5, hv7, hv6, v1, v2, v3, v4, Int.toNat_natCast]; exact m3)]
          (refine R.stepU ?_; (repeat' (first | (with_reducible refine And.intro ?_ ?_) | (with_reducible intro _))); all_goals refine R.Lft.mk ?_)
          exact ⟨rfl, R.Own.below (by assumption)⟩
        | false =>
          have eE : alongE u x = 1 := by unfold alongE; rw [if_pos ⟨h0, h1⟩, ha]; rfl
          have eV : alongV u x = 0 := by unfold alongV; rw [if_pos ⟨h0, h1⟩, ha]; rfl
          rw [eE, eV]
          (refine R.stepU ?_; (repeat' (first | (with_reducible refine And.intro ?_ ?_) | (with_reducible intro _))); all_goals refine R.Lft.mk ?_)
          all_goals first
            | exact ⟨rfl, R.Own.below (by assumption)⟩
            | exact absurd rfl (by assumption)
            | skip
          refine R.WO_call2 rfl rfl R.vv R.vv ?_
          refine (less_i _ _ _ _ _ _ (digsL x.den.n 32) (digsL x.num.mag.n 32) _ (R.Own.inp R.ohm (.tail _ (.head _))) (digsL_len _ _).symm (digsL_dig _ _) (by decide) (R.Own.inp R.ohm (.head _)) (digsL_len _ _).symm (digsL_dig _ _) (by decide)).mono ?_
          rintro _ wl ⟨rfl, rfl⟩
          refine ⟨_, rfl, ?_⟩
          rw [digsL_whole, digsL_whole]
          have q4 := digsL_dig x.den.n 32
          have q6 := digsL_len x.den.n 32
          have v4 := digsL_whole x.den
          (refine R.stepU ?_; (repeat' (first | (with_reducible refine And.intro ?_ ?_) | (with_reducible intro _))); all_goals refine R.Lft.mk ?_)
          all_goals first
            | exact ⟨rfl, R.Own.below (by assumption)⟩
            | exact absurd rfl (by assumption)
            | exact bbw_t (along_not (by simpa using (show (!termsB x) = false by assumption)) (by rw [← v4]; omega) (by assumption) (by assumption)) ha
      · have eE : alongE u x = 10 := by unfold alongE; rw [if_neg hr]
        have eV : alongV u x = 0 := by unfold alongV; rw [if_neg hr]
        rw [eE, eV]
        (refine R.stepU ?_; (repeat' (first | (with_reducible refine And.intro ?_ ?_) | (with_reducible intro _))); all_goals refine R.Lft.mk ?_)
        all_goals first
          | exact ⟨rfl, R.Own.below (by assumption)⟩
          | exact absurd rfl (by assumption)
          | (exfalso; omega)
end Go.Proofs.Ytebgjcginmgoaaa
