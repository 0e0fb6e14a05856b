/- The law FarTurned: its walk. -/
import Derived.Test.YtebgjcginmgoaaaFb
import Derived.Test.YtebgjcginmgoaaaOpn
import Derived.Test.YtebgjcginmgoaaaOpen
namespace Go.Proofs.Ytebgjcginmgoaaa
open Go.ChangeShapes Go.WideShapes Go.ChangeAt Go.RowKit
open R (In64 InU64 lo64 nth)
def GPt (_ : World) (z : Pt) : Prop := (Lit.int .i64 z.x).wf = true ∧ (Lit.int .i64 z.y).wf = true
def GI30 (_ : World) (n : Int) : Prop := (Lit.int .i64 n).wf = true
instance opn_I30 : R.Opn Try.prog 3 Int R.cI GI30 := R.opn_int (by kernel_rfl) fun _ => rfl
instance opn_Pt : R.Opn Try.prog 23 Pt cPt GPt := R.opn_struct2 (o0 := 0) (t0 := 3) (n0 := 1) (o1 := 1) (t1 := 3) (n1 := 1) (by kernel_rfl) (by kernel_rfl) rfl rfl (by kernel_rfl) Pt.mk (fun _ _ => rfl) (fun _ _ _ h1 h2 => ⟨h1, h2⟩)
def GSgm (w : World) (z : Sgm) : Prop := GPt w z.a ∧ GPt w z.b
instance opn_Sgm : R.Opn Try.prog 25 Sgm cSgm GSgm := R.opn_struct2 (o0 := 0) (t0 := 23) (n0 := 2) (o1 := 2) (t1 := 23) (n1 := 2) (by kernel_rfl) (by kernel_rfl) rfl rfl (by kernel_rfl) Sgm.mk (fun _ _ => rfl) (fun _ _ _ h1 h2 => ⟨h1, h2⟩)
theorem pt64 {p : Pt} {w : World} (h : GPt w p) : In64 p.x ∧ In64 p.y := by
  have h1 := bounds_i64 h.1
  have h2 := bounds_i64 h.2
  unfold In64
  omega
theorem inP64 {p : Pt} (h : inP p) : In64 p.x ∧ In64 p.y := by
  obtain ⟨⟨h1, h2⟩, h3, h4⟩ := h
  unfold In64
  omega
instance con_may7 (p : Pt) : R.ConB Try.prog 6 #[.agg (cPt p).toArray] Unit (fun _ _ => True) (fun _ => .bool (ptB p)) := ⟨fun _ w _ => by
  have hM := R.Own.start [] w
  refine R.calls_of_WC (fn := Try.f6) Try.func6 rfl Try.ntmps6 (Nat.le_of_ble_eq_true rfl) ?_
  (refine R.stepU ?_; (repeat' (first | (with_reducible refine And.intro ?_ ?_) | (with_reducible intro _))); all_goals refine R.Lft.mk ?_)
  all_goals
    refine ⟨?_, R.Own.below (by assumption)⟩
    simp [ptB, *]⟩
def lineP (s : Sgm) : Bool := ptB s.a && (ptB s.b && !decide (s.a = s.b))
attribute [local irreducible] ptB in
instance con_line7 (s : Sgm) : R.ConB Try.prog 5 #[.agg (cSgm s).toArray] Unit (fun _ _ => True) (fun _ => .bool (lineP s)) := ⟨fun _ w _ => by
  have hM := R.Own.start [] w
  refine R.calls_of_WC (fn := Try.f5) Try.func5 rfl Try.ntmps5 (Nat.le_of_ble_eq_true rfl) ?_
  (refine R.stepU ?_; (repeat' (first | (with_reducible refine And.intro ?_ ?_) | (with_reducible intro _))); all_goals refine R.Lft.mk ?_)
  all_goals
    refine ⟨?_, R.Own.below (by assumption)⟩
    simp [lineP, *]⟩
attribute [local irreducible] ptB in
instance con_turned (p : Pt) (k : Int) : R.ConB Try.prog 9 #[.agg (cPt p).toArray, .int .i64 k] Unit (fun _ _ => inP p ∧ 0 ≤ k ∧ k ≤ 255) (fun _ => .agg (cPt (turnP (k % 4) p)).toArray) := ⟨fun _ w ⟨hp, h0, h1⟩ => by
  have hM := R.Own.start [] w
  have ht := ptB_t hp
  obtain ⟨⟨p1, p2⟩, p3, p4⟩ := hp
  unfold turnP
  refine R.calls_of_WC (fn := Try.f9) Try.func9 rfl Try.ntmps9 (Nat.le_of_ble_eq_true rfl) ?_
  (refine R.stepU ?_; (repeat' (first | (with_reducible refine And.intro ?_ ?_) | (with_reducible intro _))); all_goals refine R.Lft.mk ?_)
  all_goals first
    | exact nbw_t ht (by assumption)
    | exact ⟨by rw [if_pos (show k % 4 = 1 by omega)]; rfl, R.Own.below (by assumption)⟩
    | exact ⟨by rw [if_neg (show ¬ k % 4 = 1 by omega), if_pos (show k % 4 = 2 by omega)]; rfl, R.Own.below (by assumption)⟩
    | exact ⟨by rw [if_neg (show ¬ k % 4 = 1 by omega), if_neg (show ¬ k % 4 = 2 by omega), if_pos (show k % 4 = 3 by omega)]; rfl, R.Own.below (by assumption)⟩
    | exact ⟨by rw [if_neg (show ¬ k % 4 = 1 by omega), if_neg (show ¬ k % 4 = 2 by omega), if_neg (show ¬ k % 4 = 3 by omega)], R.Own.below (by assumption)⟩⟩
instance con_at30 (p : Pt) : R.ConB Try.prog 8 #[.agg (cPt p).toArray] Unit (fun _ _ => In64 p.x ∧ In64 p.y) (fun _ => .agg (cSp (atP p)).toArray) := ⟨fun _ w h => at10 p.x p.y h.1 h.2 w⟩
theorem q_ne {x y : Rt} {p : Prop} (h : x = y) (g : ¬ x = y) : p := absurd h g
attribute [local irreducible] W512 squareE squareR partR fpartE lineB turnP atP nulR in
set_option maxHeartbeats 8000000 in
theorem farTurned_t (s : Sgm) (p : Pt) (q : Int) (w : World) (ha : inP s.a) (hb : inP s.b) (hne : s.a ≠ s.b) (hp : inP p) (hq : 0 ≤ q ∧ q ≤ 255) : Calls Try.prog 3 #[.agg (cSgm s).toArray, .agg (cPt p).toArray, .int .u8 q] w fun e w' => e = .returned (.bool true) ∧ Below w.heap.size w w' := by
  have hM := R.Own.start [] w
  obtain ⟨q0, q1⟩ := hq
  have hl : lineP s = true := by
    unfold lineP
    rw [ptB_t ha, ptB_t hb, decide_eq_false hne]
    rfl
  have hpb := ptB_t hp
  have ha2 := turn_in (m := q % 4) ha
  have hb2 := turn_in (m := q % 4) hb
  have hp2 := turn_in (m := q % 4) hp
  have hne2 := turn_ne (m := q % 4) hne
  obtain ⟨v1, v2⟩ := inP64 ha
  obtain ⟨v3, v4⟩ := inP64 hb
  obtain ⟨v5, v6⟩ := inP64 hp
  obtain ⟨v7, v8⟩ := inP64 ha2
  obtain ⟨v9, v10⟩ := inP64 hb2
  obtain ⟨v11, v12⟩ := inP64 hp2
  have e1 : squareE (atP s.a) (atP s.b) p = 0 := squareE_at ha hb hp hne
  have e2 : squareE (atP (turnP (q % 4) s.a)) (atP (turnP (q % 4) s.b)) (turnP (q % 4) p) = 0 := squareE_at ha2 hb2 hp2 hne2
  have l1 := line_at ha hb hp hne
  have l2 := line_at ha2 hb2 hp2 hne2
  have e4 := fpartE_at ha hb (p := p) hne
  have e5 := fpartE_at ha2 hb2 (p := turnP (q % 4) p) hne2
  obtain ⟨X1, hX⟩ : ∃ X1, squareR (atP s.a) (atP s.b) p = X1 := ⟨_, rfl⟩
  have hX2 : squareR (atP (turnP (q % 4) s.a)) (atP (turnP (q % 4) s.b)) (turnP (q % 4) p) = X1 := by rw [square_turn ha hb hp]; exact hX
  obtain ⟨Y1, hY⟩ : ∃ Y1, partR (atP s.a) (atP s.b) p = Y1 := ⟨_, rfl⟩
  have hY2 : partR (atP (turnP (q % 4) s.a)) (atP (turnP (q % 4) s.b)) (turnP (q % 4) p) = Y1 := by rw [part_turn ha hb hp]; exact hY
  have i1 : R.ConB Try.prog 5 #[.agg (cSgm s).toArray] Unit (fun _ _ => True) (fun _ => .bool true) := ⟨fun s' w' _ => by
    have q := (con_line7 s).h s' w' trivial
    rw [hl] at q
    exact q⟩
  have i2 : R.ConB Try.prog 6 #[.agg (cPt p).toArray] Unit (fun _ _ => True) (fun _ => .bool true) := ⟨fun s' w' _ => by
    have q := (con_may7 p).h s' w' trivial
    rw [hpb] at q
    exact q⟩
  have iA0 : R.ConB Try.prog 8 #[.agg (cPt s.a).toArray] Unit (fun _ _ => True) (fun _ => .agg (cSp (atP s.a)).toArray) := ⟨fun s' w' _ => (con_at30 s.a).h s' w' ⟨v1, v2⟩⟩
  have iA1 : R.ConB Try.prog 8 #[.agg (cPt s.b).toArray] Unit (fun _ _ => True) (fun _ => .agg (cSp (atP s.b)).toArray) := ⟨fun s' w' _ => (con_at30 s.b).h s' w' ⟨v3, v4⟩⟩
  have iA2 : R.ConB Try.prog 8 #[.agg (cPt (turnP (q % 4) s.a)).toArray] Unit (fun _ _ => True) (fun _ => .agg (cSp (atP (turnP (q % 4) s.a))).toArray) := ⟨fun s' w' _ => (con_at30 (turnP (q % 4) s.a)).h s' w' ⟨v7, v8⟩⟩
  have iA3 : R.ConB Try.prog 8 #[.agg (cPt (turnP (q % 4) s.b)).toArray] Unit (fun _ _ => True) (fun _ => .agg (cSp (atP (turnP (q % 4) s.b))).toArray) := ⟨fun s' w' _ => (con_at30 (turnP (q % 4) s.b)).h s' w' ⟨v9, v10⟩⟩
  have iT0 : R.ConB Try.prog 9 #[.agg (cPt s.a).toArray, .int .i64 q] Unit (fun _ _ => True) (fun _ => .agg (cPt (turnP (q % 4) s.a)).toArray) := ⟨fun s' w' _ => (con_turned s.a q).h s' w' ⟨ha, q0, q1⟩⟩
  have iT1 : R.ConB Try.prog 9 #[.agg (cPt s.b).toArray, .int .i64 q] Unit (fun _ _ => True) (fun _ => .agg (cPt (turnP (q % 4) s.b)).toArray) := ⟨fun s' w' _ => (con_turned s.b q).h s' w' ⟨hb, q0, q1⟩⟩
  have iT2 : R.ConB Try.prog 9 #[.agg (cPt p).toArray, .int .i64 q] Unit (fun _ _ => True) (fun _ => .agg (cPt (turnP (q % 4) p)).toArray) := ⟨fun s' w' _ => (con_turned p q).h s' w' ⟨hp, q0, q1⟩⟩
  have iS0 : R.ConB Try.prog 10 #[.agg (cSp (atP s.a)).toArray, .agg (cSp (atP s.b)).toArray, .agg (cPt p).toArray] Unit (fun _ _ => True) (fun _ => .tuple #[.agg (cR X1).toArray, .int .i64 0]) := ⟨fun s' w' _ => by
    have q := (con_fSquare (atP s.a) (atP s.b) p).h s' w' ⟨v5, v6⟩
    rw [e1, if_pos rfl, hX] at q
    exact q⟩
  have iS1 : R.ConB Try.prog 10 #[.agg (cSp (atP (turnP (q % 4) s.a))).toArray, .agg (cSp (atP (turnP (q % 4) s.b))).toArray, .agg (cPt (turnP (q % 4) p)).toArray] Unit (fun _ _ => True) (fun _ => .tuple #[.agg (cR X1).toArray, .int .i64 0]) := ⟨fun s' w' _ => by
    have q := (con_fSquare (atP (turnP (q % 4) s.a)) (atP (turnP (q % 4) s.b)) (turnP (q % 4) p)).h s' w' ⟨v11, v12⟩
    rw [e2, if_pos rfl, hX2] at q
    exact q⟩
  have iP0 : R.ConB Try.prog 11 #[.agg (cSp (atP s.a)).toArray, .agg (cSp (atP s.b)).toArray, .agg (cPt p).toArray] Unit (fun _ _ => True) (fun _ => .tuple #[.agg (cR Y1).toArray, .int .i64 0]) := ⟨fun s' w' _ => by
    have q := (con_fPart (atP s.a) (atP s.b) p).h s' w' ⟨v5, v6⟩
    rw [l1, if_pos rfl, if_pos rfl, hY, e4] at q
    exact q⟩
  have iP1 : R.ConB Try.prog 11 #[.agg (cSp (atP (turnP (q % 4) s.a))).toArray, .agg (cSp (atP (turnP (q % 4) s.b))).toArray, .agg (cPt (turnP (q % 4) p)).toArray] Unit (fun _ _ => True) (fun _ => .tuple #[.agg (cR Y1).toArray, .int .i64 0]) := ⟨fun s' w' _ => by
    have q := (con_fPart (atP (turnP (q % 4) s.a)) (atP (turnP (q % 4) s.b)) (turnP (q % 4) p)).h s' w' ⟨v11, v12⟩
    rw [l2, if_pos rfl, if_pos rfl, hY2, e5] at q
    exact q⟩
  clear hX hX2 hY hY2 l1 l2 e1 e2 e4 e5 v1 v2 v3 v4 v5 v6 v7 v8 v9 v10 v11 v12 hne hne2 ha2 hb2 hp2 hl hpb
  clear ha hb hp
  refine R.calls_of_WC (fn := Try.f3) Try.func3 rfl Try.ntmps3 (Nat.le_of_ble_eq_true rfl) ?_
  (refine R.stepU ?_; (repeat' (first | (with_reducible refine And.intro ?_ ?_) | (with_reducible intro _))); all_goals refine R.Lft.mk ?_)
  refine R.WC_cut2 (ι := Nat × Nat × Nat × Nat) (fun i => [(3, .pointer (some ⟨i.1, 0, none⟩)), (4, .pointer (some ⟨i.2.1, 0, none⟩)), (6, .bool false), (7, .int .i64 q), (8, .pointer (some ⟨i.2.2.1, 0, none⟩)), (9, .pointer (some ⟨i.2.2.2, 0, none⟩))])
    (fun i w2 => R.Own [] w w2 [.blk i.2.2.1 35 (cSp (atP s.a)), .blk i.2.2.2 35 (cSp (atP s.b)), .blk i.2.1 23 (cPt p), .blk i.1 25 (cSgm s)]) ?h1 ?h2
  case h1 =>
    refine R.WC_planF (.q 0 (.q 1 (.q 3 (.q 4 (.g 2 6 7 (.g 5 6 7 (.f 6 7 (.e 7 (.e 8 (.e 9 .nil))) (.e 6 (.e 8 (.e 9 .nil)))) (.f 5 7 (.e 7 (.e 8 (.e 9 .nil))) (.e 5 (.e 8 (.e 9 .nil)))) (.f 5 6 (.e 6 (.e 8 (.e 9 .nil))) (.e 5 (.e 8 (.e 9 .nil))))) (.f 2 7 (.f 5 7 (.e 7 (.e 8 (.e 9 .nil))) (.e 5 (.e 8 (.e 9 .nil)))) (.e 2 (.e 5 (.e 8 (.e 9 .nil))))) (.f 2 6 (.f 5 6 (.e 6 (.e 8 (.e 9 .nil))) (.e 5 (.e 8 (.e 9 .nil)))) (.e 2 (.e 5 (.e 8 (.e 9 .nil)))))))))) R.mixed (by decide +kernel) R.ohm ?_
    (refine R.stepU ?_; (repeat' (first | (with_reducible refine And.intro ?_ ?_) | (with_reducible intro _))); all_goals refine R.Lft.mk ?_)
    all_goals
      rename_i hM
      exact ⟨rfl, (_, _, _, _), ⟨rfl, rfl, rfl, rfl, rfl, rfl, trivial⟩, (R.pk (r := .blk _ _ (cSp (atP s.a))) hM).sub R.subl⟩
  case h2 =>
    rintro ⟨g3, g4, g8, g9⟩ f w2 hM
    dsimp only at hM ⊢
    (refine R.stepU ?_; (repeat' (first | (with_reducible refine And.intro ?_ ?_) | (with_reducible intro _))); all_goals refine R.Lft.mk ?_)
    refine R.WC_cut2 (ι := Nat × Nat) (fun i => [(4, .pointer (some ⟨g4, 0, none⟩)), (6, .bool false), (7, .int .i64 q), (8, .pointer (some ⟨g8, 0, none⟩)), (9, .pointer (some ⟨g9, 0, none⟩)), (10, .pointer (some ⟨i.1, 0, none⟩)), (11, .pointer (some ⟨i.2, 0, none⟩))])
      (fun i w2 => R.Own [] w w2 [.blk i.1 35 (cSp (atP (turnP (q % 4) s.a))), .blk i.2 35 (cSp (atP (turnP (q % 4) s.b))), .blk g8 35 (cSp (atP s.a)), .blk g9 35 (cSp (atP s.b)), .blk g4 23 (cPt p)]) ?h1 ?h2
    case h1 =>
      refine R.WC_planF (.q 0 (.q 1 (.q 2 (.q 5 (.q 6 (.q 7 (.g 3 10 11 (.g 4 10 11 (.g 8 10 11 (.g 9 10 11 (.f 10 11 (.e 11 (.e 12 (.e 13 .nil))) (.e 10 (.e 12 (.e 13 .nil)))) (.f 9 11 (.e 11 (.e 12 (.e 13 .nil))) (.e 9 (.e 12 (.e 13 .nil)))) (.f 9 10 (.e 10 (.e 12 (.e 13 .nil))) (.e 9 (.e 12 (.e 13 .nil))))) (.f 8 11 (.f 9 11 (.e 11 (.e 12 (.e 13 .nil))) (.e 9 (.e 12 (.e 13 .nil)))) (.e 8 (.e 9 (.e 12 (.e 13 .nil))))) (.f 8 10 (.f 9 10 (.e 10 (.e 12 (.e 13 .nil))) (.e 9 (.e 12 (.e 13 .nil)))) (.e 8 (.e 9 (.e 12 (.e 13 .nil)))))) (.f 4 11 (.f 8 11 (.f 9 11 (.e 11 (.e 12 (.e 13 .nil))) (.e 9 (.e 12 (.e 13 .nil)))) (.e 8 (.e 9 (.e 12 (.e 13 .nil))))) (.e 4 (.e 8 (.e 9 (.e 12 (.e 13 .nil)))))) (.f 4 10 (.f 8 10 (.f 9 10 (.e 10 (.e 12 (.e 13 .nil))) (.e 9 (.e 12 (.e 13 .nil)))) (.e 8 (.e 9 (.e 12 (.e 13 .nil))))) (.e 4 (.e 8 (.e 9 (.e 12 (.e 13 .nil))))))) (.f 3 11 (.f 4 11 (.f 8 11 (.f 9 11 (.e 11 (.e 12 (.e 13 .nil))) (.e 9 (.e 12 (.e 13 .nil)))) (.e 8 (.e 9 (.e 12 (.e 13 .nil))))) (.e 4 (.e 8 (.e 9 (.e 12 (.e 13 .nil)))))) (.e 3 (.e 4 (.e 8 (.e 9 (.e 12 (.e 13 .nil))))))) (.f 3 10 (.f 4 10 (.f 8 10 (.f 9 10 (.e 10 (.e 12 (.e 13 .nil))) (.e 9 (.e 12 (.e 13 .nil)))) (.e 8 (.e 9 (.e 12 (.e 13 .nil))))) (.e 4 (.e 8 (.e 9 (.e 12 (.e 13 .nil)))))) (.e 3 (.e 4 (.e 8 (.e 9 (.e 12 (.e 13 .nil)))))))))))))) R.mixed (by decide +kernel) R.ohm ?_
      (refine R.stepU ?_; (repeat' (first | (with_reducible refine And.intro ?_ ?_) | (with_reducible intro _))); all_goals refine R.Lft.mk ?_)
      all_goals
        rename_i hM
        exact ⟨rfl, (_, _), ⟨rfl, rfl, rfl, rfl, rfl, rfl, rfl, trivial⟩, (R.pk (r := .blk _ _ (cSp (atP (turnP (q % 4) s.a)))) hM).sub R.subl⟩
    case h2 =>
      rintro ⟨g10, g11⟩ f w2 hM
      dsimp only at hM ⊢
      (refine R.stepU ?_; (repeat' (first | (with_reducible refine And.intro ?_ ?_) | (with_reducible intro _))); all_goals refine R.Lft.mk ?_)
      refine R.WC_cut2 (ι := Nat × Nat) (fun i => [(4, .pointer (some ⟨g4, 0, none⟩)), (6, .bool false), (7, .int .i64 q), (8, .pointer (some ⟨g8, 0, none⟩)), (9, .pointer (some ⟨g9, 0, none⟩)), (10, .pointer (some ⟨g10, 0, none⟩)), (11, .pointer (some ⟨g11, 0, none⟩)), (12, .pointer (some ⟨i.1, 0, none⟩)), (13, .int .i64 0), (14, .pointer (some ⟨i.2, 0, none⟩)), (15, .int .i64 0)])
        (fun i w2 => R.Own [] w w2 [.blk i.2 39 (cR X1), .blk i.1 39 (cR X1), .blk g10 35 (cSp (atP (turnP (q % 4) s.a))), .blk g11 35 (cSp (atP (turnP (q % 4) s.b))), .blk g8 35 (cSp (atP s.a)), .blk g9 35 (cSp (atP s.b)), .blk g4 23 (cPt p)]) ?h1 ?h2
      case h1 =>
        refine R.WC_planF (.q 0 (.q 1 (.q 2 (.q 3 (.f 4 9 (.f 5 9 (.q 6 (.q 7 (.q 8 (.e 9 (.e 10 (.q 11 .nil)))))) (.e 5 (.q 6 (.q 7 (.q 8 (.e 10 (.q 11 .nil))))))) (.e 4 (.e 5 (.q 6 (.q 7 (.q 8 (.e 10 (.q 11 .nil)))))))))))) R.mixed (by decide +kernel) R.ohm ?_
        (refine R.stepU ?_; (repeat' (first | (with_reducible refine And.intro ?_ ?_) | (with_reducible intro _))); all_goals refine R.Lft.mk ?_)
        all_goals
          rename_i hM
          exact ⟨rfl, (_, _), ⟨rfl, rfl, rfl, rfl, rfl, rfl, rfl, rfl, rfl, rfl, rfl, trivial⟩, hM.sub R.subl⟩
      case h2 =>
        rintro ⟨g12, g14⟩ f w2 hM
        dsimp only at hM ⊢
        (refine R.stepU ?_; (repeat' (first | (with_reducible refine And.intro ?_ ?_) | (with_reducible intro _))); all_goals refine R.Lft.mk ?_)
        refine R.WC_cut2 (ι := Nat × Nat × Nat × Nat) (fun i => [(6, .bool false), (12, .pointer (some ⟨i.1, 0, none⟩)), (13, .int .i64 0), (14, .pointer (some ⟨i.2.1, 0, none⟩)), (15, .int .i64 0), (16, .pointer (some ⟨i.2.2.1, 0, none⟩)), (17, .int .i64 0), (18, .pointer (some ⟨i.2.2.2, 0, none⟩)), (19, .int .i64 0)])
          (fun i w2 => R.Own [] w w2 [.blk i.2.2.2 39 (cR Y1), .blk i.2.2.1 39 (cR Y1), .blk i.2.1 39 (cR X1), .blk i.1 39 (cR X1)]) ?h1 ?h2
        case h1 =>
          refine R.WC_planF (.q 0 (.q 1 (.q 2 (.q 3 (.f 4 9 (.f 5 9 (.q 6 (.q 7 (.q 8 (.e 9 (.e 10 (.q 11 .nil)))))) (.e 5 (.q 6 (.q 7 (.q 8 (.e 10 (.q 11 .nil))))))) (.e 4 (.e 5 (.q 6 (.q 7 (.q 8 (.e 10 (.q 11 .nil)))))))))))) R.mixed (by decide +kernel) R.ohm ?_
          (refine R.stepU ?_; (repeat' (first | (with_reducible refine And.intro ?_ ?_) | (with_reducible intro _))); all_goals refine R.Lft.mk ?_)
          all_goals
            rename_i hM
            exact ⟨rfl, (_, _, _, _), ⟨rfl, rfl, rfl, rfl, rfl, rfl, rfl, rfl, rfl, trivial⟩, hM.sub R.subl⟩
        case h2 =>
          rintro ⟨g12, g14, g16, g18⟩ f w2 hM
          dsimp only at hM ⊢
          (refine R.stepU ?_; (repeat' (first | (with_reducible refine And.intro ?_ ?_) | (with_reducible intro _))); all_goals refine R.Lft.mk ?_)
          all_goals first
            | exact ⟨rfl, R.Own.below (by assumption)⟩
            | exact absurd rfl (by assumption)
end Go.Proofs.Ytebgjcginmgoaaa
