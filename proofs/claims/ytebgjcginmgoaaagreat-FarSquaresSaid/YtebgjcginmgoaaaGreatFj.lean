/- snicketref30.Part and Square: the walks. snicketref30.Square: the walk. The law FarSquares: its walk. The law FarSquares: its walk. -/
import Derived.Test.YtebgjcginmgoaaaGreatFg
import Derived.Test.YtebgjcginmgoaaaGreatFp
import Derived.Test.YtebgjcginmgoaaaGreatFb
import Derived.Test.YtebgjcginmgoaaaGreatFc
import Derived.Test.YtebgjcginmgoaaaGreatOpn
import Derived.Test.YtebgjcginmgoaaaGreatOpen
namespace Go.Proofs.YtebgjcginmgoaaaGreat
open Go.RowKit
open R (In64 InU64 lo64 nth)

def IsF (k : Nat) (z : Fr) (q : Int × Int) : Prop := RawF k z ∧ z.q = q
theorem R.keys_of {sl : List (Nat × Value)} {ks : List Nat} (h : sl.map Prod.fst = ks) : ∀ p ∈ R.slz [] ++ sl, p.1 ∈ ks := fun p hp => by
  rw [← h]
  exact List.mem_map_of_mem hp
attribute [local irreducible] W512 trimN digsL dig4I in
set_option maxHeartbeats 16000000 in
theorem f_part (a b : Sp) (p : Pt) (hx : -4611686018427387904 ≤ p.x ∧ p.x ≤ 4611686018427387904) (hy : -4611686018427387904 ≤ p.y ∧ p.y ≤ 4611686018427387904) (w : World) : Calls Tryz.prog 12 #[.agg (cSp a).toArray, .agg (cSp b).toArray, .agg (cPt p).toArray] w fun e w' => ∃ z : Fr, e = .returned (.agg (cFr z.t).toArray) ∧ R.Own [] w w' [rowN z.n, rowN z.d] ∧ RawF 522 z ∧ z.q = (lineL a b p).partQ := by
  have hM := R.Own.start [] w
  refine R.calls_of_WC (fn := Tryz.f12) Tryz.func12 rfl Tryz.ntmps12 (Nat.le_of_ble_eq_true rfl) ?_
  (refine R.stepU ?_; (repeat' (first | (with_reducible refine And.intro ?_ ?_) | (with_reducible intro _))); all_goals refine R.Lft.mk ?_)
  rename_i ga _ _ gb _ _ gp _ _ gr _ hM
  refine R.WC_cut2 (ι := Nat × Nat × Fr × Fr) (fun i => [(3, .pointer (some ⟨ga, 0, none⟩)), (4, .pointer (some ⟨gb, 0, none⟩)), (5, .pointer (some ⟨gp, 0, none⟩)), (6, .pointer (some ⟨gr, 0, none⟩)), (7, .pointer (some ⟨i.1, 0, none⟩)), (8, .pointer (some ⟨i.2.1, 0, none⟩))])
    (fun i w2 => (IsF 65 i.2.2.1 (qSub (p.x, 1) (a.x.z, (a.w.n : Int))) ∧ IsF 65 i.2.2.2 (qSub (p.y, 1) (a.y.z, (a.w.n : Int)))) ∧ R.Own [] w w2 [.blk i.2.1 45 (cFr i.2.2.2.t), .blk i.1 45 (cFr i.2.2.1.t), rowN i.2.2.2.n, rowN i.2.2.2.d, rowN i.2.2.1.n, rowN i.2.2.1.d, .blk gr 45 [.bool false, .slice none 0 0, .bool false, .slice none 0 0], .blk gp 30 (cPt p), .blk gb 28 (cSp b), .blk ga 28 (cSp a)]) ?h1 ?h2
  case h1 =>
    refine R.WC_planF ((.q 0 (.q 1 (.q 3 (.q 6 (.q 7 (.q 9 (R.tr2 12 13 (.e 14 (.e 15 .nil)) [2, 4, 5, 8, 10, 11])))))))) R.mixed (by decide +kernel) R.ohm ?_
    (refine R.stepU ?_; (repeat' (first | (with_reducible refine And.intro ?_ ?_) | (with_reducible intro _))); all_goals refine R.Lft.mk ?_)
    refine R.chain2 (F := []) (base := [.blk gr 45 [.bool false, .slice none 0 0, .bool false, .slice none 0 0], .blk gp 30 (cPt p), .blk gb 28 (cSp b), .blk ga 28 (cSp a)]) (Pz := (fun (k : Nat) (zs : R.Zs) => match k with
          | 0 => zs = []
          | 1 => ∃ z0 : Fr, zs = [(14, .agg (cFr z0.t).toArray, [rowN z0.n, rowN z0.d])] ∧ IsF 32 z0 (p.x, 1)
          | 2 => ∃ z0 z1 : Fr, zs = [(16, .agg (cFr z1.t).toArray, [rowN z1.n, rowN z1.d]), (14, .agg (cFr z0.t).toArray, [rowN z0.n, rowN z0.d])] ∧ IsF 32 z0 (p.x, 1) ∧ IsF 32 z1 (a.x.z, (a.w.n : Int))
          | 3 => ∃ z0 z1 z2 : Fr, zs = [(17, .agg (cFr z2.t).toArray, [rowN z2.n, rowN z2.d]), (16, .agg (cFr z1.t).toArray, [rowN z1.n, rowN z1.d]), (14, .agg (cFr z0.t).toArray, [rowN z0.n, rowN z0.d])] ∧ IsF 32 z0 (p.x, 1) ∧ IsF 32 z1 (a.x.z, (a.w.n : Int)) ∧ IsF 65 z2 (qSub (p.x, 1) (a.x.z, (a.w.n : Int)))
          | 4 => ∃ z0 z1 z2 z3 : Fr, zs = [(20, .agg (cFr z3.t).toArray, [rowN z3.n, rowN z3.d]), (17, .agg (cFr z2.t).toArray, [rowN z2.n, rowN z2.d]), (16, .agg (cFr z1.t).toArray, [rowN z1.n, rowN z1.d]), (14, .agg (cFr z0.t).toArray, [rowN z0.n, rowN z0.d])] ∧ IsF 32 z0 (p.x, 1) ∧ IsF 32 z1 (a.x.z, (a.w.n : Int)) ∧ IsF 65 z2 (qSub (p.x, 1) (a.x.z, (a.w.n : Int))) ∧ IsF 32 z3 (p.y, 1)
          | 5 => ∃ z0 z1 z2 z3 z4 : Fr, zs = [(22, .agg (cFr z4.t).toArray, [rowN z4.n, rowN z4.d]), (20, .agg (cFr z3.t).toArray, [rowN z3.n, rowN z3.d]), (17, .agg (cFr z2.t).toArray, [rowN z2.n, rowN z2.d]), (16, .agg (cFr z1.t).toArray, [rowN z1.n, rowN z1.d]), (14, .agg (cFr z0.t).toArray, [rowN z0.n, rowN z0.d])] ∧ IsF 32 z0 (p.x, 1) ∧ IsF 32 z1 (a.x.z, (a.w.n : Int)) ∧ IsF 65 z2 (qSub (p.x, 1) (a.x.z, (a.w.n : Int))) ∧ IsF 32 z3 (p.y, 1) ∧ IsF 32 z4 (a.y.z, (a.w.n : Int))
          | 6 => ∃ z0 z1 z2 z3 z4 z5 : Fr, zs = [(23, .agg (cFr z5.t).toArray, [rowN z5.n, rowN z5.d]), (22, .agg (cFr z4.t).toArray, [rowN z4.n, rowN z4.d]), (20, .agg (cFr z3.t).toArray, [rowN z3.n, rowN z3.d]), (17, .agg (cFr z2.t).toArray, [rowN z2.n, rowN z2.d]), (16, .agg (cFr z1.t).toArray, [rowN z1.n, rowN z1.d]), (14, .agg (cFr z0.t).toArray, [rowN z0.n, rowN z0.d])] ∧ IsF 32 z0 (p.x, 1) ∧ IsF 32 z1 (a.x.z, (a.w.n : Int)) ∧ IsF 65 z2 (qSub (p.x, 1) (a.x.z, (a.w.n : Int))) ∧ IsF 32 z3 (p.y, 1) ∧ IsF 32 z4 (a.y.z, (a.w.n : Int)) ∧ IsF 65 z5 (qSub (p.y, 1) (a.y.z, (a.w.n : Int)))
          | _ => False)) (sl0 := [(3, .pointer (some ⟨ga, 0, none⟩)), (4, .pointer (some ⟨gb, 0, none⟩)), (5, .pointer (some ⟨gp, 0, none⟩)), (6, .pointer (some ⟨gr, 0, none⟩)), (13, .int .i64 p.x), (15, .agg (cSp a).toArray), (19, .int .i64 p.y), (21, .agg (cSp a).toArray)]) (da := 7) (db := 8) rfl rfl rfl rfl (by decide) [(2, 14), (4, 16), (5, 17), (8, 20), (10, 22), (11, 23)] 0 [3, 4, 5, 6, 13, 15, 19, 21] [] _ _ ?hC ?hS (by decide) (by decide) ?hr
    case hS => exact ⟨rfl, R.keys_of rfl, (fun p hp => by cases hp), ⟨rfl, rfl, rfl, rfl, rfl, rfl, rfl, rfl, trivial⟩, R.ohm⟩
    case hC =>
      refine ⟨⟨_, _, _, _, rfl, rfl, (by decide), ?_⟩, ⟨_, _, _, _, rfl, rfl, (by decide), ?_⟩, ⟨_, _, _, _, rfl, rfl, (by decide), ?_⟩, ⟨_, _, _, _, rfl, rfl, (by decide), ?_⟩, ⟨_, _, _, _, rfl, rfl, (by decide), ?_⟩, ⟨_, _, _, _, rfl, rfl, (by decide), ?_⟩, trivial⟩
      · rintro zs Y X f w0 hP hO
        obtain rfl := hP
        refine R.WO_call1 rfl rfl R.vv ?_
        refine (f_whole p.x hx _).mono ?_
        rintro _ w1 ⟨z0, rfl, hO1, r, e⟩
        exact ⟨_, rfl, _, ⟨z0, rfl, r, e⟩, R.Own.give2 hO hO1⟩
      · rintro zs Y X f w0 hP hO
        obtain ⟨z0, rfl, h0⟩ := hP
        refine R.WO_call1 rfl rfl R.vv ?_
        refine (f_first a _).mono ?_
        rintro _ w1 ⟨z1, rfl, hO1, r, e⟩
        exact ⟨_, rfl, _, ⟨z0, z1, rfl, h0, r, e⟩, R.Own.give2 hO hO1⟩
      · rintro zs Y X f w0 hP hO
        obtain ⟨z0, z1, rfl, h0, h1⟩ := hP
        refine R.WO_call2 rfl rfl R.vv R.vv ?_
        refine (f_minus z0.t z1.t 32 32 _ (GFr.of hO (.tail _ (.tail _ (.head _))) (.tail _ (.tail _ (.tail _ (.head _)))) h0.1) (GFr.of hO (.head _) (.tail _ (.head _)) h1.1) (by decide)).mono ?_
        rintro _ w1 ⟨z2, rfl, hO1, r, e⟩
        exact ⟨_, rfl, _, ⟨z0, z1, z2, rfl, h0, h1, r, by rw [e]; simp only [Fr.t_q, h0.2, h1.2]⟩, R.Own.give2 hO hO1⟩
      · rintro zs Y X f w0 hP hO
        obtain ⟨z0, z1, z2, rfl, h0, h1, h2⟩ := hP
        refine R.WO_call1 rfl rfl R.vv ?_
        refine (f_whole p.y hy _).mono ?_
        rintro _ w1 ⟨z3, rfl, hO1, r, e⟩
        exact ⟨_, rfl, _, ⟨z0, z1, z2, z3, rfl, h0, h1, h2, r, e⟩, R.Own.give2 hO hO1⟩
      · rintro zs Y X f w0 hP hO
        obtain ⟨z0, z1, z2, z3, rfl, h0, h1, h2, h3⟩ := hP
        refine R.WO_call1 rfl rfl R.vv ?_
        refine (f_second a _).mono ?_
        rintro _ w1 ⟨z4, rfl, hO1, r, e⟩
        exact ⟨_, rfl, _, ⟨z0, z1, z2, z3, z4, rfl, h0, h1, h2, h3, r, e⟩, R.Own.give2 hO hO1⟩
      · rintro zs Y X f w0 hP hO
        obtain ⟨z0, z1, z2, z3, z4, rfl, h0, h1, h2, h3, h4⟩ := hP
        refine R.WO_call2 rfl rfl R.vv R.vv ?_
        refine (f_minus z3.t z4.t 32 32 _ (GFr.of hO (.tail _ (.tail _ (.head _))) (.tail _ (.tail _ (.tail _ (.head _)))) h3.1) (GFr.of hO (.head _) (.tail _ (.head _)) h4.1) (by decide)).mono ?_
        rintro _ w1 ⟨z5, rfl, hO1, r, e⟩
        exact ⟨_, rfl, _, ⟨z0, z1, z2, z3, z4, z5, rfl, h0, h1, h2, h3, h4, r, by rw [e]; simp only [Fr.t_q, h3.2, h4.2]⟩, R.Own.give2 hO hO1⟩
    case hr =>
      rintro zs gx gy f w0 ⟨z0, z1, z2, z3, z4, z5, rfl, h0, h1, h2, h3, h4, h5⟩ hA hO
      rw [← R.over_agrees hA]
      clear hA
      have hM : R.Own [] w _ [rowN z5.n, rowN z5.d, rowN z4.n, rowN z4.d, rowN z3.n, rowN z3.d, rowN z2.n, rowN z2.d, rowN z1.n, rowN z1.d, rowN z0.n, rowN z0.d, .blk gr 45 [.bool false, .slice none 0 0, .bool false, .slice none 0 0], .blk gp 30 (cPt p), .blk gb 28 (cSp b), .blk ga 28 (cSp a), .blk gx 45 [.bool false, .slice none 0 0, .bool false, .slice none 0 0], .blk gy 45 [.bool false, .slice none 0 0, .bool false, .slice none 0 0]] := hO
      clear hO
      have hM := (R.pk (r := .blk gy _ _) (R.pk (r := .blk gx _ _) hM))
      (refine R.stepU ?_; (repeat' (first | (with_reducible refine And.intro ?_ ?_) | (with_reducible intro _))); all_goals refine R.Lft.mk ?_)
      refine ⟨R.Own.sub R.ohm R.subl, ?_⟩
      (refine R.stepU ?_; (repeat' (first | (with_reducible refine And.intro ?_ ?_) | (with_reducible intro _))); all_goals refine R.Lft.mk ?_)
      rename_i hM
      exact ⟨rfl, (gx, gy, z2, z5), ⟨rfl, rfl, rfl, rfl, rfl, rfl, trivial⟩, ⟨h2, h5⟩, R.Own.sub hM R.subl⟩
  case h2 =>
    clear hM
    rintro ⟨g7, g8, ux, uy⟩ f w2 ⟨⟨hux, huy⟩, hM⟩
    dsimp only at hux huy hM ⊢
    (refine R.stepU ?_; (repeat' (first | (with_reducible refine And.intro ?_ ?_) | (with_reducible intro _))); all_goals refine R.Lft.mk ?_)
    refine R.WC_cut2 (ι := Nat × Nat × Fr × Fr) (fun i => [(6, .pointer (some ⟨gr, 0, none⟩)), (7, .pointer (some ⟨g7, 0, none⟩)), (8, .pointer (some ⟨g8, 0, none⟩)), (9, .pointer (some ⟨i.1, 0, none⟩)), (10, .pointer (some ⟨i.2.1, 0, none⟩))])
      (fun i w2 => (IsF 65 i.2.2.1 (qSub (b.x.z, (b.w.n : Int)) (a.x.z, (a.w.n : Int))) ∧ IsF 65 i.2.2.2 (qSub (b.y.z, (b.w.n : Int)) (a.y.z, (a.w.n : Int)))) ∧ R.Own [] w w2 [.blk i.2.1 45 (cFr i.2.2.2.t), .blk i.1 45 (cFr i.2.2.1.t), rowN i.2.2.2.n, rowN i.2.2.2.d, rowN i.2.2.1.n, rowN i.2.2.1.d, .blk g8 45 (cFr uy.t), .blk g7 45 (cFr ux.t), rowN uy.n, rowN uy.d, rowN ux.n, rowN ux.d, .blk gr 45 [.bool false, .slice none 0 0, .bool false, .slice none 0 0]]) ?h1 ?h2
    case h1 =>
      refine R.WC_planF ((.q 0 (.q 2 (.q 5 (.q 7 (R.tr2 10 11 (.e 12 (.e 13 .nil)) [1, 3, 4, 6, 8, 9])))))) R.mixed (by decide +kernel) R.ohm ?_
      (refine R.stepU ?_; (repeat' (first | (with_reducible refine And.intro ?_ ?_) | (with_reducible intro _))); all_goals refine R.Lft.mk ?_)
      refine R.chain2 (F := []) (base := [.blk g8 45 (cFr uy.t), .blk g7 45 (cFr ux.t), rowN uy.n, rowN uy.d, rowN ux.n, rowN ux.d, .blk gr 45 [.bool false, .slice none 0 0, .bool false, .slice none 0 0], .blk gp 30 (cPt p), .blk gb 28 (cSp b), .blk ga 28 (cSp a)]) (Pz := (fun (k : Nat) (zs : R.Zs) => match k with
            | 0 => zs = []
            | 1 => ∃ z0 : Fr, zs = [(25, .agg (cFr z0.t).toArray, [rowN z0.n, rowN z0.d])] ∧ IsF 32 z0 (b.x.z, (b.w.n : Int))
            | 2 => ∃ z0 z1 : Fr, zs = [(27, .agg (cFr z1.t).toArray, [rowN z1.n, rowN z1.d]), (25, .agg (cFr z0.t).toArray, [rowN z0.n, rowN z0.d])] ∧ IsF 32 z0 (b.x.z, (b.w.n : Int)) ∧ IsF 32 z1 (a.x.z, (a.w.n : Int))
            | 3 => ∃ z0 z1 z2 : Fr, zs = [(28, .agg (cFr z2.t).toArray, [rowN z2.n, rowN z2.d]), (27, .agg (cFr z1.t).toArray, [rowN z1.n, rowN z1.d]), (25, .agg (cFr z0.t).toArray, [rowN z0.n, rowN z0.d])] ∧ IsF 32 z0 (b.x.z, (b.w.n : Int)) ∧ IsF 32 z1 (a.x.z, (a.w.n : Int)) ∧ IsF 65 z2 (qSub (b.x.z, (b.w.n : Int)) (a.x.z, (a.w.n : Int)))
            | 4 => ∃ z0 z1 z2 z3 : Fr, zs = [(30, .agg (cFr z3.t).toArray, [rowN z3.n, rowN z3.d]), (28, .agg (cFr z2.t).toArray, [rowN z2.n, rowN z2.d]), (27, .agg (cFr z1.t).toArray, [rowN z1.n, rowN z1.d]), (25, .agg (cFr z0.t).toArray, [rowN z0.n, rowN z0.d])] ∧ IsF 32 z0 (b.x.z, (b.w.n : Int)) ∧ IsF 32 z1 (a.x.z, (a.w.n : Int)) ∧ IsF 65 z2 (qSub (b.x.z, (b.w.n : Int)) (a.x.z, (a.w.n : Int))) ∧ IsF 32 z3 (b.y.z, (b.w.n : Int))
            | 5 => ∃ z0 z1 z2 z3 z4 : Fr, zs = [(32, .agg (cFr z4.t).toArray, [rowN z4.n, rowN z4.d]), (30, .agg (cFr z3.t).toArray, [rowN z3.n, rowN z3.d]), (28, .agg (cFr z2.t).toArray, [rowN z2.n, rowN z2.d]), (27, .agg (cFr z1.t).toArray, [rowN z1.n, rowN z1.d]), (25, .agg (cFr z0.t).toArray, [rowN z0.n, rowN z0.d])] ∧ IsF 32 z0 (b.x.z, (b.w.n : Int)) ∧ IsF 32 z1 (a.x.z, (a.w.n : Int)) ∧ IsF 65 z2 (qSub (b.x.z, (b.w.n : Int)) (a.x.z, (a.w.n : Int))) ∧ IsF 32 z3 (b.y.z, (b.w.n : Int)) ∧ IsF 32 z4 (a.y.z, (a.w.n : Int))
            | 6 => ∃ z0 z1 z2 z3 z4 z5 : Fr, zs = [(33, .agg (cFr z5.t).toArray, [rowN z5.n, rowN z5.d]), (32, .agg (cFr z4.t).toArray, [rowN z4.n, rowN z4.d]), (30, .agg (cFr z3.t).toArray, [rowN z3.n, rowN z3.d]), (28, .agg (cFr z2.t).toArray, [rowN z2.n, rowN z2.d]), (27, .agg (cFr z1.t).toArray, [rowN z1.n, rowN z1.d]), (25, .agg (cFr z0.t).toArray, [rowN z0.n, rowN z0.d])] ∧ IsF 32 z0 (b.x.z, (b.w.n : Int)) ∧ IsF 32 z1 (a.x.z, (a.w.n : Int)) ∧ IsF 65 z2 (qSub (b.x.z, (b.w.n : Int)) (a.x.z, (a.w.n : Int))) ∧ IsF 32 z3 (b.y.z, (b.w.n : Int)) ∧ IsF 32 z4 (a.y.z, (a.w.n : Int)) ∧ IsF 65 z5 (qSub (b.y.z, (b.w.n : Int)) (a.y.z, (a.w.n : Int)))
            | _ => False)) (sl0 := [(4, .pointer (some ⟨gb, 0, none⟩)), (6, .pointer (some ⟨gr, 0, none⟩)), (7, .pointer (some ⟨g7, 0, none⟩)), (8, .pointer (some ⟨g8, 0, none⟩)), (24, .agg (cSp b).toArray), (26, .agg (cSp a).toArray), (29, .agg (cSp b).toArray), (31, .agg (cSp a).toArray)]) (da := 9) (db := 10) rfl rfl rfl rfl (by decide) [(1, 25), (3, 27), (4, 28), (6, 30), (8, 32), (9, 33)] 0 [4, 6, 7, 8, 24, 26, 29, 31] [] _ _ ?hC ?hS (by decide) (by decide) ?hr
      case hS => exact ⟨rfl, R.keys_of rfl, (fun p hp => by cases hp), ⟨rfl, rfl, rfl, rfl, rfl, rfl, rfl, rfl, trivial⟩, R.ohm⟩
      case hC =>
        refine ⟨⟨_, _, _, _, rfl, rfl, (by decide), ?_⟩, ⟨_, _, _, _, rfl, rfl, (by decide), ?_⟩, ⟨_, _, _, _, rfl, rfl, (by decide), ?_⟩, ⟨_, _, _, _, rfl, rfl, (by decide), ?_⟩, ⟨_, _, _, _, rfl, rfl, (by decide), ?_⟩, ⟨_, _, _, _, rfl, rfl, (by decide), ?_⟩, trivial⟩
        · rintro zs Y X f w0 hP hO
          obtain rfl := hP
          refine R.WO_call1 rfl rfl R.vv ?_
          refine (f_first b _).mono ?_
          rintro _ w1 ⟨z0, rfl, hO1, r, e⟩
          exact ⟨_, rfl, _, ⟨z0, rfl, r, e⟩, R.Own.give2 hO hO1⟩
        · rintro zs Y X f w0 hP hO
          obtain ⟨z0, rfl, h0⟩ := hP
          refine R.WO_call1 rfl rfl R.vv ?_
          refine (f_first a _).mono ?_
          rintro _ w1 ⟨z1, rfl, hO1, r, e⟩
          exact ⟨_, rfl, _, ⟨z0, z1, rfl, h0, r, e⟩, R.Own.give2 hO hO1⟩
        · rintro zs Y X f w0 hP hO
          obtain ⟨z0, z1, rfl, h0, h1⟩ := hP
          refine R.WO_call2 rfl rfl R.vv R.vv ?_
          refine (f_minus z0.t z1.t 32 32 _ (GFr.of hO (.tail _ (.tail _ (.head _))) (.tail _ (.tail _ (.tail _ (.head _)))) h0.1) (GFr.of hO (.head _) (.tail _ (.head _)) h1.1) (by decide)).mono ?_
          rintro _ w1 ⟨z2, rfl, hO1, r, e⟩
          exact ⟨_, rfl, _, ⟨z0, z1, z2, rfl, h0, h1, r, by rw [e]; simp only [Fr.t_q, h0.2, h1.2]⟩, R.Own.give2 hO hO1⟩
        · rintro zs Y X f w0 hP hO
          obtain ⟨z0, z1, z2, rfl, h0, h1, h2⟩ := hP
          refine R.WO_call1 rfl rfl R.vv ?_
          refine (f_second b _).mono ?_
          rintro _ w1 ⟨z3, rfl, hO1, r, e⟩
          exact ⟨_, rfl, _, ⟨z0, z1, z2, z3, rfl, h0, h1, h2, r, e⟩, R.Own.give2 hO hO1⟩
        · rintro zs Y X f w0 hP hO
          obtain ⟨z0, z1, z2, z3, rfl, h0, h1, h2, h3⟩ := hP
          refine R.WO_call1 rfl rfl R.vv ?_
          refine (f_second a _).mono ?_
          rintro _ w1 ⟨z4, rfl, hO1, r, e⟩
          exact ⟨_, rfl, _, ⟨z0, z1, z2, z3, z4, rfl, h0, h1, h2, h3, r, e⟩, R.Own.give2 hO hO1⟩
        · rintro zs Y X f w0 hP hO
          obtain ⟨z0, z1, z2, z3, z4, rfl, h0, h1, h2, h3, h4⟩ := hP
          refine R.WO_call2 rfl rfl R.vv R.vv ?_
          refine (f_minus z3.t z4.t 32 32 _ (GFr.of hO (.tail _ (.tail _ (.head _))) (.tail _ (.tail _ (.tail _ (.head _)))) h3.1) (GFr.of hO (.head _) (.tail _ (.head _)) h4.1) (by decide)).mono ?_
          rintro _ w1 ⟨z5, rfl, hO1, r, e⟩
          exact ⟨_, rfl, _, ⟨z0, z1, z2, z3, z4, z5, rfl, h0, h1, h2, h3, h4, r, by rw [e]; simp only [Fr.t_q, h3.2, h4.2]⟩, R.Own.give2 hO hO1⟩
      case hr =>
        rintro zs gx gy f w0 ⟨z0, z1, z2, z3, z4, z5, rfl, h0, h1, h2, h3, h4, h5⟩ hA hO
        rw [← R.over_agrees hA]
        clear hA
        have hM : R.Own [] w _ [rowN z5.n, rowN z5.d, rowN z4.n, rowN z4.d, rowN z3.n, rowN z3.d, rowN z2.n, rowN z2.d, rowN z1.n, rowN z1.d, rowN z0.n, rowN z0.d, .blk g8 45 (cFr uy.t), .blk g7 45 (cFr ux.t), rowN uy.n, rowN uy.d, rowN ux.n, rowN ux.d, .blk gr 45 [.bool false, .slice none 0 0, .bool false, .slice none 0 0], .blk gp 30 (cPt p), .blk gb 28 (cSp b), .blk ga 28 (cSp a), .blk gx 45 [.bool false, .slice none 0 0, .bool false, .slice none 0 0], .blk gy 45 [.bool false, .slice none 0 0, .bool false, .slice none 0 0]] := hO
        clear hO
        have hM := (R.pk (r := .blk gy _ _) (R.pk (r := .blk gx _ _) hM))
        (refine R.stepU ?_; (repeat' (first | (with_reducible refine And.intro ?_ ?_) | (with_reducible intro _))); all_goals refine R.Lft.mk ?_)
        refine ⟨R.Own.sub R.ohm R.subl, ?_⟩
        (refine R.stepU ?_; (repeat' (first | (with_reducible refine And.intro ?_ ?_) | (with_reducible intro _))); all_goals refine R.Lft.mk ?_)
        rename_i hM
        exact ⟨rfl, (gx, gy, z2, z5), ⟨rfl, rfl, rfl, rfl, rfl, trivial⟩, ⟨h2, h5⟩, R.Own.sub hM R.subl⟩
    case h2 =>
      clear hM
      rintro ⟨g9, g10, vx, vy⟩ f w2 ⟨⟨hvx, hvy⟩, hM⟩
      dsimp only at hvx hvy hM ⊢
      (refine R.stepU ?_; (repeat' (first | (with_reducible refine And.intro ?_ ?_) | (with_reducible intro _))); all_goals refine R.Lft.mk ?_)
      refine R.WC_planF ((.q 0 (.q 1 (.q 3 (.q 4 (.q 7 (.q 8 (.q 10 (.q 11 (R.tr1 15 (.e 16 .nil) [2, 5, 6, 9, 12, 13, 14])))))))))) R.mixed (by decide +kernel) R.ohm ?_
      (refine R.stepU ?_; (repeat' (first | (with_reducible refine And.intro ?_ ?_) | (with_reducible intro _))); all_goals refine R.Lft.mk ?_)
      refine R.chain1 (F := []) (base := [.blk g10 45 (cFr vy.t), .blk g9 45 (cFr vx.t), rowN vy.n, rowN vy.d, rowN vx.n, rowN vx.d, .blk g8 45 (cFr uy.t), .blk g7 45 (cFr ux.t), rowN uy.n, rowN uy.d, rowN ux.n, rowN ux.d, .blk gr 45 [.bool false, .slice none 0 0, .bool false, .slice none 0 0]]) (Pz := (fun (k : Nat) (zs : R.Zs) => match k with
            | 0 => zs = []
            | 1 => ∃ z0 : Fr, zs = [(36, .agg (cFr z0.t).toArray, [rowN z0.n, rowN z0.d])] ∧ IsF 130 z0 (qMul (qSub (p.x, 1) (a.x.z, (a.w.n : Int))) (qSub (b.x.z, (b.w.n : Int)) (a.x.z, (a.w.n : Int))))
            | 2 => ∃ z0 z1 : Fr, zs = [(39, .agg (cFr z1.t).toArray, [rowN z1.n, rowN z1.d]), (36, .agg (cFr z0.t).toArray, [rowN z0.n, rowN z0.d])] ∧ IsF 130 z0 (qMul (qSub (p.x, 1) (a.x.z, (a.w.n : Int))) (qSub (b.x.z, (b.w.n : Int)) (a.x.z, (a.w.n : Int)))) ∧ IsF 130 z1 (qMul (qSub (p.y, 1) (a.y.z, (a.w.n : Int))) (qSub (b.y.z, (b.w.n : Int)) (a.y.z, (a.w.n : Int))))
            | 3 => ∃ z0 z1 z2 : Fr, zs = [(40, .agg (cFr z2.t).toArray, [rowN z2.n, rowN z2.d]), (39, .agg (cFr z1.t).toArray, [rowN z1.n, rowN z1.d]), (36, .agg (cFr z0.t).toArray, [rowN z0.n, rowN z0.d])] ∧ IsF 130 z0 (qMul (qSub (p.x, 1) (a.x.z, (a.w.n : Int))) (qSub (b.x.z, (b.w.n : Int)) (a.x.z, (a.w.n : Int)))) ∧ IsF 130 z1 (qMul (qSub (p.y, 1) (a.y.z, (a.w.n : Int))) (qSub (b.y.z, (b.w.n : Int)) (a.y.z, (a.w.n : Int)))) ∧ IsF 261 z2 (qAdd (qMul (qSub (p.x, 1) (a.x.z, (a.w.n : Int))) (qSub (b.x.z, (b.w.n : Int)) (a.x.z, (a.w.n : Int)))) (qMul (qSub (p.y, 1) (a.y.z, (a.w.n : Int))) (qSub (b.y.z, (b.w.n : Int)) (a.y.z, (a.w.n : Int)))))
            | 4 => ∃ z0 z1 z2 z3 : Fr, zs = [(43, .agg (cFr z3.t).toArray, [rowN z3.n, rowN z3.d]), (40, .agg (cFr z2.t).toArray, [rowN z2.n, rowN z2.d]), (39, .agg (cFr z1.t).toArray, [rowN z1.n, rowN z1.d]), (36, .agg (cFr z0.t).toArray, [rowN z0.n, rowN z0.d])] ∧ IsF 130 z0 (qMul (qSub (p.x, 1) (a.x.z, (a.w.n : Int))) (qSub (b.x.z, (b.w.n : Int)) (a.x.z, (a.w.n : Int)))) ∧ IsF 130 z1 (qMul (qSub (p.y, 1) (a.y.z, (a.w.n : Int))) (qSub (b.y.z, (b.w.n : Int)) (a.y.z, (a.w.n : Int)))) ∧ IsF 261 z2 (qAdd (qMul (qSub (p.x, 1) (a.x.z, (a.w.n : Int))) (qSub (b.x.z, (b.w.n : Int)) (a.x.z, (a.w.n : Int)))) (qMul (qSub (p.y, 1) (a.y.z, (a.w.n : Int))) (qSub (b.y.z, (b.w.n : Int)) (a.y.z, (a.w.n : Int))))) ∧ IsF 130 z3 (qMul (qSub (b.x.z, (b.w.n : Int)) (a.x.z, (a.w.n : Int))) (qSub (b.x.z, (b.w.n : Int)) (a.x.z, (a.w.n : Int))))
            | 5 => ∃ z0 z1 z2 z3 z4 : Fr, zs = [(46, .agg (cFr z4.t).toArray, [rowN z4.n, rowN z4.d]), (43, .agg (cFr z3.t).toArray, [rowN z3.n, rowN z3.d]), (40, .agg (cFr z2.t).toArray, [rowN z2.n, rowN z2.d]), (39, .agg (cFr z1.t).toArray, [rowN z1.n, rowN z1.d]), (36, .agg (cFr z0.t).toArray, [rowN z0.n, rowN z0.d])] ∧ IsF 130 z0 (qMul (qSub (p.x, 1) (a.x.z, (a.w.n : Int))) (qSub (b.x.z, (b.w.n : Int)) (a.x.z, (a.w.n : Int)))) ∧ IsF 130 z1 (qMul (qSub (p.y, 1) (a.y.z, (a.w.n : Int))) (qSub (b.y.z, (b.w.n : Int)) (a.y.z, (a.w.n : Int)))) ∧ IsF 261 z2 (qAdd (qMul (qSub (p.x, 1) (a.x.z, (a.w.n : Int))) (qSub (b.x.z, (b.w.n : Int)) (a.x.z, (a.w.n : Int)))) (qMul (qSub (p.y, 1) (a.y.z, (a.w.n : Int))) (qSub (b.y.z, (b.w.n : Int)) (a.y.z, (a.w.n : Int))))) ∧ IsF 130 z3 (qMul (qSub (b.x.z, (b.w.n : Int)) (a.x.z, (a.w.n : Int))) (qSub (b.x.z, (b.w.n : Int)) (a.x.z, (a.w.n : Int)))) ∧ IsF 130 z4 (qMul (qSub (b.y.z, (b.w.n : Int)) (a.y.z, (a.w.n : Int))) (qSub (b.y.z, (b.w.n : Int)) (a.y.z, (a.w.n : Int))))
            | 6 => ∃ z0 z1 z2 z3 z4 z5 : Fr, zs = [(47, .agg (cFr z5.t).toArray, [rowN z5.n, rowN z5.d]), (46, .agg (cFr z4.t).toArray, [rowN z4.n, rowN z4.d]), (43, .agg (cFr z3.t).toArray, [rowN z3.n, rowN z3.d]), (40, .agg (cFr z2.t).toArray, [rowN z2.n, rowN z2.d]), (39, .agg (cFr z1.t).toArray, [rowN z1.n, rowN z1.d]), (36, .agg (cFr z0.t).toArray, [rowN z0.n, rowN z0.d])] ∧ IsF 130 z0 (qMul (qSub (p.x, 1) (a.x.z, (a.w.n : Int))) (qSub (b.x.z, (b.w.n : Int)) (a.x.z, (a.w.n : Int)))) ∧ IsF 130 z1 (qMul (qSub (p.y, 1) (a.y.z, (a.w.n : Int))) (qSub (b.y.z, (b.w.n : Int)) (a.y.z, (a.w.n : Int)))) ∧ IsF 261 z2 (qAdd (qMul (qSub (p.x, 1) (a.x.z, (a.w.n : Int))) (qSub (b.x.z, (b.w.n : Int)) (a.x.z, (a.w.n : Int)))) (qMul (qSub (p.y, 1) (a.y.z, (a.w.n : Int))) (qSub (b.y.z, (b.w.n : Int)) (a.y.z, (a.w.n : Int))))) ∧ IsF 130 z3 (qMul (qSub (b.x.z, (b.w.n : Int)) (a.x.z, (a.w.n : Int))) (qSub (b.x.z, (b.w.n : Int)) (a.x.z, (a.w.n : Int)))) ∧ IsF 130 z4 (qMul (qSub (b.y.z, (b.w.n : Int)) (a.y.z, (a.w.n : Int))) (qSub (b.y.z, (b.w.n : Int)) (a.y.z, (a.w.n : Int)))) ∧ IsF 261 z5 (qAdd (qMul (qSub (b.x.z, (b.w.n : Int)) (a.x.z, (a.w.n : Int))) (qSub (b.x.z, (b.w.n : Int)) (a.x.z, (a.w.n : Int)))) (qMul (qSub (b.y.z, (b.w.n : Int)) (a.y.z, (a.w.n : Int))) (qSub (b.y.z, (b.w.n : Int)) (a.y.z, (a.w.n : Int)))))
            | 7 => ∃ z0 z1 z2 z3 z4 z5 z6 : Fr, zs = [(48, .agg (cFr z6.t).toArray, [rowN z6.n, rowN z6.d]), (47, .agg (cFr z5.t).toArray, [rowN z5.n, rowN z5.d]), (46, .agg (cFr z4.t).toArray, [rowN z4.n, rowN z4.d]), (43, .agg (cFr z3.t).toArray, [rowN z3.n, rowN z3.d]), (40, .agg (cFr z2.t).toArray, [rowN z2.n, rowN z2.d]), (39, .agg (cFr z1.t).toArray, [rowN z1.n, rowN z1.d]), (36, .agg (cFr z0.t).toArray, [rowN z0.n, rowN z0.d])] ∧ IsF 130 z0 (qMul (qSub (p.x, 1) (a.x.z, (a.w.n : Int))) (qSub (b.x.z, (b.w.n : Int)) (a.x.z, (a.w.n : Int)))) ∧ IsF 130 z1 (qMul (qSub (p.y, 1) (a.y.z, (a.w.n : Int))) (qSub (b.y.z, (b.w.n : Int)) (a.y.z, (a.w.n : Int)))) ∧ IsF 261 z2 (qAdd (qMul (qSub (p.x, 1) (a.x.z, (a.w.n : Int))) (qSub (b.x.z, (b.w.n : Int)) (a.x.z, (a.w.n : Int)))) (qMul (qSub (p.y, 1) (a.y.z, (a.w.n : Int))) (qSub (b.y.z, (b.w.n : Int)) (a.y.z, (a.w.n : Int))))) ∧ IsF 130 z3 (qMul (qSub (b.x.z, (b.w.n : Int)) (a.x.z, (a.w.n : Int))) (qSub (b.x.z, (b.w.n : Int)) (a.x.z, (a.w.n : Int)))) ∧ IsF 130 z4 (qMul (qSub (b.y.z, (b.w.n : Int)) (a.y.z, (a.w.n : Int))) (qSub (b.y.z, (b.w.n : Int)) (a.y.z, (a.w.n : Int)))) ∧ IsF 261 z5 (qAdd (qMul (qSub (b.x.z, (b.w.n : Int)) (a.x.z, (a.w.n : Int))) (qSub (b.x.z, (b.w.n : Int)) (a.x.z, (a.w.n : Int)))) (qMul (qSub (b.y.z, (b.w.n : Int)) (a.y.z, (a.w.n : Int))) (qSub (b.y.z, (b.w.n : Int)) (a.y.z, (a.w.n : Int))))) ∧ IsF 522 z6 (qOver (qAdd (qMul (qSub (p.x, 1) (a.x.z, (a.w.n : Int))) (qSub (b.x.z, (b.w.n : Int)) (a.x.z, (a.w.n : Int)))) (qMul (qSub (p.y, 1) (a.y.z, (a.w.n : Int))) (qSub (b.y.z, (b.w.n : Int)) (a.y.z, (a.w.n : Int))))) (qAdd (qMul (qSub (b.x.z, (b.w.n : Int)) (a.x.z, (a.w.n : Int))) (qSub (b.x.z, (b.w.n : Int)) (a.x.z, (a.w.n : Int)))) (qMul (qSub (b.y.z, (b.w.n : Int)) (a.y.z, (a.w.n : Int))) (qSub (b.y.z, (b.w.n : Int)) (a.y.z, (a.w.n : Int))))))
            | _ => False)) (sl0 := [(6, .pointer (some ⟨gr, 0, none⟩)), (7, .pointer (some ⟨g7, 0, none⟩)), (8, .pointer (some ⟨g8, 0, none⟩)), (9, .pointer (some ⟨g9, 0, none⟩)), (10, .pointer (some ⟨g10, 0, none⟩)), (34, .agg (cFr ux.t).toArray), (35, .agg (cFr vx.t).toArray), (37, .agg (cFr uy.t).toArray), (38, .agg (cFr vy.t).toArray), (41, .agg (cFr vx.t).toArray), (42, .agg (cFr vx.t).toArray), (44, .agg (cFr vy.t).toArray), (45, .agg (cFr vy.t).toArray)]) (da := 11) (db := 1000000) (Y := []) (X := []) rfl rfl (.inl rfl) (fun p hp => by cases hp) [(2, 36), (5, 39), (6, 40), (9, 43), (12, 46), (13, 47), (14, 48)] 0 [6, 7, 8, 9, 10, 34, 35, 37, 38, 41, 42, 44, 45] [] _ _ ?hC ?hS (by decide) ?hr
      case hS => exact ⟨rfl, R.keys_of rfl, (fun p hp => by cases hp), ⟨rfl, rfl, rfl, rfl, rfl, rfl, rfl, rfl, rfl, rfl, rfl, rfl, rfl, trivial⟩, R.ohm⟩
      case hC =>
        refine ⟨⟨_, _, _, _, rfl, rfl, (by decide), ?_⟩, ⟨_, _, _, _, rfl, rfl, (by decide), ?_⟩, ⟨_, _, _, _, rfl, rfl, (by decide), ?_⟩, ⟨_, _, _, _, rfl, rfl, (by decide), ?_⟩, ⟨_, _, _, _, rfl, rfl, (by decide), ?_⟩, ⟨_, _, _, _, rfl, rfl, (by decide), ?_⟩, ⟨_, _, _, _, rfl, rfl, (by decide), ?_⟩, trivial⟩
        · rintro zs Y X f w0 hP hO
          obtain rfl := hP
          refine R.WO_call2 rfl rfl R.vv R.vv ?_
          refine (f_times ux.t vx.t 65 65 _ (GFr.of hO (.tail _ (.tail _ (.tail _ (.tail _ (.tail _ (.tail _ (.tail _ (.tail _ (.tail _ (.tail _ (.head _))))))))))) (.tail _ (.tail _ (.tail _ (.tail _ (.tail _ (.tail _ (.tail _ (.tail _ (.tail _ (.tail _ (.tail _ (.head _)))))))))))) hux.1) (GFr.of hO (.tail _ (.tail _ (.tail _ (.tail _ (.head _))))) (.tail _ (.tail _ (.tail _ (.tail _ (.tail _ (.head _)))))) hvx.1) (by decide)).mono ?_
          rintro _ w1 ⟨z0, rfl, hO1, r, e⟩
          exact ⟨_, rfl, _, ⟨z0, rfl, r, by rw [e]; simp only [Fr.t_q, hux.2, hvx.2]⟩, R.Own.give2 hO hO1⟩
        · rintro zs Y X f w0 hP hO
          obtain ⟨z0, rfl, h0⟩ := hP
          refine R.WO_call2 rfl rfl R.vv R.vv ?_
          refine (f_times uy.t vy.t 65 65 _ (GFr.of hO (.tail _ (.tail _ (.tail _ (.tail _ (.tail _ (.tail _ (.tail _ (.tail _ (.tail _ (.tail _ (.head _))))))))))) (.tail _ (.tail _ (.tail _ (.tail _ (.tail _ (.tail _ (.tail _ (.tail _ (.tail _ (.tail _ (.tail _ (.head _)))))))))))) huy.1) (GFr.of hO (.tail _ (.tail _ (.tail _ (.tail _ (.head _))))) (.tail _ (.tail _ (.tail _ (.tail _ (.tail _ (.head _)))))) hvy.1) (by decide)).mono ?_
          rintro _ w1 ⟨z1, rfl, hO1, r, e⟩
          exact ⟨_, rfl, _, ⟨z0, z1, rfl, h0, r, by rw [e]; simp only [Fr.t_q, huy.2, hvy.2]⟩, R.Own.give2 hO hO1⟩
        · rintro zs Y X f w0 hP hO
          obtain ⟨z0, z1, rfl, h0, h1⟩ := hP
          refine R.WO_call2 rfl rfl R.vv R.vv ?_
          refine (f_plus z0.t z1.t 130 130 _ (GFr.of hO (.tail _ (.tail _ (.head _))) (.tail _ (.tail _ (.tail _ (.head _)))) h0.1) (GFr.of hO (.head _) (.tail _ (.head _)) h1.1) (by decide)).mono ?_
          rintro _ w1 ⟨z2, rfl, hO1, r, e⟩
          exact ⟨_, rfl, _, ⟨z0, z1, z2, rfl, h0, h1, r, by rw [e]; simp only [Fr.t_q, h0.2, h1.2]⟩, R.Own.give2 hO hO1⟩
        · rintro zs Y X f w0 hP hO
          obtain ⟨z0, z1, z2, rfl, h0, h1, h2⟩ := hP
          refine R.WO_call2 rfl rfl R.vv R.vv ?_
          refine (f_times vx.t vx.t 65 65 _ (GFr.of hO (.tail _ (.tail _ (.tail _ (.tail _ (.tail _ (.tail _ (.tail _ (.tail _ (.tail _ (.tail _ (.head _))))))))))) (.tail _ (.tail _ (.tail _ (.tail _ (.tail _ (.tail _ (.tail _ (.tail _ (.tail _ (.tail _ (.tail _ (.head _)))))))))))) hvx.1) (GFr.of hO (.tail _ (.tail _ (.tail _ (.tail _ (.tail _ (.tail _ (.tail _ (.tail _ (.tail _ (.tail _ (.head _))))))))))) (.tail _ (.tail _ (.tail _ (.tail _ (.tail _ (.tail _ (.tail _ (.tail _ (.tail _ (.tail _ (.tail _ (.head _)))))))))))) hvx.1) (by decide)).mono ?_
          rintro _ w1 ⟨z3, rfl, hO1, r, e⟩
          exact ⟨_, rfl, _, ⟨z0, z1, z2, z3, rfl, h0, h1, h2, r, by rw [e]; simp only [Fr.t_q, hvx.2]⟩, R.Own.give2 hO hO1⟩
        · rintro zs Y X f w0 hP hO
          obtain ⟨z0, z1, z2, z3, rfl, h0, h1, h2, h3⟩ := hP
          refine R.WO_call2 rfl rfl R.vv R.vv ?_
          refine (f_times vy.t vy.t 65 65 _ (GFr.of hO (.tail _ (.tail _ (.tail _ (.tail _ (.tail _ (.tail _ (.tail _ (.tail _ (.tail _ (.tail _ (.head _))))))))))) (.tail _ (.tail _ (.tail _ (.tail _ (.tail _ (.tail _ (.tail _ (.tail _ (.tail _ (.tail _ (.tail _ (.head _)))))))))))) hvy.1) (GFr.of hO (.tail _ (.tail _ (.tail _ (.tail _ (.tail _ (.tail _ (.tail _ (.tail _ (.tail _ (.tail _ (.head _))))))))))) (.tail _ (.tail _ (.tail _ (.tail _ (.tail _ (.tail _ (.tail _ (.tail _ (.tail _ (.tail _ (.tail _ (.head _)))))))))))) hvy.1) (by decide)).mono ?_
          rintro _ w1 ⟨z4, rfl, hO1, r, e⟩
          exact ⟨_, rfl, _, ⟨z0, z1, z2, z3, z4, rfl, h0, h1, h2, h3, r, by rw [e]; simp only [Fr.t_q, hvy.2]⟩, R.Own.give2 hO hO1⟩
        · rintro zs Y X f w0 hP hO
          obtain ⟨z0, z1, z2, z3, z4, rfl, h0, h1, h2, h3, h4⟩ := hP
          refine R.WO_call2 rfl rfl R.vv R.vv ?_
          refine (f_plus z3.t z4.t 130 130 _ (GFr.of hO (.tail _ (.tail _ (.head _))) (.tail _ (.tail _ (.tail _ (.head _)))) h3.1) (GFr.of hO (.head _) (.tail _ (.head _)) h4.1) (by decide)).mono ?_
          rintro _ w1 ⟨z5, rfl, hO1, r, e⟩
          exact ⟨_, rfl, _, ⟨z0, z1, z2, z3, z4, z5, rfl, h0, h1, h2, h3, h4, r, by rw [e]; simp only [Fr.t_q, h3.2, h4.2]⟩, R.Own.give2 hO hO1⟩
        · rintro zs Y X f w0 hP hO
          obtain ⟨z0, z1, z2, z3, z4, z5, rfl, h0, h1, h2, h3, h4, h5⟩ := hP
          refine R.WO_call2 rfl rfl R.vv R.vv ?_
          refine (f_over z2.t z5.t 261 261 _ (GFr.of hO (.tail _ (.tail _ (.tail _ (.tail _ (.tail _ (.tail _ (.head _))))))) (.tail _ (.tail _ (.tail _ (.tail _ (.tail _ (.tail _ (.tail _ (.head _)))))))) h2.1) (GFr.of hO (.head _) (.tail _ (.head _)) h5.1) (by decide)).mono ?_
          rintro _ w1 ⟨z6, rfl, hO1, r, e⟩
          exact ⟨_, rfl, _, ⟨z0, z1, z2, z3, z4, z5, z6, rfl, h0, h1, h2, h3, h4, h5, r, by rw [e]; simp only [Fr.t_q, h2.2, h5.2]⟩, R.Own.give2 hO hO1⟩
      case hr =>
        rintro zs gx f w0 ⟨z0, z1, z2, z3, z4, z5, z6, rfl, h0, h1, h2, h3, h4, h5, h6⟩ hA hO
        rw [← R.over_agrees hA]
        clear hA
        have hM : R.Own [] w _ [rowN z6.n, rowN z6.d, rowN z5.n, rowN z5.d, rowN z4.n, rowN z4.d, rowN z3.n, rowN z3.d, rowN z2.n, rowN z2.d, rowN z1.n, rowN z1.d, rowN z0.n, rowN z0.d, .blk g10 45 (cFr vy.t), .blk g9 45 (cFr vx.t), rowN vy.n, rowN vy.d, rowN vx.n, rowN vx.d, .blk g8 45 (cFr uy.t), .blk g7 45 (cFr ux.t), rowN uy.n, rowN uy.d, rowN ux.n, rowN ux.d, .blk gr 45 [.bool false, .slice none 0 0, .bool false, .slice none 0 0], .blk gx 45 [.bool false, .slice none 0 0, .bool false, .slice none 0 0]] := hO
        clear hO
        have hM := R.Own.sub (R.pk (r := .blk gx _ _) (R.pk (r := .blk gr _ _) (R.pk (r := rowN z6.n) (R.pk (r := rowN z6.d) hM)))) (List.sublist_append_left [.blk gx _ _, .blk gr _ _, rowN z6.n, rowN z6.d] _)
        clear h0 h1 h2 h3 h4 h5
        have hq : z6.q = (lineL a b p).tQ := h6.2
        (refine R.stepU ?_; (repeat' (first | (with_reducible refine And.intro ?_ ?_) | (with_reducible intro _))); all_goals refine R.Lft.mk ?_)
        refine R.WO_call1 rfl rfl R.vv ?_
        refine (n30_sign z6.n.t 522 _ (GNm.of R.ohm R.memb h6.1.1) (by decide)).mono ?_
        rintro _ w5 ⟨he, hb5⟩
        obtain ⟨s, hs⟩ : ∃ s, cmpZ z6.n.t.z 0 = s := ⟨_, rfl⟩
        rw [hs] at he
        subst he
        have hsl : s < 0 ↔ (lineL a b p).tQ.1 < 0 := by
          rw [← hs, Nm.t_z, ← hq]
          have := @cmpZ_ge0 z6.n.z 0
          show _ ↔ z6.n.z < 0
          omega
        have hM := R.Own.call R.ohm hb5
        refine ⟨_, rfl, ?_⟩
        clear hs
        (refine R.stepU ?_; (repeat' (first | (with_reducible refine And.intro ?_ ?_) | (with_reducible intro _))); all_goals refine R.Lft.mk ?_)
        · rename_i hlt
          refine R.WO_call1 rfl rfl R.vv ?_
          refine (f_whole 0 (by omega) _).mono ?_
          rintro _ w6 ⟨z7, rfl, hO7, r7, e7⟩
          have hM := R.Own.give2 R.ohm hO7
          refine ⟨_, rfl, ?_⟩
          (refine R.stepU ?_; (repeat' (first | (with_reducible refine And.intro ?_ ?_) | (with_reducible intro _))); all_goals refine R.Lft.mk ?_)
          rename_i hM
          exact ⟨z7, rfl, R.Own.sub (R.pk (r := rowN z7.n) (R.pk (r := rowN z7.d) hM)) (List.Sublist.cons_cons _ (List.Sublist.cons_cons _ (List.nil_sublist _))), r7.mono (by decide), by rw [e7]; unfold Ln.partQ; rw [if_pos (hsl.1 hlt)]⟩
        · rename_i hlt
          refine R.WC_planX [(0, false), (1, true), (2, true), (3, false)] R.mixed (by decide +kernel) R.ohm ?_
          (refine R.stepU ?_; (repeat' (first | (with_reducible refine And.intro ?_ ?_) | (with_reducible intro _))); all_goals refine R.Lft.mk ?_)
          refine R.WO_call1 rfl rfl R.vv ?_
          refine (f_whole 1 (by omega) _).mono ?_
          rintro _ w6 ⟨z7, rfl, hO7, r7, e7⟩
          have hM := R.Own.give2 R.ohm hO7
          refine ⟨_, rfl, ?_⟩
          (refine R.stepU ?_; (repeat' (first | (with_reducible refine And.intro ?_ ?_) | (with_reducible intro _))); all_goals refine R.Lft.mk ?_)
          refine R.WO_call2 rfl rfl R.vv R.vv ?_
          refine (f_cmp z6.t z7.t 522 32 _ (GFr.of R.ohm R.memb R.memb h6.1) (GFr.of R.ohm R.memb R.memb r7) (by decide)).mono ?_
          rintro _ w7 ⟨he, hb7⟩
          rw [Fr.t_q, Fr.t_q, hq, e7] at he
          obtain ⟨s2, hs2⟩ : ∃ s2, cmpZ ((lineL a b p).tQ.1 * (1, 1).2) ((1, 1).1 * (lineL a b p).tQ.2) = s2 := ⟨_, rfl⟩
          rw [hs2] at he
          subst he
          have hsl2 : 0 < s2 ↔ 1 * (lineL a b p).tQ.2 < (lineL a b p).tQ.1 * 1 := by
            rw [← hs2]
            have := @cmpZ_le0 ((lineL a b p).tQ.1 * 1) (1 * (lineL a b p).tQ.2)
            show 0 < cmpZ ((lineL a b p).tQ.1 * 1) (1 * (lineL a b p).tQ.2) ↔ _
            omega
          have hM := R.Own.call R.ohm hb7
          refine ⟨_, rfl, ?_⟩
          clear hs2
          (refine R.stepU ?_; (repeat' (first | (with_reducible refine And.intro ?_ ?_) | (with_reducible intro _))); all_goals refine R.Lft.mk ?_)
          · rename_i hgt
            refine R.WO_call1 rfl rfl R.vv ?_
            refine (f_whole 1 (by omega) _).mono ?_
            rintro _ w8 ⟨z8, rfl, hO8, r8, e8⟩
            have hM := R.Own.give2 R.ohm hO8
            refine ⟨_, rfl, ?_⟩
            (refine R.stepU ?_; (repeat' (first | (with_reducible refine And.intro ?_ ?_) | (with_reducible intro _))); all_goals refine R.Lft.mk ?_)
            rename_i hM
            exact ⟨z8, rfl, R.Own.sub (R.pk (r := rowN z8.n) (R.pk (r := rowN z8.d) hM)) (List.Sublist.cons_cons _ (List.Sublist.cons_cons _ (List.nil_sublist _))), r8.mono (by decide), by rw [e8]; unfold Ln.partQ; rw [if_neg (fun c => hlt (hsl.2 c)), if_pos (hsl2.1 hgt)]⟩
          · rename_i hgt _ hM
            exact ⟨z6, rfl, R.Own.sub (R.pk (r := rowN z6.n) (R.pk (r := rowN z6.d) hM)) (List.Sublist.cons_cons _ (List.Sublist.cons_cons _ (List.nil_sublist _))), h6.1, by rw [hq]; unfold Ln.partQ; rw [if_neg (fun c => hlt (hsl.2 c)), if_neg (fun c => hgt (hsl2.2 c))]⟩
end Go.Proofs.YtebgjcginmgoaaaGreat
namespace Go.Proofs.YtebgjcginmgoaaaGreat
open Go.RowKit
open R (In64 InU64 lo64 nth)

attribute [local irreducible] W512 trimN digsL dig4I in
set_option maxHeartbeats 16000000 in
theorem f_square (a b : Sp) (p : Pt) (hx : -4611686018427387904 ≤ p.x ∧ p.x ≤ 4611686018427387904) (hy : -4611686018427387904 ≤ p.y ∧ p.y ≤ 4611686018427387904) (w : World) : Calls Tryz.prog 13 #[.agg (cSp a).toArray, .agg (cSp b).toArray, .agg (cPt p).toArray] w fun e w' => ∃ z : Fr, e = .returned (.agg (cFr z.t).toArray) ∧ R.Own [] w w' [rowN z.n, rowN z.d] ∧ RawF 2613 z ∧ z.q = (lineL a b p).squareQ := by
  have hM := R.Own.start [] w
  refine R.calls_of_WC (fn := Tryz.f13) Tryz.func13 rfl Tryz.ntmps13 (Nat.le_of_ble_eq_true rfl) ?_
  (refine R.stepU ?_; (repeat' (first | (with_reducible refine And.intro ?_ ?_) | (with_reducible intro _))); all_goals refine R.Lft.mk ?_)
  rename_i ga _ _ gb _ _ gp _ _ gr _ hM
  refine R.WO_call3 rfl rfl R.vv R.vv R.vv ?_
  refine (f_part a b p hx hy _).mono ?_
  rintro _ w5 ⟨t, rfl, hO, ht, et⟩
  have hM := R.Own.give2 R.ohm hO
  have ht : IsF 522 t (lineL a b p).partQ := ⟨ht, et⟩
  refine ⟨_, rfl, ?_⟩
  (refine R.stepU ?_; (repeat' (first | (with_reducible refine And.intro ?_ ?_) | (with_reducible intro _))); all_goals refine R.Lft.mk ?_)
  rename_i gt _ _ _ hM
  refine R.WC_cut2 (ι := Nat × Fr) (fun i => [(3, .pointer (some ⟨ga, 0, none⟩)), (4, .pointer (some ⟨gb, 0, none⟩)), (5, .pointer (some ⟨gp, 0, none⟩)), (6, .pointer (some ⟨gr, 0, none⟩)), (7, .pointer (some ⟨gt, 0, none⟩)), (8, .pointer (some ⟨i.1, 0, none⟩))])
    (fun i w2 => IsF 620 i.2 (qAdd (a.x.z, (a.w.n : Int)) (qMul (lineL a b p).partQ (qSub (b.x.z, (b.w.n : Int)) (a.x.z, (a.w.n : Int))))) ∧ R.Own [] w w2 [.blk i.1 45 (cFr i.2.t), rowN i.2.n, rowN i.2.d, .blk gt 45 (cFr t.t), rowN t.n, rowN t.d, .blk gr 45 [.bool false, .slice none 0 0, .bool false, .slice none 0 0], .blk gp 30 (cPt p), .blk gb 28 (cSp b), .blk ga 28 (cSp a)]) ?h1 ?h2
  case h1 =>
    refine R.WC_planF ((.q 0 (.q 2 (.q 3 (.q 5 (R.tr1 10 (.e 11 .nil) [1, 4, 6, 7, 8, 9])))))) R.mixed (by decide +kernel) R.ohm ?_
    (refine R.stepU ?_; (repeat' (first | (with_reducible refine And.intro ?_ ?_) | (with_reducible intro _))); all_goals refine R.Lft.mk ?_)
    refine R.chain1 (F := []) (base := [.blk gt 45 (cFr t.t), rowN t.n, rowN t.d, .blk gr 45 [.bool false, .slice none 0 0, .bool false, .slice none 0 0], .blk gp 30 (cPt p), .blk gb 28 (cSp b), .blk ga 28 (cSp a)]) (Pz := (fun (k : Nat) (zs : R.Zs) => match k with
          | 0 => zs = []
          | 1 => ∃ z0 : Fr, zs = [(17, .agg (cFr z0.t).toArray, [rowN z0.n, rowN z0.d])] ∧ IsF 32 z0 (a.x.z, (a.w.n : Int))
          | 2 => ∃ z0 z1 : Fr, zs = [(20, .agg (cFr z1.t).toArray, [rowN z1.n, rowN z1.d]), (17, .agg (cFr z0.t).toArray, [rowN z0.n, rowN z0.d])] ∧ IsF 32 z0 (a.x.z, (a.w.n : Int)) ∧ IsF 32 z1 (b.x.z, (b.w.n : Int))
          | 3 => ∃ z0 z1 z2 : Fr, zs = [(22, .agg (cFr z2.t).toArray, [rowN z2.n, rowN z2.d]), (20, .agg (cFr z1.t).toArray, [rowN z1.n, rowN z1.d]), (17, .agg (cFr z0.t).toArray, [rowN z0.n, rowN z0.d])] ∧ IsF 32 z0 (a.x.z, (a.w.n : Int)) ∧ IsF 32 z1 (b.x.z, (b.w.n : Int)) ∧ IsF 32 z2 (a.x.z, (a.w.n : Int))
          | 4 => ∃ z0 z1 z2 z3 : Fr, zs = [(23, .agg (cFr z3.t).toArray, [rowN z3.n, rowN z3.d]), (22, .agg (cFr z2.t).toArray, [rowN z2.n, rowN z2.d]), (20, .agg (cFr z1.t).toArray, [rowN z1.n, rowN z1.d]), (17, .agg (cFr z0.t).toArray, [rowN z0.n, rowN z0.d])] ∧ IsF 32 z0 (a.x.z, (a.w.n : Int)) ∧ IsF 32 z1 (b.x.z, (b.w.n : Int)) ∧ IsF 32 z2 (a.x.z, (a.w.n : Int)) ∧ IsF 65 z3 (qSub (b.x.z, (b.w.n : Int)) (a.x.z, (a.w.n : Int)))
          | 5 => ∃ z0 z1 z2 z3 z4 : Fr, zs = [(24, .agg (cFr z4.t).toArray, [rowN z4.n, rowN z4.d]), (23, .agg (cFr z3.t).toArray, [rowN z3.n, rowN z3.d]), (22, .agg (cFr z2.t).toArray, [rowN z2.n, rowN z2.d]), (20, .agg (cFr z1.t).toArray, [rowN z1.n, rowN z1.d]), (17, .agg (cFr z0.t).toArray, [rowN z0.n, rowN z0.d])] ∧ IsF 32 z0 (a.x.z, (a.w.n : Int)) ∧ IsF 32 z1 (b.x.z, (b.w.n : Int)) ∧ IsF 32 z2 (a.x.z, (a.w.n : Int)) ∧ IsF 65 z3 (qSub (b.x.z, (b.w.n : Int)) (a.x.z, (a.w.n : Int))) ∧ IsF 587 z4 (qMul (lineL a b p).partQ (qSub (b.x.z, (b.w.n : Int)) (a.x.z, (a.w.n : Int))))
          | 6 => ∃ z0 z1 z2 z3 z4 z5 : Fr, zs = [(25, .agg (cFr z5.t).toArray, [rowN z5.n, rowN z5.d]), (24, .agg (cFr z4.t).toArray, [rowN z4.n, rowN z4.d]), (23, .agg (cFr z3.t).toArray, [rowN z3.n, rowN z3.d]), (22, .agg (cFr z2.t).toArray, [rowN z2.n, rowN z2.d]), (20, .agg (cFr z1.t).toArray, [rowN z1.n, rowN z1.d]), (17, .agg (cFr z0.t).toArray, [rowN z0.n, rowN z0.d])] ∧ IsF 32 z0 (a.x.z, (a.w.n : Int)) ∧ IsF 32 z1 (b.x.z, (b.w.n : Int)) ∧ IsF 32 z2 (a.x.z, (a.w.n : Int)) ∧ IsF 65 z3 (qSub (b.x.z, (b.w.n : Int)) (a.x.z, (a.w.n : Int))) ∧ IsF 587 z4 (qMul (lineL a b p).partQ (qSub (b.x.z, (b.w.n : Int)) (a.x.z, (a.w.n : Int)))) ∧ IsF 620 z5 (qAdd (a.x.z, (a.w.n : Int)) (qMul (lineL a b p).partQ (qSub (b.x.z, (b.w.n : Int)) (a.x.z, (a.w.n : Int)))))
          | _ => False)) (sl0 := [(3, .pointer (some ⟨ga, 0, none⟩)), (4, .pointer (some ⟨gb, 0, none⟩)), (5, .pointer (some ⟨gp, 0, none⟩)), (6, .pointer (some ⟨gr, 0, none⟩)), (7, .pointer (some ⟨gt, 0, none⟩)), (16, .agg (cSp a).toArray), (18, .agg (cFr t.t).toArray), (19, .agg (cSp b).toArray), (21, .agg (cSp a).toArray)]) (da := 8) (db := 1000000) (Y := []) (X := []) rfl rfl (.inl rfl) (fun p hp => by cases hp) [(1, 17), (4, 20), (6, 22), (7, 23), (8, 24), (9, 25)] 0 [3, 4, 5, 6, 7, 16, 18, 19, 21] [] _ _ ?hC ?hS (by decide) ?hr
    case hS => exact ⟨rfl, R.keys_of rfl, (fun p hp => by cases hp), ⟨rfl, rfl, rfl, rfl, rfl, rfl, rfl, rfl, rfl, trivial⟩, R.ohm⟩
    case hC =>
      refine ⟨⟨_, _, _, _, rfl, rfl, (by decide), ?_⟩, ⟨_, _, _, _, rfl, rfl, (by decide), ?_⟩, ⟨_, _, _, _, rfl, rfl, (by decide), ?_⟩, ⟨_, _, _, _, rfl, rfl, (by decide), ?_⟩, ⟨_, _, _, _, rfl, rfl, (by decide), ?_⟩, ⟨_, _, _, _, rfl, rfl, (by decide), ?_⟩, trivial⟩
      · rintro zs Y X f w0 hP hO
        obtain rfl := hP
        refine R.WO_call1 rfl rfl R.vv ?_
        refine (f_first a _).mono ?_
        rintro _ w1 ⟨z0, rfl, hO1, r, e⟩
        exact ⟨_, rfl, _, ⟨z0, rfl, r, e⟩, R.Own.give2 hO hO1⟩
      · rintro zs Y X f w0 hP hO
        obtain ⟨z0, rfl, h0⟩ := hP
        refine R.WO_call1 rfl rfl R.vv ?_
        refine (f_first b _).mono ?_
        rintro _ w1 ⟨z1, rfl, hO1, r, e⟩
        exact ⟨_, rfl, _, ⟨z0, z1, rfl, h0, r, e⟩, R.Own.give2 hO hO1⟩
      · rintro zs Y X f w0 hP hO
        obtain ⟨z0, z1, rfl, h0, h1⟩ := hP
        refine R.WO_call1 rfl rfl R.vv ?_
        refine (f_first a _).mono ?_
        rintro _ w1 ⟨z2, rfl, hO1, r, e⟩
        exact ⟨_, rfl, _, ⟨z0, z1, z2, rfl, h0, h1, r, e⟩, R.Own.give2 hO hO1⟩
      · rintro zs Y X f w0 hP hO
        obtain ⟨z0, z1, z2, rfl, h0, h1, h2⟩ := hP
        refine R.WO_call2 rfl rfl R.vv R.vv ?_
        refine (f_minus z1.t z2.t 32 32 _ (GFr.of hO (.tail _ (.tail _ (.head _))) (.tail _ (.tail _ (.tail _ (.head _)))) h1.1) (GFr.of hO (.head _) (.tail _ (.head _)) h2.1) (by decide)).mono ?_
        rintro _ w1 ⟨z3, rfl, hO1, r, e⟩
        exact ⟨_, rfl, _, ⟨z0, z1, z2, z3, rfl, h0, h1, h2, r, by rw [e]; simp only [Fr.t_q, h1.2, h2.2]⟩, R.Own.give2 hO hO1⟩
      · rintro zs Y X f w0 hP hO
        obtain ⟨z0, z1, z2, z3, rfl, h0, h1, h2, h3⟩ := hP
        refine R.WO_call2 rfl rfl R.vv R.vv ?_
        refine (f_times t.t z3.t 522 65 _ (GFr.of hO (.tail _ (.tail _ (.tail _ (.tail _ (.tail _ (.tail _ (.tail _ (.tail _ (.tail _ (.head _)))))))))) (.tail _ (.tail _ (.tail _ (.tail _ (.tail _ (.tail _ (.tail _ (.tail _ (.tail _ (.tail _ (.head _))))))))))) ht.1) (GFr.of hO (.head _) (.tail _ (.head _)) h3.1) (by decide)).mono ?_
        rintro _ w1 ⟨z4, rfl, hO1, r, e⟩
        exact ⟨_, rfl, _, ⟨z0, z1, z2, z3, z4, rfl, h0, h1, h2, h3, r, by rw [e]; simp only [Fr.t_q, ht.2, h3.2]⟩, R.Own.give2 hO hO1⟩
      · rintro zs Y X f w0 hP hO
        obtain ⟨z0, z1, z2, z3, z4, rfl, h0, h1, h2, h3, h4⟩ := hP
        refine R.WO_call2 rfl rfl R.vv R.vv ?_
        refine (f_plus z0.t z4.t 32 587 _ (GFr.of hO (.tail _ (.tail _ (.tail _ (.tail _ (.tail _ (.tail _ (.tail _ (.tail _ (.head _))))))))) (.tail _ (.tail _ (.tail _ (.tail _ (.tail _ (.tail _ (.tail _ (.tail _ (.tail _ (.head _)))))))))) h0.1) (GFr.of hO (.head _) (.tail _ (.head _)) h4.1) (by decide)).mono ?_
        rintro _ w1 ⟨z5, rfl, hO1, r, e⟩
        exact ⟨_, rfl, _, ⟨z0, z1, z2, z3, z4, z5, rfl, h0, h1, h2, h3, h4, r, by rw [e]; simp only [Fr.t_q, h0.2, h4.2]⟩, R.Own.give2 hO hO1⟩
    case hr =>
      rintro zs gx f w0 ⟨z0, z1, z2, z3, z4, z5, rfl, h0, h1, h2, h3, h4, h5⟩ hA hO
      rw [← R.over_agrees hA]
      clear hA
      have hM : R.Own [] w _ [rowN z5.n, rowN z5.d, rowN z4.n, rowN z4.d, rowN z3.n, rowN z3.d, rowN z2.n, rowN z2.d, rowN z1.n, rowN z1.d, rowN z0.n, rowN z0.d, .blk gt 45 (cFr t.t), rowN t.n, rowN t.d, .blk gr 45 [.bool false, .slice none 0 0, .bool false, .slice none 0 0], .blk gp 30 (cPt p), .blk gb 28 (cSp b), .blk ga 28 (cSp a), .blk gx 45 [.bool false, .slice none 0 0, .bool false, .slice none 0 0]] := hO
      clear hO
      have hM := R.pk (r := .blk gx _ _) hM
      (refine R.stepU ?_; (repeat' (first | (with_reducible refine And.intro ?_ ?_) | (with_reducible intro _))); all_goals refine R.Lft.mk ?_)
      rename_i hM
      exact ⟨rfl, (gx, z5), ⟨rfl, rfl, rfl, rfl, rfl, rfl, trivial⟩, h5, R.Own.sub hM R.subl⟩
  case h2 =>
    clear hM
    rintro ⟨g8, xx⟩ f w2 ⟨hxx, hM⟩
    dsimp only at hxx hM ⊢
    (refine R.stepU ?_; (repeat' (first | (with_reducible refine And.intro ?_ ?_) | (with_reducible intro _))); all_goals refine R.Lft.mk ?_)
    refine R.WC_cut2 (ι := Nat × Fr) (fun i => [(5, .pointer (some ⟨gp, 0, none⟩)), (6, .pointer (some ⟨gr, 0, none⟩)), (8, .pointer (some ⟨g8, 0, none⟩)), (9, .pointer (some ⟨i.1, 0, none⟩))])
      (fun i w2 => IsF 620 i.2 (qAdd (a.y.z, (a.w.n : Int)) (qMul (lineL a b p).partQ (qSub (b.y.z, (b.w.n : Int)) (a.y.z, (a.w.n : Int))))) ∧ R.Own [] w w2 [.blk i.1 45 (cFr i.2.t), rowN i.2.n, rowN i.2.d, .blk g8 45 (cFr xx.t), rowN xx.n, rowN xx.d, .blk gr 45 [.bool false, .slice none 0 0, .bool false, .slice none 0 0], .blk gp 30 (cPt p)]) ?h1 ?h2
    case h1 =>
      refine R.WC_planF ((.q 0 (.q 2 (.q 3 (.q 5 (R.tr1 10 (.e 11 .nil) [1, 4, 6, 7, 8, 9])))))) R.mixed (by decide +kernel) R.ohm ?_
      (refine R.stepU ?_; (repeat' (first | (with_reducible refine And.intro ?_ ?_) | (with_reducible intro _))); all_goals refine R.Lft.mk ?_)
      refine R.chain1 (F := []) (base := [.blk g8 45 (cFr xx.t), rowN xx.n, rowN xx.d, .blk gt 45 (cFr t.t), rowN t.n, rowN t.d, .blk gr 45 [.bool false, .slice none 0 0, .bool false, .slice none 0 0], .blk gp 30 (cPt p), .blk gb 28 (cSp b), .blk ga 28 (cSp a)]) (Pz := (fun (k : Nat) (zs : R.Zs) => match k with
            | 0 => zs = []
            | 1 => ∃ z0 : Fr, zs = [(27, .agg (cFr z0.t).toArray, [rowN z0.n, rowN z0.d])] ∧ IsF 32 z0 (a.y.z, (a.w.n : Int))
            | 2 => ∃ z0 z1 : Fr, zs = [(30, .agg (cFr z1.t).toArray, [rowN z1.n, rowN z1.d]), (27, .agg (cFr z0.t).toArray, [rowN z0.n, rowN z0.d])] ∧ IsF 32 z0 (a.y.z, (a.w.n : Int)) ∧ IsF 32 z1 (b.y.z, (b.w.n : Int))
            | 3 => ∃ z0 z1 z2 : Fr, zs = [(32, .agg (cFr z2.t).toArray, [rowN z2.n, rowN z2.d]), (30, .agg (cFr z1.t).toArray, [rowN z1.n, rowN z1.d]), (27, .agg (cFr z0.t).toArray, [rowN z0.n, rowN z0.d])] ∧ IsF 32 z0 (a.y.z, (a.w.n : Int)) ∧ IsF 32 z1 (b.y.z, (b.w.n : Int)) ∧ IsF 32 z2 (a.y.z, (a.w.n : Int))
            | 4 => ∃ z0 z1 z2 z3 : Fr, zs = [(33, .agg (cFr z3.t).toArray, [rowN z3.n, rowN z3.d]), (32, .agg (cFr z2.t).toArray, [rowN z2.n, rowN z2.d]), (30, .agg (cFr z1.t).toArray, [rowN z1.n, rowN z1.d]), (27, .agg (cFr z0.t).toArray, [rowN z0.n, rowN z0.d])] ∧ IsF 32 z0 (a.y.z, (a.w.n : Int)) ∧ IsF 32 z1 (b.y.z, (b.w.n : Int)) ∧ IsF 32 z2 (a.y.z, (a.w.n : Int)) ∧ IsF 65 z3 (qSub (b.y.z, (b.w.n : Int)) (a.y.z, (a.w.n : Int)))
            | 5 => ∃ z0 z1 z2 z3 z4 : Fr, zs = [(34, .agg (cFr z4.t).toArray, [rowN z4.n, rowN z4.d]), (33, .agg (cFr z3.t).toArray, [rowN z3.n, rowN z3.d]), (32, .agg (cFr z2.t).toArray, [rowN z2.n, rowN z2.d]), (30, .agg (cFr z1.t).toArray, [rowN z1.n, rowN z1.d]), (27, .agg (cFr z0.t).toArray, [rowN z0.n, rowN z0.d])] ∧ IsF 32 z0 (a.y.z, (a.w.n : Int)) ∧ IsF 32 z1 (b.y.z, (b.w.n : Int)) ∧ IsF 32 z2 (a.y.z, (a.w.n : Int)) ∧ IsF 65 z3 (qSub (b.y.z, (b.w.n : Int)) (a.y.z, (a.w.n : Int))) ∧ IsF 587 z4 (qMul (lineL a b p).partQ (qSub (b.y.z, (b.w.n : Int)) (a.y.z, (a.w.n : Int))))
            | 6 => ∃ z0 z1 z2 z3 z4 z5 : Fr, zs = [(35, .agg (cFr z5.t).toArray, [rowN z5.n, rowN z5.d]), (34, .agg (cFr z4.t).toArray, [rowN z4.n, rowN z4.d]), (33, .agg (cFr z3.t).toArray, [rowN z3.n, rowN z3.d]), (32, .agg (cFr z2.t).toArray, [rowN z2.n, rowN z2.d]), (30, .agg (cFr z1.t).toArray, [rowN z1.n, rowN z1.d]), (27, .agg (cFr z0.t).toArray, [rowN z0.n, rowN z0.d])] ∧ IsF 32 z0 (a.y.z, (a.w.n : Int)) ∧ IsF 32 z1 (b.y.z, (b.w.n : Int)) ∧ IsF 32 z2 (a.y.z, (a.w.n : Int)) ∧ IsF 65 z3 (qSub (b.y.z, (b.w.n : Int)) (a.y.z, (a.w.n : Int))) ∧ IsF 587 z4 (qMul (lineL a b p).partQ (qSub (b.y.z, (b.w.n : Int)) (a.y.z, (a.w.n : Int)))) ∧ IsF 620 z5 (qAdd (a.y.z, (a.w.n : Int)) (qMul (lineL a b p).partQ (qSub (b.y.z, (b.w.n : Int)) (a.y.z, (a.w.n : Int)))))
            | _ => False)) (sl0 := [(5, .pointer (some ⟨gp, 0, none⟩)), (6, .pointer (some ⟨gr, 0, none⟩)), (8, .pointer (some ⟨g8, 0, none⟩)), (26, .agg (cSp a).toArray), (28, .agg (cFr t.t).toArray), (29, .agg (cSp b).toArray), (31, .agg (cSp a).toArray)]) (da := 9) (db := 1000000) (Y := []) (X := []) rfl rfl (.inl rfl) (fun p hp => by cases hp) [(1, 27), (4, 30), (6, 32), (7, 33), (8, 34), (9, 35)] 0 [5, 6, 8, 26, 28, 29, 31] [] _ _ ?hC ?hS (by decide) ?hr
      case hS => exact ⟨rfl, R.keys_of rfl, (fun p hp => by cases hp), ⟨rfl, rfl, rfl, rfl, rfl, rfl, rfl, trivial⟩, R.ohm⟩
      case hC =>
        refine ⟨⟨_, _, _, _, rfl, rfl, (by decide), ?_⟩, ⟨_, _, _, _, rfl, rfl, (by decide), ?_⟩, ⟨_, _, _, _, rfl, rfl, (by decide), ?_⟩, ⟨_, _, _, _, rfl, rfl, (by decide), ?_⟩, ⟨_, _, _, _, rfl, rfl, (by decide), ?_⟩, ⟨_, _, _, _, rfl, rfl, (by decide), ?_⟩, trivial⟩
        · rintro zs Y X f w0 hP hO
          obtain rfl := hP
          refine R.WO_call1 rfl rfl R.vv ?_
          refine (f_second a _).mono ?_
          rintro _ w1 ⟨z0, rfl, hO1, r, e⟩
          exact ⟨_, rfl, _, ⟨z0, rfl, r, e⟩, R.Own.give2 hO hO1⟩
        · rintro zs Y X f w0 hP hO
          obtain ⟨z0, rfl, h0⟩ := hP
          refine R.WO_call1 rfl rfl R.vv ?_
          refine (f_second b _).mono ?_
          rintro _ w1 ⟨z1, rfl, hO1, r, e⟩
          exact ⟨_, rfl, _, ⟨z0, z1, rfl, h0, r, e⟩, R.Own.give2 hO hO1⟩
        · rintro zs Y X f w0 hP hO
          obtain ⟨z0, z1, rfl, h0, h1⟩ := hP
          refine R.WO_call1 rfl rfl R.vv ?_
          refine (f_second a _).mono ?_
          rintro _ w1 ⟨z2, rfl, hO1, r, e⟩
          exact ⟨_, rfl, _, ⟨z0, z1, z2, rfl, h0, h1, r, e⟩, R.Own.give2 hO hO1⟩
        · rintro zs Y X f w0 hP hO
          obtain ⟨z0, z1, z2, rfl, h0, h1, h2⟩ := hP
          refine R.WO_call2 rfl rfl R.vv R.vv ?_
          refine (f_minus z1.t z2.t 32 32 _ (GFr.of hO (.tail _ (.tail _ (.head _))) (.tail _ (.tail _ (.tail _ (.head _)))) h1.1) (GFr.of hO (.head _) (.tail _ (.head _)) h2.1) (by decide)).mono ?_
          rintro _ w1 ⟨z3, rfl, hO1, r, e⟩
          exact ⟨_, rfl, _, ⟨z0, z1, z2, z3, rfl, h0, h1, h2, r, by rw [e]; simp only [Fr.t_q, h1.2, h2.2]⟩, R.Own.give2 hO hO1⟩
        · rintro zs Y X f w0 hP hO
          obtain ⟨z0, z1, z2, z3, rfl, h0, h1, h2, h3⟩ := hP
          refine R.WO_call2 rfl rfl R.vv R.vv ?_
          refine (f_times t.t z3.t 522 65 _ (GFr.of hO (.tail _ (.tail _ (.tail _ (.tail _ (.tail _ (.tail _ (.tail _ (.tail _ (.tail _ (.tail _ (.tail _ (.tail _ (.head _))))))))))))) (.tail _ (.tail _ (.tail _ (.tail _ (.tail _ (.tail _ (.tail _ (.tail _ (.tail _ (.tail _ (.tail _ (.tail _ (.tail _ (.head _)))))))))))))) ht.1) (GFr.of hO (.head _) (.tail _ (.head _)) h3.1) (by decide)).mono ?_
          rintro _ w1 ⟨z4, rfl, hO1, r, e⟩
          exact ⟨_, rfl, _, ⟨z0, z1, z2, z3, z4, rfl, h0, h1, h2, h3, r, by rw [e]; simp only [Fr.t_q, ht.2, h3.2]⟩, R.Own.give2 hO hO1⟩
        · rintro zs Y X f w0 hP hO
          obtain ⟨z0, z1, z2, z3, z4, rfl, h0, h1, h2, h3, h4⟩ := hP
          refine R.WO_call2 rfl rfl R.vv R.vv ?_
          refine (f_plus z0.t z4.t 32 587 _ (GFr.of hO (.tail _ (.tail _ (.tail _ (.tail _ (.tail _ (.tail _ (.tail _ (.tail _ (.head _))))))))) (.tail _ (.tail _ (.tail _ (.tail _ (.tail _ (.tail _ (.tail _ (.tail _ (.tail _ (.head _)))))))))) h0.1) (GFr.of hO (.head _) (.tail _ (.head _)) h4.1) (by decide)).mono ?_
          rintro _ w1 ⟨z5, rfl, hO1, r, e⟩
          exact ⟨_, rfl, _, ⟨z0, z1, z2, z3, z4, z5, rfl, h0, h1, h2, h3, h4, r, by rw [e]; simp only [Fr.t_q, h0.2, h4.2]⟩, R.Own.give2 hO hO1⟩
      case hr =>
        rintro zs gx f w0 ⟨z0, z1, z2, z3, z4, z5, rfl, h0, h1, h2, h3, h4, h5⟩ hA hO
        rw [← R.over_agrees hA]
        clear hA
        have hM : R.Own [] w _ [rowN z5.n, rowN z5.d, rowN z4.n, rowN z4.d, rowN z3.n, rowN z3.d, rowN z2.n, rowN z2.d, rowN z1.n, rowN z1.d, rowN z0.n, rowN z0.d, .blk g8 45 (cFr xx.t), rowN xx.n, rowN xx.d, .blk gt 45 (cFr t.t), rowN t.n, rowN t.d, .blk gr 45 [.bool false, .slice none 0 0, .bool false, .slice none 0 0], .blk gp 30 (cPt p), .blk gb 28 (cSp b), .blk ga 28 (cSp a), .blk gx 45 [.bool false, .slice none 0 0, .bool false, .slice none 0 0]] := hO
        clear hO
        have hM := R.pk (r := .blk gx _ _) hM
        (refine R.stepU ?_; (repeat' (first | (with_reducible refine And.intro ?_ ?_) | (with_reducible intro _))); all_goals refine R.Lft.mk ?_)
        rename_i hM
        exact ⟨rfl, (gx, z5), ⟨rfl, rfl, rfl, rfl, trivial⟩, h5, R.Own.sub hM R.subl⟩
    case h2 =>
      clear hM
      rintro ⟨g9, yy⟩ f w2 ⟨hyy, hM⟩
      dsimp only at hyy hM ⊢
      (refine R.stepU ?_; (repeat' (first | (with_reducible refine And.intro ?_ ?_) | (with_reducible intro _))); all_goals refine R.Lft.mk ?_)
      refine R.WC_planF ((.q 0 (.q 1 (.q 2 (.q 5 (.q 6 (.q 7 (R.tr2 10 11 (.e 12 (.e 13 .nil)) [3, 4, 8, 9])))))))) R.mixed (by decide +kernel) R.ohm ?_
      (refine R.stepU ?_; (repeat' (first | (with_reducible refine And.intro ?_ ?_) | (with_reducible intro _))); all_goals refine R.Lft.mk ?_)
      refine R.chain2 (F := []) (base := [.blk g9 45 (cFr yy.t), rowN yy.n, rowN yy.d, .blk g8 45 (cFr xx.t), rowN xx.n, rowN xx.d, .blk gr 45 [.bool false, .slice none 0 0, .bool false, .slice none 0 0], .blk gp 30 (cPt p)]) (Pz := (fun (k : Nat) (zs : R.Zs) => match k with
            | 0 => zs = []
            | 1 => ∃ z0 : Fr, zs = [(39, .agg (cFr z0.t).toArray, [rowN z0.n, rowN z0.d])] ∧ IsF 32 z0 (p.x, 1)
            | 2 => ∃ z0 z1 : Fr, zs = [(40, .agg (cFr z1.t).toArray, [rowN z1.n, rowN z1.d]), (39, .agg (cFr z0.t).toArray, [rowN z0.n, rowN z0.d])] ∧ IsF 32 z0 (p.x, 1) ∧ IsF 653 z1 (qSub (qAdd (a.x.z, (a.w.n : Int)) (qMul (lineL a b p).partQ (qSub (b.x.z, (b.w.n : Int)) (a.x.z, (a.w.n : Int))))) (p.x, 1))
            | 3 => ∃ z0 z1 z2 : Fr, zs = [(44, .agg (cFr z2.t).toArray, [rowN z2.n, rowN z2.d]), (40, .agg (cFr z1.t).toArray, [rowN z1.n, rowN z1.d]), (39, .agg (cFr z0.t).toArray, [rowN z0.n, rowN z0.d])] ∧ IsF 32 z0 (p.x, 1) ∧ IsF 653 z1 (qSub (qAdd (a.x.z, (a.w.n : Int)) (qMul (lineL a b p).partQ (qSub (b.x.z, (b.w.n : Int)) (a.x.z, (a.w.n : Int))))) (p.x, 1)) ∧ IsF 32 z2 (p.y, 1)
            | 4 => ∃ z0 z1 z2 z3 : Fr, zs = [(45, .agg (cFr z3.t).toArray, [rowN z3.n, rowN z3.d]), (44, .agg (cFr z2.t).toArray, [rowN z2.n, rowN z2.d]), (40, .agg (cFr z1.t).toArray, [rowN z1.n, rowN z1.d]), (39, .agg (cFr z0.t).toArray, [rowN z0.n, rowN z0.d])] ∧ IsF 32 z0 (p.x, 1) ∧ IsF 653 z1 (qSub (qAdd (a.x.z, (a.w.n : Int)) (qMul (lineL a b p).partQ (qSub (b.x.z, (b.w.n : Int)) (a.x.z, (a.w.n : Int))))) (p.x, 1)) ∧ IsF 32 z2 (p.y, 1) ∧ IsF 653 z3 (qSub (qAdd (a.y.z, (a.w.n : Int)) (qMul (lineL a b p).partQ (qSub (b.y.z, (b.w.n : Int)) (a.y.z, (a.w.n : Int))))) (p.y, 1))
            | _ => False)) (sl0 := [(6, .pointer (some ⟨gr, 0, none⟩)), (36, .agg (cFr xx.t).toArray), (38, .int .i64 p.x), (41, .agg (cFr yy.t).toArray), (43, .int .i64 p.y)]) (da := 10) (db := 11) rfl rfl rfl rfl (by decide) [(3, 39), (4, 40), (8, 44), (9, 45)] 0 [6, 36, 38, 41, 43] [] _ _ ?hC ?hS (by decide) (by decide) ?hr
      case hS => exact ⟨rfl, R.keys_of rfl, (fun p hp => by cases hp), ⟨rfl, rfl, rfl, rfl, rfl, trivial⟩, R.ohm⟩
      case hC =>
        refine ⟨⟨_, _, _, _, rfl, rfl, (by decide), ?_⟩, ⟨_, _, _, _, rfl, rfl, (by decide), ?_⟩, ⟨_, _, _, _, rfl, rfl, (by decide), ?_⟩, ⟨_, _, _, _, rfl, rfl, (by decide), ?_⟩, trivial⟩
        · rintro zs Y X f w0 hP hO
          obtain rfl := hP
          refine R.WO_call1 rfl rfl R.vv ?_
          refine (f_whole p.x hx _).mono ?_
          rintro _ w1 ⟨z0, rfl, hO1, r, e⟩
          exact ⟨_, rfl, _, ⟨z0, rfl, r, e⟩, R.Own.give2 hO hO1⟩
        · rintro zs Y X f w0 hP hO
          obtain ⟨z0, rfl, h0⟩ := hP
          refine R.WO_call2 rfl rfl R.vv R.vv ?_
          refine (f_minus xx.t z0.t 620 32 _ (GFr.of hO (.tail _ (.tail _ (.tail _ (.tail _ (.tail _ (.tail _ (.head _))))))) (.tail _ (.tail _ (.tail _ (.tail _ (.tail _ (.tail _ (.tail _ (.head _)))))))) hxx.1) (GFr.of hO (.head _) (.tail _ (.head _)) h0.1) (by decide)).mono ?_
          rintro _ w1 ⟨z1, rfl, hO1, r, e⟩
          exact ⟨_, rfl, _, ⟨z0, z1, rfl, h0, r, by rw [e]; simp only [Fr.t_q, hxx.2, h0.2]⟩, R.Own.give2 hO hO1⟩
        · rintro zs Y X f w0 hP hO
          obtain ⟨z0, z1, rfl, h0, h1⟩ := hP
          refine R.WO_call1 rfl rfl R.vv ?_
          refine (f_whole p.y hy _).mono ?_
          rintro _ w1 ⟨z2, rfl, hO1, r, e⟩
          exact ⟨_, rfl, _, ⟨z0, z1, z2, rfl, h0, h1, r, e⟩, R.Own.give2 hO hO1⟩
        · rintro zs Y X f w0 hP hO
          obtain ⟨z0, z1, z2, rfl, h0, h1, h2⟩ := hP
          refine R.WO_call2 rfl rfl R.vv R.vv ?_
          refine (f_minus yy.t z2.t 620 32 _ (GFr.of hO (.tail _ (.tail _ (.tail _ (.tail _ (.tail _ (.tail _ (.tail _ (.head _)))))))) (.tail _ (.tail _ (.tail _ (.tail _ (.tail _ (.tail _ (.tail _ (.tail _ (.head _))))))))) hyy.1) (GFr.of hO (.head _) (.tail _ (.head _)) h2.1) (by decide)).mono ?_
          rintro _ w1 ⟨z3, rfl, hO1, r, e⟩
          exact ⟨_, rfl, _, ⟨z0, z1, z2, z3, rfl, h0, h1, h2, r, by rw [e]; simp only [Fr.t_q, hyy.2, h2.2]⟩, R.Own.give2 hO hO1⟩
      case hr =>
        rintro zs gx gy f w0 ⟨z0, z1, z2, z3, rfl, h0, h1, h2, h3⟩ hA hO
        rw [← R.over_agrees hA]
        clear hA
        have hM : R.Own [] w _ [rowN z3.n, rowN z3.d, rowN z2.n, rowN z2.d, rowN z1.n, rowN z1.d, rowN z0.n, rowN z0.d, .blk g9 45 (cFr yy.t), rowN yy.n, rowN yy.d, .blk g8 45 (cFr xx.t), rowN xx.n, rowN xx.d, .blk gr 45 [.bool false, .slice none 0 0, .bool false, .slice none 0 0], .blk gp 30 (cPt p), .blk gx 45 [.bool false, .slice none 0 0, .bool false, .slice none 0 0], .blk gy 45 [.bool false, .slice none 0 0, .bool false, .slice none 0 0]] := hO
        clear hO
        have hM := R.pk (r := .blk gy _ _) (R.pk (r := .blk gx _ _) hM)
        (refine R.stepU ?_; (repeat' (first | (with_reducible refine And.intro ?_ ?_) | (with_reducible intro _))); all_goals refine R.Lft.mk ?_)
        refine ⟨R.Own.sub R.ohm R.subl, ?_⟩
        (refine R.stepU ?_; (repeat' (first | (with_reducible refine And.intro ?_ ?_) | (with_reducible intro _))); all_goals refine R.Lft.mk ?_)
        rename_i hM
        have hM := R.Own.sub (R.pk (r := .blk gy _ _) (R.pk (r := .blk gx _ _) (R.pk (r := .blk gr _ _) (R.pk (r := rowN z3.n) (R.pk (r := rowN z3.d) (R.pk (r := rowN z1.n) (R.pk (r := rowN z1.d) hM))))))) (List.sublist_append_left [.blk gy _ _, .blk gx _ _, .blk gr _ _, rowN z3.n, rowN z3.d, rowN z1.n, rowN z1.d] _)
        refine R.WC_planX [(0, false), (1, false), (3, false), (4, false), (2, true), (5, true), (6, true), (7, true)] R.mixed (by decide +kernel) R.ohm ?_
        (refine R.stepU ?_; (repeat' (first | (with_reducible refine And.intro ?_ ?_) | (with_reducible intro _))); all_goals refine R.Lft.mk ?_)
        refine R.WO_call2 rfl rfl R.vv R.vv ?_
        refine (f_times z1.t z1.t 653 653 _ (GFr.of R.ohm R.memb R.memb h1.1) (GFr.of R.ohm R.memb R.memb h1.1) (by decide)).mono ?_
        rintro _ w6 ⟨z4, rfl, hO4, r4, e4⟩
        have hM := R.Own.give2 R.ohm hO4
        refine ⟨_, rfl, ?_⟩
        (refine R.stepU ?_; (repeat' (first | (with_reducible refine And.intro ?_ ?_) | (with_reducible intro _))); all_goals refine R.Lft.mk ?_)
        refine R.WO_call2 rfl rfl R.vv R.vv ?_
        refine (f_times z3.t z3.t 653 653 _ (GFr.of R.ohm R.memb R.memb h3.1) (GFr.of R.ohm R.memb R.memb h3.1) (by decide)).mono ?_
        rintro _ w7 ⟨z5, rfl, hO5, r5, e5⟩
        have hM := R.Own.give2 R.ohm hO5
        refine ⟨_, rfl, ?_⟩
        (refine R.stepU ?_; (repeat' (first | (with_reducible refine And.intro ?_ ?_) | (with_reducible intro _))); all_goals refine R.Lft.mk ?_)
        refine R.WO_call2 rfl rfl R.vv R.vv ?_
        refine (f_plus z4.t z5.t 1306 1306 _ (GFr.of R.ohm R.memb R.memb r4) (GFr.of R.ohm R.memb R.memb r5) (by decide)).mono ?_
        rintro _ w8 ⟨z6, rfl, hO6, r6, e6⟩
        have hM := R.Own.give2 R.ohm hO6
        refine ⟨_, rfl, ?_⟩
        (refine R.stepU ?_; (repeat' (first | (with_reducible refine And.intro ?_ ?_) | (with_reducible intro _))); all_goals refine R.Lft.mk ?_)
        refine ⟨R.Own.sub R.ohm R.subl, ?_⟩
        (refine R.stepU ?_; (repeat' (first | (with_reducible refine And.intro ?_ ?_) | (with_reducible intro _))); all_goals refine R.Lft.mk ?_)
        rename_i hM
        exact ⟨z6, rfl, R.Own.sub (R.pk (r := rowN z6.n) (R.pk (r := rowN z6.d) hM)) (List.Sublist.cons_cons _ (List.Sublist.cons_cons _ (List.nil_sublist _))), r6, by rw [e6]; simp only [Fr.t_q, e4, e5, h1.2, h3.2]; rfl⟩
end Go.Proofs.YtebgjcginmgoaaaGreat
namespace Go.Proofs.YtebgjcginmgoaaaGreat
open Go.ChangeShapes Go.WideShapes Go.ChangeAt Go.RowKit
open R (In64 InU64 lo64 nth)

def GSt {T : Type} (_ : World) (_ : T) : Prop := True
def GPs (_ : World) (z : Pt) : Prop := (Lit.int .i64 z.x).wf = true ∧ (Lit.int .i64 z.y).wf = true
def GIs (_ : World) (n : Int) : Prop := (Lit.int .i64 n).wf = true
instance opn_Is30 : R.Opn Tryz.prog 3 Int R.cI GIs := R.opn_int (by kernel_rfl) fun _ => rfl
instance opn_Bs30 : R.Opn Tryz.prog 4 Bool R.cB GSt := R.opn_bool (by kernel_rfl)
instance opn_Ps : R.Opn Tryz.prog 30 Pt cPt GPs := R.opn_struct2 (o0 := 0) (t0 := 3) (n0 := 1) (o1 := 1) (t1 := 3) (n1 := 1) (by kernel_rfl) (by kernel_rfl) rfl rfl (by kernel_rfl) Pt.mk (fun _ _ => rfl) (fun _ _ _ h1 h2 => ⟨h1, h2⟩)
instance opn_Ws : R.Opn Tryz.prog 24 Wd cW GSt := ⟨fun hx => by
  obtain ⟨n, hn, he⟩ := trod_wide hx
  exact ⟨⟨n, hn⟩, he, trivial⟩⟩
instance opn_Ss : R.Opn Tryz.prog 26 Sg cS GSt :=
  R.opn_struct2 (o0 := 0) (t0 := 4) (n0 := 1) (o1 := 1) (t1 := 24) (n1 := 8) (e0 := R.cB) (e1 := cW) (by kernel_rfl) (by kernel_rfl) rfl rfl (by kernel_rfl) Sg.mk (fun _ _ => by simp [cS, R.cB]) (fun _ _ _ _ _ => trivial)
instance opn_Sps : R.Opn Tryz.prog 28 Sp cSp GSt :=
  R.opn_struct3 (o0 := 0) (t0 := 26) (n0 := 9) (o1 := 9) (t1 := 26) (n1 := 9) (o2 := 18) (t2 := 24) (n2 := 8) (e0 := cS) (e1 := cS) (e2 := cW) (by kernel_rfl) (by kernel_rfl) (by kernel_rfl) rfl rfl rfl (by kernel_rfl) Sp.mk (fun _ _ _ => by simp [cSp]) (fun _ _ _ _ _ _ _ => trivial)
theorem pts64 {p : Pt} {w : World} (h : GPs w p) : In64 p.x ∧ In64 p.y := by
  have h1 := bounds_i64 h.1
  have h2 := bounds_i64 h.2
  unfold In64
  omega
instance con_may7s (p : Pt) : R.ConB Tryz.prog 34 #[.agg (cPt p).toArray] Unit (fun _ _ => True) (fun _ => .bool (ptB p)) := ⟨fun _ w _ => by
  have hM := R.Own.start [] w
  refine R.calls_of_WC (fn := Tryz.f34) Tryz.func34 rfl Tryz.ntmps34 (Nat.le_of_ble_eq_true rfl) ?_
  (refine R.stepU ?_; (repeat' (first | (with_reducible refine And.intro ?_ ?_) | (with_reducible intro _))); all_goals refine R.Lft.mk ?_)
  all_goals
    refine ⟨?_, R.Own.below (by assumption)⟩
    simp [ptB, *]⟩
attribute [local irreducible] W512 digsL in
set_option maxHeartbeats 2000000 in
instance con_rnear30 (a : Sp) : R.ConB Tryz.prog 7 #[.agg (cSp a).toArray] Unit (fun _ _ => True) (fun _ => .bool (nearS a)) := ⟨fun _ w _ => by
  have hM := R.Own.start [] w
  have d1 := digsL_dig a.x.mag.n 32
  have d2 := digsL_dig a.y.mag.n 32
  have d3 := digsL_dig a.w.n 32
  have l1 := digsL_len a.x.mag.n 32
  have l2 := digsL_len a.y.mag.n 32
  have l3 := digsL_len a.w.n 32
  have e1 := digsL_whole a.x.mag
  have e2 := digsL_whole a.y.mag
  have e3 := digsL_whole a.w
  refine R.calls_of_WC (fn := Tryz.f7) Tryz.func7 rfl Tryz.ntmps7 (Nat.le_of_ble_eq_true rfl) ?_
  (refine R.stepU ?_; (repeat' (first | (with_reducible refine And.intro ?_ ?_) | (with_reducible intro _))); all_goals refine R.Lft.mk ?_)
  all_goals
    refine ⟨?_, R.Own.below (by assumption)⟩
    try simp only [e1, e2, e3] at *
    simp [nearS, *]⟩
set_option maxHeartbeats 2000000 in
instance con_rmay30 (a b : Sp) (p : Pt) : R.ConB Tryz.prog 8 #[.agg (cSp a).toArray, .agg (cSp b).toArray, .agg (cPt p).toArray] Unit (fun _ _ => True) (fun _ => .bool (lineB a b p)) := ⟨fun _ w _ => by
  have hM := R.Own.start [] w
  refine R.calls_of_WC (fn := Tryz.f8) Tryz.func8 rfl Tryz.ntmps8 (Nat.le_of_ble_eq_true rfl) ?_
  (refine R.stepU ?_; (repeat' (first | (with_reducible refine And.intro ?_ ?_) | (with_reducible intro _))); all_goals refine R.Lft.mk ?_)
  all_goals
    refine ⟨?_, R.Own.below (by assumption)⟩
    simp [lineB, *]⟩
attribute [local irreducible] W512 trimN digsL in
set_option maxHeartbeats 4000000 in
theorem f_same (x : Rt) (u : Fr) (k : Nat) (w : World) (hu : GFr k w u) (hk : k ≤ 8000) : Calls Tryz.prog 11 #[.agg (cR x).toArray, .agg (cFr u).toArray] w fun e w' => e = .returned (.bool (decide (cmpZ (x.num.z * u.q.2) (u.q.1 * (x.den.n : Int)) = 0))) ∧ Below w.heap.size w w' := by
  have hM := R.Own.start [] w
  have d1 := digsL_dig x.den.n 32
  have d3 := digsL_len x.den.n 32
  have d5 := digsL_whole x.den
  refine R.calls_of_WC (fn := Tryz.f11) Tryz.func11 rfl Tryz.ntmps11 (Nat.le_of_ble_eq_true rfl) ?_
  (refine R.stepU ?_; (repeat' (first | (with_reducible refine And.intro ?_ ?_) | (with_reducible intro _))); all_goals refine R.Lft.mk ?_)
  refine R.WC_planX [(0, false), (1, false), (3, false), (4, false), (9, false), (2, true), (5, true), (6, true), (7, false), (8, false), (10, true), (11, false), (12, false)] R.mixed (by decide +kernel) R.ohm ?_
  (refine R.stepU ?_; (repeat' (first | (with_reducible refine And.intro ?_ ?_) | (with_reducible intro _))); all_goals refine R.Lft.mk ?_)
  refine R.WO_call1 rfl rfl R.vv ?_
  refine (m_of x.num _).mono ?_
  rintro _ _ ⟨z1, rfl, hO1, r1, e1⟩
  have hM := R.Own.give1 R.ohm hO1
  refine ⟨_, rfl, ?_⟩
  (refine R.stepU ?_; (repeat' (first | (with_reducible refine And.intro ?_ ?_) | (with_reducible intro _))); all_goals refine R.Lft.mk ?_)
  rename_i A c _ hM
  refine R.WO_call1 rfl rfl R.vv ?_
  refine ((con_trim A 32 c).h (digsL x.den.n 32) _ ⟨R.Own.inp hM (.head _), d3.symm, d1, row_capN hM (.head _), by omega⟩).mono ?_
  rintro _ _ ⟨rfl, rfl⟩
  refine ⟨_, rfl, ?_⟩
  (refine R.stepU ?_; (repeat' (first | (with_reducible refine And.intro ?_ ?_) | (with_reducible intro _))); all_goals refine R.Lft.mk ?_)
  rename_i hM
  have hr : RawN 32 ⟨false, A, 32, c, digsL x.den.n 32⟩ := ⟨d3.symm, d1, Nat.le_refl _⟩
  refine R.WO_call2 rfl rfl R.vv R.vv ?_
  refine (f_cmp ⟨z1.t, (⟨false, A, 32, c, digsL x.den.n 32⟩ : Nm).t⟩ u 32 k _ ⟨GNm.of hM R.memb r1, GNm.of hM (x := ⟨false, A, 32, c, digsL x.den.n 32⟩) (.head _) hr⟩ (hu.ext (R.Own.below hM)) (by omega)).mono ?_
  rintro _ w7 ⟨he, hb7⟩
  have eq : (⟨z1.t, (⟨false, A, 32, c, digsL x.den.n 32⟩ : Nm).t⟩ : Fr).q = (x.num.z, (x.den.n : Int)) := by
    show (z1.t.z, (⟨false, A, 32, c, digsL x.den.n 32⟩ : Nm).t.z) = _
    rw [Nm.t_z, Nm.t_z, e1, nm_z, d5]
    rfl
  rw [eq] at he
  subst he
  have hM := R.Own.call hM hb7
  refine ⟨_, rfl, ?_⟩
  (refine R.stepU ?_; (repeat' (first | (with_reducible refine And.intro ?_ ?_) | (with_reducible intro _))); all_goals refine R.Lft.mk ?_; (all_goals (try (exact ⟨rfl, R.Own.below (by assumption)⟩))))
theorem IsR.same {n d : Int} {r : Rt} {q : Int × Int} (h : IsR n d r) (hd : 0 < d) (hq : q.1 * d = n * q.2) : r.num.z * q.2 = q.1 * (r.den.n : Int) := by
  refine Int.eq_of_mul_eq_mul_right (a := d) (by omega) ?_
  have h1 := h.1
  grind
end Go.Proofs.YtebgjcginmgoaaaGreat
namespace Go.Proofs.YtebgjcginmgoaaaGreat
open Go.ChangeShapes Go.WideShapes Go.ChangeAt Go.RowKit
open R (In64 InU64 lo64 nth)

theorem ne_same30 {b c : Bool} {p : Prop} (e : b = c) (h : (!(b == c)) = true) : p := by subst e; cases b <;> cases h
attribute [local irreducible] W512 trimN digsL squareR partR sgn shortB in
set_option maxHeartbeats 8000000 in
theorem farSquares_no (a b : Sp) (p : Pt) (w : World) (h1 : In64 p.x) (h2 : In64 p.y) (hl : lineB a b p = false) : Calls Tryz.prog 3 #[.agg (cSp a).toArray, .agg (cSp b).toArray, .agg (cPt p).toArray] w fun e w' => e = .returned (.bool true) ∧ Below w.heap.size w w' := by
  have hM := R.Own.start [] w
  have i1 : R.ConB Tryz.prog 4 #[.agg (cSp a).toArray, .agg (cSp b).toArray, .agg (cPt p).toArray] Unit (fun _ _ => True) (fun _ => .tuple #[.agg (cR nulR).toArray, .int .i64 1]) := ⟨fun s w _ => by
    have q := (con_fSquare a b p).h s w ⟨h1, h2⟩
    rw [show squareE a b p = 1 by unfold squareE; rw [if_neg (by rw [hl]; decide)], if_neg (by decide)] at q
    exact q⟩
  have i2 : R.ConB Tryz.prog 5 #[.agg (cSp a).toArray, .agg (cSp b).toArray, .agg (cPt p).toArray] Unit (fun _ _ => True) (fun _ => .tuple #[.agg (cR nulR).toArray, .int .i64 1]) := ⟨fun s w _ => by
    have q := (con_fPart a b p).h s w ⟨h1, h2⟩
    rw [if_neg (by rw [hl]; decide), if_neg (by rw [hl]; decide)] at q
    exact q⟩
  have i3 : R.ConB Tryz.prog 8 #[.agg (cSp a).toArray, .agg (cSp b).toArray, .agg (cPt p).toArray] Unit (fun _ _ => True) (fun _ => .bool false) := ⟨fun s w _ => by
    have q := (con_rmay30 a b p).h s w trivial
    rw [hl] at q
    exact q⟩
  refine R.calls_of_WC (fn := Tryz.f3) Tryz.func3 rfl Tryz.ntmps3 (Nat.le_of_ble_eq_true rfl) ?_
  (refine R.stepU ?_; (repeat' (first | (with_reducible refine And.intro ?_ ?_) | (with_reducible intro _))); all_goals refine R.Lft.mk ?_)
  refine R.WC_planX [(0, false), (2, false), (1, true), (3, true), (4, false)] R.mixed (by decide +kernel) R.ohm ?_
  (refine R.stepU ?_; (repeat' (first | (with_reducible refine And.intro ?_ ?_) | (with_reducible intro _))); all_goals refine R.Lft.mk ?_)
  · exact ne_same30 rfl (by assumption)
  · exact ⟨rfl, R.Own.below R.ohm⟩
theorem cmpZ_three (x y : Int) : cmpZ x y = -1 ∨ cmpZ x y = 0 ∨ cmpZ x y = 1 := by
  unfold cmpZ
  split
  · exact .inl rfl
  · split
    · exact .inr (.inl rfl)
    · exact .inr (.inr rfl)
theorem pt_bd {a b : Sp} {p : Pt} (h : NearL a b p) : (-4611686018427387904 ≤ p.x ∧ p.x ≤ 4611686018427387904) ∧ -4611686018427387904 ≤ p.y ∧ p.y ≤ 4611686018427387904 := by
  have := h.pt
  unfold ptB at this
  simp only [Bool.and_eq_true, decide_eq_true_eq] at this
  omega
attribute [local irreducible] W512 trimN digsL squareR partR sgn shortB in
set_option maxHeartbeats 8000000 in
theorem farSquares_far (a b : Sp) (p : Pt) (w : World) (h1 : In64 p.x) (h2 : In64 p.y) (hl : lineB a b p = true) (hs : shortB (squareR a b p) = false) : Calls Tryz.prog 3 #[.agg (cSp a).toArray, .agg (cSp b).toArray, .agg (cPt p).toArray] w fun e w' => e = .returned (.bool true) ∧ Below w.heap.size w w' := by
  have hM := R.Own.start [] w
  have hN := NearL.of hl
  have hl2 := hN.swap.line
  have ht := hN.turn
  obtain ⟨⟨n2, d2, hd2, hI2, hq2⟩, hf⟩ := hN.part
  obtain ⟨hx, hy⟩ := pt_bd hN
  have i1 : R.ConB Tryz.prog 4 #[.agg (cSp a).toArray, .agg (cSp b).toArray, .agg (cPt p).toArray] Unit (fun _ _ => True) (fun _ => .tuple #[.agg (cR nulR).toArray, .int .i64 6]) := ⟨fun s w _ => by
    have q := (con_fSquare a b p).h s w ⟨h1, h2⟩
    rw [show squareE a b p = 6 by unfold squareE; rw [if_pos hl, if_neg (by rw [hs]; decide)], if_neg (by decide)] at q
    exact q⟩
  have i1b : R.ConB Tryz.prog 4 #[.agg (cSp b).toArray, .agg (cSp a).toArray, .agg (cPt p).toArray] Unit (fun _ _ => True) (fun _ => .tuple #[.agg (cR nulR).toArray, .int .i64 6]) := ⟨fun s w _ => by
    have q := (con_fSquare b a p).h s w ⟨h1, h2⟩
    rw [show squareE b a p = 6 by unfold squareE; rw [if_pos hl2, ht, if_neg (by rw [hs]; decide)], if_neg (by decide)] at q
    exact q⟩
  have i2 : R.ConB Tryz.prog 5 #[.agg (cSp a).toArray, .agg (cSp b).toArray, .agg (cPt p).toArray] Unit (fun _ _ => True) (fun _ => .tuple #[.agg (cR (partR a b p)).toArray, .int .i64 0]) := ⟨fun s w _ => by
    have q := (con_fPart a b p).h s w ⟨h1, h2⟩
    rw [if_pos hl, if_pos hl, hf] at q
    exact q⟩
  have i3 : R.ConB Tryz.prog 8 #[.agg (cSp a).toArray, .agg (cSp b).toArray, .agg (cPt p).toArray] Unit (fun _ _ => True) (fun _ => .bool true) := ⟨fun s w _ => by
    have q := (con_rmay30 a b p).h s w trivial
    rw [hl] at q
    exact q⟩
  have i4 : R.ConB Tryz.prog 10 #[.agg (cR (partR a b p)).toArray] Unit (fun _ _ => True) (fun _ => .bool true) := ⟨fun s w _ => by
    have q := (con_terms6 (partR a b p)).h s w trivial
    rw [hI2.terms] at q
    exact q⟩
  refine R.calls_of_WC (fn := Tryz.f3) Tryz.func3 rfl Tryz.ntmps3 (Nat.le_of_ble_eq_true rfl) ?_
  (refine R.stepU ?_; (repeat' (first | (with_reducible refine And.intro ?_ ?_) | (with_reducible intro _))); all_goals refine R.Lft.mk ?_)
  refine R.WC_planX [(0, false), (2, false), (1, true), (3, true), (4, false)] R.mixed (by decide +kernel) R.ohm ?_
  (refine R.stepU ?_; (repeat' (first | (with_reducible refine And.intro ?_ ?_) | (with_reducible intro _))); all_goals refine R.Lft.mk ?_)
  · exact ne_same30 rfl (by assumption)
  · refine R.WC_planX [(0, false), (1, false), (2, false), (3, false), (4, true), (5, false), (6, false), (7, false), (8, false), (9, false), (10, false), (11, false), (12, true), (13, true), (14, false), (15, false)] R.mixed (by decide +kernel) R.ohm ?_
    (refine R.stepU ?_; (repeat' (first | (with_reducible refine And.intro ?_ ?_) | (with_reducible intro _))); all_goals refine R.Lft.mk ?_)
    refine R.WO_call3 rfl rfl R.vv R.vv R.vv ?_
    refine (f_part a b p hx hy _).mono ?_
    rintro _ _ ⟨z, rfl, hO, hz, ez⟩
    have hM := R.Own.give2 R.ohm hO
    refine ⟨_, rfl, ?_⟩
    (refine R.stepU ?_; (repeat' (first | (with_reducible refine And.intro ?_ ?_) | (with_reducible intro _))); all_goals refine R.Lft.mk ?_)
    refine R.WO_call2 rfl rfl R.vv R.vv ?_
    refine (f_same (partR a b p) z.t 522 _ (GFr.of R.ohm R.memb R.memb hz) (by decide)).mono ?_
    rintro _ _ ⟨he, hb⟩
    rw [Fr.t_q, ez, hI2.same hd2 hq2, cmpZ_self, decide_eq_true rfl] at he
    subst he
    have hM := R.Own.call R.ohm hb
    refine ⟨_, rfl, ?_⟩
    (refine R.stepU ?_; (repeat' (first | (with_reducible refine And.intro ?_ ?_) | (with_reducible intro _))); all_goals refine R.Lft.mk ?_)
    exact ⟨rfl, R.Own.below R.ohm⟩
attribute [local irreducible] W512 trimN digsL squareR partR sgn shortB in
set_option maxHeartbeats 16000000 in
theorem farSquares_in (a b : Sp) (p : Pt) (w : World) (h1 : In64 p.x) (h2 : In64 p.y) (hl : lineB a b p = true) (hs : shortB (squareR a b p) = true) : Calls Tryz.prog 3 #[.agg (cSp a).toArray, .agg (cSp b).toArray, .agg (cPt p).toArray] w fun e w' => e = .returned (.bool true) ∧ Below w.heap.size w w' := by
  have hM := R.Own.start [] w
  have hN := NearL.of hl
  have hl2 := hN.swap.line
  have ht := hN.turn
  have hend := (lineL a b p).end_le hN.aw hN.bw hN.Dpos
  obtain ⟨⟨n2, d2, hd2, hI2, hq2⟩, hf⟩ := hN.part
  obtain ⟨n3, d3, hd3, hI3, hq3⟩ := hN.square
  obtain ⟨hx, hy⟩ := pt_bd hN
  have h64 : In64 p.x ∧ In64 p.y := ⟨h1, h2⟩
  have i1 : R.ConB Tryz.prog 4 #[.agg (cSp a).toArray, .agg (cSp b).toArray, .agg (cPt p).toArray] Unit (fun _ _ => True) (fun _ => .tuple #[.agg (cR (squareR a b p)).toArray, .int .i64 0]) := ⟨fun s w _ => by
    have q := (con_fSquare a b p).h s w ⟨h1, h2⟩
    rw [show squareE a b p = 0 by unfold squareE; rw [if_pos hl, if_pos hs], if_pos rfl] at q
    exact q⟩
  have i1b : R.ConB Tryz.prog 4 #[.agg (cSp b).toArray, .agg (cSp a).toArray, .agg (cPt p).toArray] Unit (fun _ _ => True) (fun _ => .tuple #[.agg (cR (squareR a b p)).toArray, .int .i64 0]) := ⟨fun s w _ => by
    have q := (con_fSquare b a p).h s w ⟨h1, h2⟩
    rw [show squareE b a p = 0 by unfold squareE; rw [if_pos hl2, ht, if_pos hs], if_pos rfl, ht] at q
    exact q⟩
  have i2 : R.ConB Tryz.prog 5 #[.agg (cSp a).toArray, .agg (cSp b).toArray, .agg (cPt p).toArray] Unit (fun _ _ => True) (fun _ => .tuple #[.agg (cR (partR a b p)).toArray, .int .i64 0]) := ⟨fun s w _ => by
    have q := (con_fPart a b p).h s w ⟨h1, h2⟩
    rw [if_pos hl, if_pos hl, hf] at q
    exact q⟩
  have i3 : R.ConB Tryz.prog 8 #[.agg (cSp a).toArray, .agg (cSp b).toArray, .agg (cPt p).toArray] Unit (fun _ _ => True) (fun _ => .bool true) := ⟨fun s w _ => by
    have q := (con_rmay30 a b p).h s w trivial
    rw [hl] at q
    exact q⟩
  have i4 : R.ConB Tryz.prog 10 #[.agg (cR (partR a b p)).toArray] Unit (fun _ _ => True) (fun _ => .bool true) := ⟨fun s w _ => by
    have q := (con_terms6 (partR a b p)).h s w trivial
    rw [hI2.terms] at q
    exact q⟩
  have i5 : R.ConB Tryz.prog 10 #[.agg (cR (squareR a b p)).toArray] Unit (fun _ _ => True) (fun _ => .bool true) := ⟨fun s w _ => by
    have q := (con_terms6 (squareR a b p)).h s w trivial
    rw [hI3.terms] at q
    exact q⟩
  have i6 : R.ConB Tryz.prog 20 #[.agg (cR (squareR a b p)).toArray] Unit (fun _ _ => True) (fun _ => .bool false) := ⟨fun s w _ => by
    have q := (con_long30 (squareR a b p)).h s w trivial
    rw [hs] at q
    exact q⟩
  refine R.calls_of_WC (fn := Tryz.f3) Tryz.func3 rfl Tryz.ntmps3 (Nat.le_of_ble_eq_true rfl) ?_
  (refine R.stepU ?_; (repeat' (first | (with_reducible refine And.intro ?_ ?_) | (with_reducible intro _))); all_goals refine R.Lft.mk ?_)
  rename_i ga _ _ gb _ _ gp _ _ _ _ g7 _ _ _ _ _ _ g9 _ _ _ hM
  refine R.WC_planX [(0, false), (2, false), (1, true), (3, true), (4, false)] R.mixed (by decide +kernel) R.ohm ?_
  (refine R.stepU ?_; (repeat' (first | (with_reducible refine And.intro ?_ ?_) | (with_reducible intro _))); all_goals refine R.Lft.mk ?_)
  · exact ne_same30 rfl (by assumption)
  · refine R.WC_planX [(0, false), (1, false), (2, false), (3, false), (4, true), (5, false), (6, false), (7, false), (8, false), (9, false), (10, false), (11, false), (12, true), (13, true), (14, false), (15, false)] R.mixed (by decide +kernel) R.ohm ?_
    (refine R.stepU ?_; (repeat' (first | (with_reducible refine And.intro ?_ ?_) | (with_reducible intro _))); all_goals refine R.Lft.mk ?_)
    refine R.WO_call3 rfl rfl R.vv R.vv R.vv ?_
    refine (f_part a b p hx hy _).mono ?_
    rintro _ w3 ⟨z, rfl, hO, hz, ez⟩
    have hM := R.Own.give2 R.ohm hO
    refine ⟨_, rfl, ?_⟩
    (refine R.stepU ?_; (repeat' (first | (with_reducible refine And.intro ?_ ?_) | (with_reducible intro _))); all_goals refine R.Lft.mk ?_)
    refine R.WO_call2 rfl rfl R.vv R.vv ?_
    refine (f_same (partR a b p) z.t 522 _ (GFr.of R.ohm R.memb R.memb hz) (by decide)).mono ?_
    rintro _ w4 ⟨he, hb⟩
    rw [Fr.t_q, ez, hI2.same hd2 hq2, cmpZ_self, decide_eq_true rfl] at he
    subst he
    have hM := R.Own.call R.ohm hb
    refine ⟨_, rfl, ?_⟩
    (refine R.stepU ?_; (repeat' (first | (with_reducible refine And.intro ?_ ?_) | (with_reducible intro _))); all_goals refine R.Lft.mk ?_)
    rename_i g11 _ _ _ hM
    refine R.WO_call3 rfl rfl R.vv R.vv R.vv ?_
    refine (f_square a b p hx hy _).mono ?_
    rintro _ w5 ⟨zs, rfl, hOs, hzs, ezs⟩
    have hM := R.Own.give2 R.ohm hOs
    refine ⟨_, rfl, ?_⟩
    (refine R.stepU ?_; (repeat' (first | (with_reducible refine And.intro ?_ ?_) | (with_reducible intro _))); all_goals refine R.Lft.mk ?_)
    rename_i g13 _ _ _ hM
    have hM : R.Own [] w _ [.blk g13 45 (cFr zs.t), rowN zs.n, rowN zs.d, .blk g11 32 (cR (squareR a b p)), .blk g7 32 (cR (squareR a b p)), .blk gp 30 (cPt p), .blk ga 28 (cSp a)] := R.Own.sub hM R.subl
    clear hz ez hO hb
    refine R.WC_planF ((.q 0 (.q 2 (.q 6 (.q 8 (R.tr2 12 13 (.e 14 (.e 15 .nil)) [1, 3, 4, 5, 7, 9, 10, 11])))))) R.mixed (by decide +kernel) R.ohm ?_
    (refine R.stepU ?_; (repeat' (first | (with_reducible refine And.intro ?_ ?_) | (with_reducible intro _))); all_goals refine R.Lft.mk ?_)
    refine R.chain2 (F := []) (base := [.blk g13 45 (cFr zs.t), rowN zs.n, rowN zs.d, .blk g11 32 (cR (squareR a b p)), .blk g7 32 (cR (squareR a b p)), .blk gp 30 (cPt p), .blk ga 28 (cSp a)]) (Pz := (fun (k : Nat) (zs : R.Zs) => match k with
          | 0 => zs = []
          | 1 => ∃ z0 : Fr, zs = [(105, .agg (cFr z0.t).toArray, [rowN z0.n, rowN z0.d])] ∧ IsF 32 z0 (a.x.z, (a.w.n : Int))
          | 2 => ∃ z0 : Fr, zs = [(107, .agg (cSp (atS p.x p.y)).toArray, []), (105, .agg (cFr z0.t).toArray, [rowN z0.n, rowN z0.d])] ∧ IsF 32 z0 (a.x.z, (a.w.n : Int))
          | 3 => ∃ z0 z2 : Fr, zs = [(108, .agg (cFr z2.t).toArray, [rowN z2.n, rowN z2.d]), (107, .agg (cSp (atS p.x p.y)).toArray, []), (105, .agg (cFr z0.t).toArray, [rowN z0.n, rowN z0.d])] ∧ IsF 32 z0 (a.x.z, (a.w.n : Int)) ∧ IsF 32 z2 ((atS p.x p.y).x.z, ((atS p.x p.y).w.n : Int))
          | 4 => ∃ z0 z2 z3 : Fr, zs = [(109, .agg (cFr z3.t).toArray, [rowN z3.n, rowN z3.d]), (108, .agg (cFr z2.t).toArray, [rowN z2.n, rowN z2.d]), (107, .agg (cSp (atS p.x p.y)).toArray, []), (105, .agg (cFr z0.t).toArray, [rowN z0.n, rowN z0.d])] ∧ IsF 32 z0 (a.x.z, (a.w.n : Int)) ∧ IsF 32 z2 ((atS p.x p.y).x.z, ((atS p.x p.y).w.n : Int)) ∧ IsF 65 z3 (qSub (a.x.z, (a.w.n : Int)) ((atS p.x p.y).x.z, ((atS p.x p.y).w.n : Int)))
          | 5 => ∃ z0 z2 z3 z4 : Fr, zs = [(111, .agg (cFr z4.t).toArray, [rowN z4.n, rowN z4.d]), (109, .agg (cFr z3.t).toArray, [rowN z3.n, rowN z3.d]), (108, .agg (cFr z2.t).toArray, [rowN z2.n, rowN z2.d]), (107, .agg (cSp (atS p.x p.y)).toArray, []), (105, .agg (cFr z0.t).toArray, [rowN z0.n, rowN z0.d])] ∧ IsF 32 z0 (a.x.z, (a.w.n : Int)) ∧ IsF 32 z2 ((atS p.x p.y).x.z, ((atS p.x p.y).w.n : Int)) ∧ IsF 65 z3 (qSub (a.x.z, (a.w.n : Int)) ((atS p.x p.y).x.z, ((atS p.x p.y).w.n : Int))) ∧ IsF 32 z4 (a.y.z, (a.w.n : Int))
          | 6 => ∃ z0 z2 z3 z4 : Fr, zs = [(113, .agg (cSp (atS p.x p.y)).toArray, []), (111, .agg (cFr z4.t).toArray, [rowN z4.n, rowN z4.d]), (109, .agg (cFr z3.t).toArray, [rowN z3.n, rowN z3.d]), (108, .agg (cFr z2.t).toArray, [rowN z2.n, rowN z2.d]), (107, .agg (cSp (atS p.x p.y)).toArray, []), (105, .agg (cFr z0.t).toArray, [rowN z0.n, rowN z0.d])] ∧ IsF 32 z0 (a.x.z, (a.w.n : Int)) ∧ IsF 32 z2 ((atS p.x p.y).x.z, ((atS p.x p.y).w.n : Int)) ∧ IsF 65 z3 (qSub (a.x.z, (a.w.n : Int)) ((atS p.x p.y).x.z, ((atS p.x p.y).w.n : Int))) ∧ IsF 32 z4 (a.y.z, (a.w.n : Int))
          | 7 => ∃ z0 z2 z3 z4 z6 : Fr, zs = [(114, .agg (cFr z6.t).toArray, [rowN z6.n, rowN z6.d]), (113, .agg (cSp (atS p.x p.y)).toArray, []), (111, .agg (cFr z4.t).toArray, [rowN z4.n, rowN z4.d]), (109, .agg (cFr z3.t).toArray, [rowN z3.n, rowN z3.d]), (108, .agg (cFr z2.t).toArray, [rowN z2.n, rowN z2.d]), (107, .agg (cSp (atS p.x p.y)).toArray, []), (105, .agg (cFr z0.t).toArray, [rowN z0.n, rowN z0.d])] ∧ IsF 32 z0 (a.x.z, (a.w.n : Int)) ∧ IsF 32 z2 ((atS p.x p.y).x.z, ((atS p.x p.y).w.n : Int)) ∧ IsF 65 z3 (qSub (a.x.z, (a.w.n : Int)) ((atS p.x p.y).x.z, ((atS p.x p.y).w.n : Int))) ∧ IsF 32 z4 (a.y.z, (a.w.n : Int)) ∧ IsF 32 z6 ((atS p.x p.y).y.z, ((atS p.x p.y).w.n : Int))
          | 8 => ∃ z0 z2 z3 z4 z6 z7 : Fr, zs = [(115, .agg (cFr z7.t).toArray, [rowN z7.n, rowN z7.d]), (114, .agg (cFr z6.t).toArray, [rowN z6.n, rowN z6.d]), (113, .agg (cSp (atS p.x p.y)).toArray, []), (111, .agg (cFr z4.t).toArray, [rowN z4.n, rowN z4.d]), (109, .agg (cFr z3.t).toArray, [rowN z3.n, rowN z3.d]), (108, .agg (cFr z2.t).toArray, [rowN z2.n, rowN z2.d]), (107, .agg (cSp (atS p.x p.y)).toArray, []), (105, .agg (cFr z0.t).toArray, [rowN z0.n, rowN z0.d])] ∧ IsF 32 z0 (a.x.z, (a.w.n : Int)) ∧ IsF 32 z2 ((atS p.x p.y).x.z, ((atS p.x p.y).w.n : Int)) ∧ IsF 65 z3 (qSub (a.x.z, (a.w.n : Int)) ((atS p.x p.y).x.z, ((atS p.x p.y).w.n : Int))) ∧ IsF 32 z4 (a.y.z, (a.w.n : Int)) ∧ IsF 32 z6 ((atS p.x p.y).y.z, ((atS p.x p.y).w.n : Int)) ∧ IsF 65 z7 (qSub (a.y.z, (a.w.n : Int)) ((atS p.x p.y).y.z, ((atS p.x p.y).w.n : Int)))
          | _ => False)) (sl0 := [(7, .pointer (some ⟨g7, 0, none⟩)), (11, .pointer (some ⟨g11, 0, none⟩)), (12, .int .i64 0), (13, .pointer (some ⟨g13, 0, none⟩)), (104, .agg (cSp a).toArray), (106, .agg (cPt p).toArray), (110, .agg (cSp a).toArray), (112, .agg (cPt p).toArray)]) (da := 14) (db := 15) rfl rfl rfl rfl (by decide) [(1, 105), (3, 107), (4, 108), (5, 109), (7, 111), (9, 113), (10, 114), (11, 115)] 0 [7, 11, 12, 13, 104, 106, 110, 112] [] _ _ ?hC ?hS (by decide) (by decide) ?hr
    case hS => exact ⟨rfl, R.keys_of rfl, (fun p hp => by cases hp), ⟨rfl, rfl, rfl, rfl, rfl, rfl, rfl, rfl, trivial⟩, R.ohm⟩
    case hC =>
      refine ⟨⟨_, _, _, _, rfl, rfl, (by decide), ?_⟩, ⟨_, _, _, _, rfl, rfl, (by decide), ?_⟩, ⟨_, _, _, _, rfl, rfl, (by decide), ?_⟩, ⟨_, _, _, _, rfl, rfl, (by decide), ?_⟩, ⟨_, _, _, _, rfl, rfl, (by decide), ?_⟩, ⟨_, _, _, _, rfl, rfl, (by decide), ?_⟩, ⟨_, _, _, _, rfl, rfl, (by decide), ?_⟩, ⟨_, _, _, _, rfl, rfl, (by decide), ?_⟩, trivial⟩
      · rintro zs Y X f w0 hP hO
        obtain rfl := hP
        refine R.WO_call1 rfl rfl R.vv ?_
        refine (f_first a _).mono ?_
        rintro _ w1 ⟨z0, rfl, hO1, r, e⟩
        exact ⟨_, rfl, _, ⟨z0, rfl, r, e⟩, R.Own.give2 hO hO1⟩
      · rintro zs Y X f w0 hP hO
        obtain ⟨z0, rfl, h0⟩ := hP
        refine R.WO_call1 rfl rfl R.vv ?_
        refine (at10 p.x p.y h64.1 h64.2 _).mono ?_
        rintro _ w1 ⟨rfl, hb⟩
        exact ⟨_, rfl, [], ⟨z0, rfl, h0⟩, R.Own.call hO hb⟩
      · rintro zs Y X f w0 hP hO
        obtain ⟨z0, rfl, h0⟩ := hP
        refine R.WO_call1 rfl rfl R.vv ?_
        refine (f_first (atS p.x p.y) _).mono ?_
        rintro _ w1 ⟨z2, rfl, hO1, r, e⟩
        exact ⟨_, rfl, _, ⟨z0, z2, rfl, h0, r, e⟩, R.Own.give2 hO hO1⟩
      · rintro zs Y X f w0 hP hO
        obtain ⟨z0, z2, rfl, h0, h2⟩ := hP
        refine R.WO_call2 rfl rfl R.vv R.vv ?_
        refine (f_minus z0.t z2.t 32 32 _ (GFr.of hO (.tail _ (.tail _ (.head _))) (.tail _ (.tail _ (.tail _ (.head _)))) h0.1) (GFr.of hO (.head _) (.tail _ (.head _)) h2.1) (by decide)).mono ?_
        rintro _ w1 ⟨z3, rfl, hO1, r, e⟩
        exact ⟨_, rfl, _, ⟨z0, z2, z3, rfl, h0, h2, r, by rw [e]; simp only [Fr.t_q, h0.2, h2.2]⟩, R.Own.give2 hO hO1⟩
      · rintro zs Y X f w0 hP hO
        obtain ⟨z0, z2, z3, rfl, h0, h2, h3⟩ := hP
        refine R.WO_call1 rfl rfl R.vv ?_
        refine (f_second a _).mono ?_
        rintro _ w1 ⟨z4, rfl, hO1, r, e⟩
        exact ⟨_, rfl, _, ⟨z0, z2, z3, z4, rfl, h0, h2, h3, r, e⟩, R.Own.give2 hO hO1⟩
      · rintro zs Y X f w0 hP hO
        obtain ⟨z0, z2, z3, z4, rfl, h0, h2, h3, h4⟩ := hP
        refine R.WO_call1 rfl rfl R.vv ?_
        refine (at10 p.x p.y h64.1 h64.2 _).mono ?_
        rintro _ w1 ⟨rfl, hb⟩
        exact ⟨_, rfl, [], ⟨z0, z2, z3, z4, rfl, h0, h2, h3, h4⟩, R.Own.call hO hb⟩
      · rintro zs Y X f w0 hP hO
        obtain ⟨z0, z2, z3, z4, rfl, h0, h2, h3, h4⟩ := hP
        refine R.WO_call1 rfl rfl R.vv ?_
        refine (f_second (atS p.x p.y) _).mono ?_
        rintro _ w1 ⟨z6, rfl, hO1, r, e⟩
        exact ⟨_, rfl, _, ⟨z0, z2, z3, z4, z6, rfl, h0, h2, h3, h4, r, e⟩, R.Own.give2 hO hO1⟩
      · rintro zs Y X f w0 hP hO
        obtain ⟨z0, z2, z3, z4, z6, rfl, h0, h2, h3, h4, h6⟩ := hP
        refine R.WO_call2 rfl rfl R.vv R.vv ?_
        refine (f_minus z4.t z6.t 32 32 _ (GFr.of hO (.tail _ (.tail _ (.head _))) (.tail _ (.tail _ (.tail _ (.head _)))) h4.1) (GFr.of hO (.head _) (.tail _ (.head _)) h6.1) (by decide)).mono ?_
        rintro _ w1 ⟨z7, rfl, hO1, r, e⟩
        exact ⟨_, rfl, _, ⟨z0, z2, z3, z4, z6, z7, rfl, h0, h2, h3, h4, h6, r, by rw [e]; simp only [Fr.t_q, h4.2, h6.2]⟩, R.Own.give2 hO hO1⟩
    case hr =>
      rintro zsy gx gy f w0 ⟨z0, z2, z3, z4, z6, z7, rfl, h0, h2, h3, h4, h6, h7⟩ hA hO
      rw [← R.over_agrees hA]
      clear hA
      have hM : R.Own [] w _ [rowN z7.n, rowN z7.d, rowN z6.n, rowN z6.d, rowN z4.n, rowN z4.d, rowN z3.n, rowN z3.d, rowN z2.n, rowN z2.d, rowN z0.n, rowN z0.d, .blk g13 45 (cFr zs.t), rowN zs.n, rowN zs.d, .blk g11 32 (cR (squareR a b p)), .blk g7 32 (cR (squareR a b p)), .blk gp 30 (cPt p), .blk ga 28 (cSp a), .blk gx 45 [.bool false, .slice none 0 0, .bool false, .slice none 0 0], .blk gy 45 [.bool false, .slice none 0 0, .bool false, .slice none 0 0]] := hO
      clear hO
      have hM := R.pk (r := .blk gy _ _) (R.pk (r := .blk gx _ _) hM)
      (refine R.stepU ?_; (repeat' (first | (with_reducible refine And.intro ?_ ?_) | (with_reducible intro _))); all_goals refine R.Lft.mk ?_)
      refine ⟨R.Own.sub R.ohm R.subl, ?_⟩
      (refine R.stepU ?_; (repeat' (first | (with_reducible refine And.intro ?_ ?_) | (with_reducible intro _))); all_goals refine R.Lft.mk ?_)
      rename_i hM
      clear h0 h2 h4 h6
      have hM : R.Own [] w _ [.blk gy 45 (cFr z7.t), .blk gx 45 (cFr z3.t), rowN z7.n, rowN z7.d, rowN z3.n, rowN z3.d, .blk g13 45 (cFr zs.t), rowN zs.n, rowN zs.d, .blk g11 32 (cR (squareR a b p)), .blk g7 32 (cR (squareR a b p))] := R.Own.sub hM R.subl
      refine R.WC_planF ((.q 0 (.q 1 (.q 3 (.q 4 (R.tr1 7 (.e 8 .nil) [2, 5, 6])))))) R.mixed (by decide +kernel) R.ohm ?_
      (refine R.stepU ?_; (repeat' (first | (with_reducible refine And.intro ?_ ?_) | (with_reducible intro _))); all_goals refine R.Lft.mk ?_)
      refine R.chain1 (F := []) (base := [.blk gy 45 (cFr z7.t), .blk gx 45 (cFr z3.t), rowN z7.n, rowN z7.d, rowN z3.n, rowN z3.d, .blk g13 45 (cFr zs.t), rowN zs.n, rowN zs.d, .blk g11 32 (cR (squareR a b p)), .blk g7 32 (cR (squareR a b p))]) (Pz := (fun (k : Nat) (zs : R.Zs) => match k with
            | 0 => zs = []
            | 1 => ∃ z0 : Fr, zs = [(118, .agg (cFr z0.t).toArray, [rowN z0.n, rowN z0.d])] ∧ IsF 130 z0 (qMul (qSub (a.x.z, (a.w.n : Int)) ((atS p.x p.y).x.z, ((atS p.x p.y).w.n : Int))) (qSub (a.x.z, (a.w.n : Int)) ((atS p.x p.y).x.z, ((atS p.x p.y).w.n : Int))))
            | 2 => ∃ z0 z1 : Fr, zs = [(121, .agg (cFr z1.t).toArray, [rowN z1.n, rowN z1.d]), (118, .agg (cFr z0.t).toArray, [rowN z0.n, rowN z0.d])] ∧ IsF 130 z0 (qMul (qSub (a.x.z, (a.w.n : Int)) ((atS p.x p.y).x.z, ((atS p.x p.y).w.n : Int))) (qSub (a.x.z, (a.w.n : Int)) ((atS p.x p.y).x.z, ((atS p.x p.y).w.n : Int)))) ∧ IsF 130 z1 (qMul (qSub (a.y.z, (a.w.n : Int)) ((atS p.x p.y).y.z, ((atS p.x p.y).w.n : Int))) (qSub (a.y.z, (a.w.n : Int)) ((atS p.x p.y).y.z, ((atS p.x p.y).w.n : Int))))
            | 3 => ∃ z0 z1 z2 : Fr, zs = [(122, .agg (cFr z2.t).toArray, [rowN z2.n, rowN z2.d]), (121, .agg (cFr z1.t).toArray, [rowN z1.n, rowN z1.d]), (118, .agg (cFr z0.t).toArray, [rowN z0.n, rowN z0.d])] ∧ IsF 130 z0 (qMul (qSub (a.x.z, (a.w.n : Int)) ((atS p.x p.y).x.z, ((atS p.x p.y).w.n : Int))) (qSub (a.x.z, (a.w.n : Int)) ((atS p.x p.y).x.z, ((atS p.x p.y).w.n : Int)))) ∧ IsF 130 z1 (qMul (qSub (a.y.z, (a.w.n : Int)) ((atS p.x p.y).y.z, ((atS p.x p.y).w.n : Int))) (qSub (a.y.z, (a.w.n : Int)) ((atS p.x p.y).y.z, ((atS p.x p.y).w.n : Int)))) ∧ IsF 261 z2 (qAdd (qMul (qSub (a.x.z, (a.w.n : Int)) ((atS p.x p.y).x.z, ((atS p.x p.y).w.n : Int))) (qSub (a.x.z, (a.w.n : Int)) ((atS p.x p.y).x.z, ((atS p.x p.y).w.n : Int)))) (qMul (qSub (a.y.z, (a.w.n : Int)) ((atS p.x p.y).y.z, ((atS p.x p.y).w.n : Int))) (qSub (a.y.z, (a.w.n : Int)) ((atS p.x p.y).y.z, ((atS p.x p.y).w.n : Int)))))
            | _ => False)) (sl0 := [(7, .pointer (some ⟨g7, 0, none⟩)), (11, .pointer (some ⟨g11, 0, none⟩)), (12, .int .i64 0), (13, .pointer (some ⟨g13, 0, none⟩)), (14, .pointer (some ⟨gx, 0, none⟩)), (15, .pointer (some ⟨gy, 0, none⟩)), (116, .agg (cFr z3.t).toArray), (117, .agg (cFr z3.t).toArray), (119, .agg (cFr z7.t).toArray), (120, .agg (cFr z7.t).toArray)]) (da := 16) (db := 1000000) (Y := []) (X := []) rfl rfl (.inl rfl) (fun p hp => by cases hp) [(2, 118), (5, 121), (6, 122)] 0 [7, 11, 12, 13, 14, 15, 116, 117, 119, 120] [] _ _ ?hC ?hS (by decide) ?hr
      case hS => exact ⟨rfl, R.keys_of rfl, (fun p hp => by cases hp), ⟨rfl, rfl, rfl, rfl, rfl, rfl, rfl, rfl, rfl, rfl, trivial⟩, R.ohm⟩
      case hC =>
        refine ⟨⟨_, _, _, _, rfl, rfl, (by decide), ?_⟩, ⟨_, _, _, _, rfl, rfl, (by decide), ?_⟩, ⟨_, _, _, _, rfl, rfl, (by decide), ?_⟩, trivial⟩
        · rintro zs Y X f w0 hP hO
          obtain rfl := hP
          refine R.WO_call2 rfl rfl R.vv R.vv ?_
          refine (f_times z3.t z3.t 65 65 _ (GFr.of hO (.tail _ (.tail _ (.tail _ (.tail _ (.head _))))) (.tail _ (.tail _ (.tail _ (.tail _ (.tail _ (.head _)))))) h3.1) (GFr.of hO (.tail _ (.tail _ (.tail _ (.tail _ (.head _))))) (.tail _ (.tail _ (.tail _ (.tail _ (.tail _ (.head _)))))) h3.1) (by decide)).mono ?_
          rintro _ w1 ⟨z0, rfl, hO1, r, e⟩
          exact ⟨_, rfl, _, ⟨z0, rfl, r, by rw [e]; simp only [Fr.t_q, h3.2]⟩, R.Own.give2 hO hO1⟩
        · rintro zs Y X f w0 hP hO
          obtain ⟨z0, rfl, h0⟩ := hP
          refine R.WO_call2 rfl rfl R.vv R.vv ?_
          refine (f_times z7.t z7.t 65 65 _ (GFr.of hO (.tail _ (.tail _ (.tail _ (.tail _ (.head _))))) (.tail _ (.tail _ (.tail _ (.tail _ (.tail _ (.head _)))))) h7.1) (GFr.of hO (.tail _ (.tail _ (.tail _ (.tail _ (.head _))))) (.tail _ (.tail _ (.tail _ (.tail _ (.tail _ (.head _)))))) h7.1) (by decide)).mono ?_
          rintro _ w1 ⟨z1, rfl, hO1, r, e⟩
          exact ⟨_, rfl, _, ⟨z0, z1, rfl, h0, r, by rw [e]; simp only [Fr.t_q, h7.2]⟩, R.Own.give2 hO hO1⟩
        · rintro zs Y X f w0 hP hO
          obtain ⟨z0, z1, rfl, h0, h1⟩ := hP
          refine R.WO_call2 rfl rfl R.vv R.vv ?_
          refine (f_plus z0.t z1.t 130 130 _ (GFr.of hO (.tail _ (.tail _ (.head _))) (.tail _ (.tail _ (.tail _ (.head _)))) h0.1) (GFr.of hO (.head _) (.tail _ (.head _)) h1.1) (by decide)).mono ?_
          rintro _ w1 ⟨z2, rfl, hO1, r, e⟩
          exact ⟨_, rfl, _, ⟨z0, z1, z2, rfl, h0, h1, r, by rw [e]; simp only [Fr.t_q, h0.2, h1.2]⟩, R.Own.give2 hO hO1⟩
      case hr =>
        rintro zsx gz f w0 ⟨z0, z1, z2, rfl, h0, h1, h2⟩ hA hO
        rw [← R.over_agrees hA]
        clear hA
        have hM : R.Own [] w _ [rowN z2.n, rowN z2.d, rowN z1.n, rowN z1.d, rowN z0.n, rowN z0.d, .blk gy 45 (cFr z7.t), .blk gx 45 (cFr z3.t), rowN z7.n, rowN z7.d, rowN z3.n, rowN z3.d, .blk g13 45 (cFr zs.t), rowN zs.n, rowN zs.d, .blk g11 32 (cR (squareR a b p)), .blk g7 32 (cR (squareR a b p)), .blk gz 45 [.bool false, .slice none 0 0, .bool false, .slice none 0 0]] := hO
        clear hO
        have hM := R.pk (r := .blk gx _ _) hM
        clear h0 h1
        have hq : z2.q = (lineL a b p).endQ := by
          rw [h2.2]
          have e1 : (atS p.x p.y).x.z = p.x := lz_ (by unfold In64 at h64; omega)
          have e2 : (atS p.x p.y).y.z = p.y := lz_ (by unfold In64 at h64; omega)
          have e3 : (((atS p.x p.y).w.n : Nat) : Int) = 1 := by
            have : (atS p.x p.y).w.n = 1 := wlx (by decide)
            omega
          rw [e1, e2, e3]
          rfl
        (refine R.stepU ?_; (repeat' (first | (with_reducible refine And.intro ?_ ?_) | (with_reducible intro _))); all_goals refine R.Lft.mk ?_)
        refine R.WO_call2 rfl rfl R.vv R.vv ?_
        refine (f_same (squareR a b p) zs.t 2613 _ (GFr.of R.ohm R.memb R.memb hzs) (by decide)).mono ?_
        rintro _ w6 ⟨he, hb⟩
        rw [Fr.t_q, ezs, hI3.same hd3 hq3, cmpZ_self, decide_eq_true rfl] at he
        subst he
        have hM := R.Own.call R.ohm hb
        refine ⟨_, rfl, ?_⟩
        (refine R.stepU ?_; (repeat' (first | (with_reducible refine And.intro ?_ ?_) | (with_reducible intro _))); all_goals refine R.Lft.mk ?_)
        rotate_left
        · exact absurd rfl (by assumption)
        refine R.WO_call2 rfl rfl R.vv R.vv ?_
        refine (f_cmp zs.t z2.t 2613 261 _ (GFr.of R.ohm R.memb R.memb hzs) (GFr.of R.ohm R.memb R.memb h2.1) (by decide)).mono ?_
        rintro _ w7 ⟨he, hb7⟩
        rw [Fr.t_q, Fr.t_q, ezs, hq] at he
        obtain ⟨s2, hs2⟩ : ∃ s2, cmpZ ((lineL a b p).squareQ.1 * (lineL a b p).endQ.2) ((lineL a b p).endQ.1 * (lineL a b p).squareQ.2) = s2 := ⟨_, rfl⟩
        have hle : s2 ≤ 0 := by rw [← hs2]; exact cmpZ_le0.2 hend
        rw [hs2] at he
        subst he
        have hM := R.Own.call R.ohm hb7
        have h3 := cmpZ_three ((lineL a b p).squareQ.1 * (lineL a b p).endQ.2) ((lineL a b p).endQ.1 * (lineL a b p).squareQ.2)
        rw [hs2] at h3
        clear hs2
        rcases (show s2 = -1 ∨ s2 = 0 by omega) with rfl | rfl
        · refine ⟨_, rfl, ?_⟩
          (refine R.stepU ?_; (repeat' (first | (with_reducible refine And.intro ?_ ?_) | (with_reducible intro _))); all_goals refine R.Lft.mk ?_)
          all_goals exact ⟨rfl, R.Own.below R.ohm⟩
        · refine ⟨_, rfl, ?_⟩
          (refine R.stepU ?_; (repeat' (first | (with_reducible refine And.intro ?_ ?_) | (with_reducible intro _))); all_goals refine R.Lft.mk ?_)
          all_goals exact ⟨rfl, R.Own.below R.ohm⟩
theorem farSquares_any (a b : Sp) (p : Pt) (w : World) (h1 : In64 p.x) (h2 : In64 p.y) : Calls Tryz.prog 3 #[.agg (cSp a).toArray, .agg (cSp b).toArray, .agg (cPt p).toArray] w fun e w' => e = .returned (.bool true) ∧ Below w.heap.size w w' := by
  cases hl : lineB a b p with
  | false => exact farSquares_no a b p w h1 h2 hl
  | true =>
    cases hs : shortB (squareR a b p) with
    | false => exact farSquares_far a b p w h1 h2 hl hs
    | true => exact farSquares_in a b p w h1 h2 hl hs
set_option maxRecDepth 100000 in
theorem walk_FarSquares {H : Type} {enc : TypeId × Value → H} (W : World) (base : Nat) (args : Array Value) (ds : List (DataW H)) (ps : List MemPlace) (hA : DataW.TrodAll enc Tryz.prog W 0 (fun _ => true) true [28, 28, 30] args.toList ds ps)
    (hval : ∀ (j : Nat) t v, #[28, 28, 30][j]? = some t → args[j]? = some v → Value.okWide Tryz.prog W .any base t v) :
    Calls Tryz.prog 3 args W fun e W' => e = .returned (.bool true) ∧ Below W.heap.size W W' := by
  obtain ⟨v0, v1, v2, d0, d1, d2, p0, p1, p2, rfl, rfl, rfl, h0, h1, h2⟩ := trodAll_three hA
  obtain ⟨z0, q0, g0, a0, b0⟩ := R.open_arg (hval 0 28 v0 rfl rfl) h0
  obtain ⟨z1, q1, g1, a1, b1⟩ := R.open_arg (hval 1 28 v1 rfl rfl) h1
  obtain ⟨z2, q2, g2, a2, b2⟩ := R.open_arg (hval 2 30 v2 rfl rfl) h2
  obtain rfl := a0 (by kernel_rfl)
  obtain rfl := a1 (by kernel_rfl)
  obtain rfl := a2 (by kernel_rfl)
  exact farSquares_any z0 z1 z2 W (pts64 g2).1 (pts64 g2).2
end Go.Proofs.YtebgjcginmgoaaaGreat
