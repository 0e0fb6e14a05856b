/- snicketref50.Parts; the law StatParts: the walks. -/
import Derived.Test.YtoainfnhmdcpoaaYf
import Derived.Test.YtoainfnhmdcpoaaYd
namespace Go.Proofs.Ytoainfnhmdcpoaa
open Go.ChangeShapes Go.WideShapes Go.ChangeAt Go.RowKit
open R (In64 InU64 lo64 nth)
theorem FL_snoc (n : Nat) (F : Nat → Nat) : FL (n + 1) F = FL n F ++ [((F n : Nat) : Int)] := by
  unfold FL
  rw [List.range_succ, List.map_append]
  rfl
section
variable (x : Nt) (w : World) (hG : GNt w x)
include hG
set_option maxHeartbeats 4000000 in
theorem rparts50_any (hb : netB x = true) : Calls Try.prog 51 #[.agg (cNt x).toArray] w fun e w' => ∃ A c P, IsNum ((egX x).con x.e.n) x.s.n P ∧ e = .returned (.slice A x.s.n c) ∧ R.Gives w w' A x.s.n c 3 1 (P.flatMap R.cI) := by
  have hM := R.Own.start [] w
  have hL := hG.lasts
  have hk := netB_e hb
  have hsn : x.s.n ≤ 200000 := (netB_iff.1 hb).1
  obtain ⟨⟨s1, s2, s3, -⟩, ⟨h1, h2, h3, -⟩, -⟩ := hG
  have hok := egX_ok hb
  have hgn : (egX x).n = x.s.n := rfl
  have hgm : (egX x).m = x.e.n := rfl
  refine R.calls_of_WC (fn := Try.f51) Try.func51 rfl Try.ntmps51 (Nat.le_of_ble_eq_true rfl) ?_
  (refine R.stepV ?_; (repeat' (first | (with_reducible refine And.intro ?_ ?_) | (with_reducible intro _))); all_goals refine R.Lft.mk ?_)
  rename_i gn _ _ A c _ hM
  refine R.WC_loop (fun i : Nat × Option Addr × Nat => [(1, .pointer (some ⟨gn, 0, none⟩)), (2, .slice none 0 0), (3, .slice i.2.1 i.1 i.2.2), (4, .int .i64 (i.1 : Nat))])
    (fun i w2 => i.1 ≤ x.s.n ∧ R.Own [] w w2 [.row i.2.1 i.1 i.2.2 3 1 ((FL i.1 fun u => u).flatMap R.cI), .blk gn 44 (cNt x)]) (fun i => x.s.n - i.1)
    ⟨(0, A, c), ⟨rfl, rfl, rfl, rfl, trivial⟩, Nat.zero_le _, hM⟩ ?_
  clear hM
  rintro ⟨v, A, c⟩ f w2 ⟨hv, hM⟩
  dsimp only at hv hM ⊢
  have hfl := FL_len v (fun u => u)
  by_cases hlt : v < x.s.n
  · have hsn2 := FL_snoc v (fun u => u)
    (refine R.stepV ?_; (repeat' (first | (with_reducible refine And.intro ?_ ?_) | (with_reducible intro _))); all_goals refine R.Lft.mk ?_)
    rename_i A2 c2 _ hM
    rw [← hsn2] at hM
    exact ⟨(v + 1, A2, c2), ⟨rfl, rfl, rfl, R.viaI rfl (by dsimp only; omega), trivial⟩, ⟨by dsimp only; omega, hM⟩, by dsimp only; omega⟩
  obtain rfl : v = x.s.n := by omega
  clear hlt hfl
  (refine R.stepV ?_; (repeat' (first | (with_reducible refine And.intro ?_ ?_) | (with_reducible intro _))); all_goals refine R.Lft.mk ?_)
  refine R.WC_loop (fun i : Nat × (Nat → Nat) => [(1, .pointer (some ⟨gn, 0, none⟩)), (2, .slice none 0 0), (3, .slice A x.s.n c), (5, .int .i64 (i.1 : Nat))])
    (fun i w2 => i.1 ≤ x.s.n + 1 ∧ Lw (egX x) i.2 ∧ ((∀ v, v < x.s.n → good (egX x) i.2 v) ∨ i.1 ≤ cntB (goodL (egX x) i.2)) ∧ R.Own [] w w2 [.row A x.s.n c 3 1 ((FL x.s.n i.2).flatMap R.cI), .blk gn 44 (cNt x)]) (fun i => x.s.n + 1 - i.1)
    ⟨(0, fun u => u), ⟨rfl, rfl, rfl, rfl, trivial⟩, Nat.zero_le _, ⟨fun v _ => .refl, fun v _ => Nat.le_refl _⟩, .inr (Nat.zero_le _), R.ohm⟩ ?_
  clear hM
  rintro ⟨r, L0⟩ f w3 ⟨hr, hLw, hgd, hM⟩
  dsimp only at hr hLw hgd hM ⊢
  by_cases hrl : r ≤ x.s.n
  · (refine R.stepV ?_; (repeat' (first | (with_reducible refine And.intro ?_ ?_) | (with_reducible intro _))); all_goals refine R.Lft.mk ?_)
    refine R.WC_loop (fun i : Nat × (Nat → Nat) => [(1, .pointer (some ⟨gn, 0, none⟩)), (2, .slice none 0 0), (3, .slice A x.s.n c), (5, .int .i64 (r : Nat)), (6, .int .i64 (i.1 : Nat))])
      (fun i w2 => i.1 ≤ x.e.n ∧ Rdl (egX x) L0 i.2 i.1 ∧ R.Own [] w w2 [.row A x.s.n c 3 1 ((FL x.s.n i.2).flatMap R.cI), .blk gn 44 (cNt x)]) (fun i => x.e.n - i.1)
      ⟨(0, L0), ⟨rfl, rfl, rfl, rfl, rfl, trivial⟩, Nat.zero_le _, hLw.round, R.ohm⟩ ?_
    clear hM
    rintro ⟨i, L⟩ f w4 ⟨hi, hR, hM⟩
    dsimp only at hi hR hM ⊢
    have hfl := FL_len x.s.n L
    by_cases hil : i < x.e.n
    · obtain ⟨a, b, ha, hb2, hab, ham, hbm⟩ := edge_ab hb hil
      have hga : (egX x).a i = a := by show (nth x.e.L i).a.toNat = a; omega
      have hgb : (egX x).b i = b := by show (nth x.e.L i).b.toNat = b; omega
      have hst := hR.step hok hil
      rw [hga, hgb] at hst
      have hat : (nth x.e.L i).a.toNat = a := hga
      have hbt : (nth x.e.L i).b.toNat = b := hgb
      have fa : nth (FL x.s.n L) (nth x.e.L i).a.toNat = ((L a : Nat) : Int) := by rw [hat, FL_nth ham]
      have fb : nth (FL x.s.n L) (nth x.e.L i).b.toNat = ((L b : Nat) : Int) := by rw [hbt, FL_nth hbm]
      obtain ⟨gA, rfl⟩ := row_form (R.Own.ok hM _ (.head _)) (by omega)
      by_cases hc : L a < L b
      · have hbo : both L a b = setF L b (L a) := if_pos hc
        have hset := FL_set (n := x.s.n) (F := L) (v := b) (y := L a) hbm
        (refine R.stepV ?_; (repeat' (first | (with_reducible refine And.intro ?_ ?_) | (with_reducible intro _))); all_goals refine R.Lft.mk ?_)
        rename_i hM
        rw [hbt, fa, hset, ← hbo] at hM
        exact ⟨(i + 1, both L a b), ⟨rfl, rfl, rfl, rfl, R.viaI rfl (by dsimp only; omega), trivial⟩, ⟨by dsimp only; omega, hst, hM⟩, by dsimp only; omega⟩
      · have hbo : both L a b = setF L a (L b) := if_neg hc
        have hset := FL_set (n := x.s.n) (F := L) (v := a) (y := L b) ham
        (refine R.stepV ?_; (repeat' (first | (with_reducible refine And.intro ?_ ?_) | (with_reducible intro _))); all_goals refine R.Lft.mk ?_)
        rename_i hM
        rw [hat, fb, hset, ← hbo] at hM
        exact ⟨(i + 1, both L a b), ⟨rfl, rfl, rfl, rfl, R.viaI rfl (by dsimp only; omega), trivial⟩, ⟨by dsimp only; omega, hst, hM⟩, by dsimp only; omega⟩
    · obtain rfl : i = x.e.n := by omega
      have hmo := hR.more hLw hok hgd
      (refine R.stepV ?_; (repeat' (first | (with_reducible refine And.intro ?_ ?_) | (with_reducible intro _))); all_goals refine R.Lft.mk ?_)
      exact ⟨(r + 1, L), ⟨rfl, rfl, rfl, R.viaI rfl (by dsimp only; omega), trivial⟩, ⟨by dsimp only; omega, hR.lw, hmo, R.ohm⟩, by dsimp only; omega⟩
  · obtain rfl : r = x.s.n + 1 := by omega
    have hall := Lw.all (G := egX x) (L := L0) hgd
    have hfl := FL_len x.s.n L0
    (refine R.stepV ?_; (repeat' (first | (with_reducible refine And.intro ?_ ?_) | (with_reducible intro _))); all_goals refine R.Lft.mk ?_)
    rename_i Bo co _ hM
    refine R.WC_loop (fun i : Nat × Option Addr × Nat × List Int => [(2, .slice none 0 0), (3, .slice A x.s.n c), (9, .slice i.2.1 i.1 i.2.2.1), (10, .int .i64 ((fresh ((egX x).con x.e.n) i.1 : Nat) : Int)), (11, .int .i64 (i.1 : Nat))])
      (fun i w2 => i.1 ≤ x.s.n ∧ i.2.2.2.length = i.1 ∧ (∀ u, u < i.1 → NumAt ((egX x).con x.e.n) i.2.2.2 u) ∧ R.Own [] w w2 [.row i.2.1 i.1 i.2.2.1 3 1 (i.2.2.2.flatMap R.cI), .row A x.s.n c 3 1 ((FL x.s.n L0).flatMap R.cI)]) (fun i => x.s.n - i.1)
      ⟨(0, Bo, co, []), ⟨rfl, rfl, rfl, rfl, rfl, trivial⟩, Nat.zero_le _, rfl, fun u hu => absurd hu (Nat.not_lt_zero _), R.Own.sub hM (List.sublist_append_left [_, _] _)⟩ ?_
    clear hM
    rintro ⟨v, Bo, co, P⟩ f w5 ⟨hv, hPl, hPn, hM⟩
    dsimp only at hv hPl hPn hM ⊢
    have hfr := fresh_le (R := (egX x).con x.e.n) (v := v)
    by_cases hvl : v < x.s.n
    · have hLv := FL_nth (F := L0) hvl
      have hle := hLw.le v hvl
      obtain ⟨n1, n2⟩ := num_next (R := (egX x).con x.e.n) hPl (fun _ _ q => Eg.con_symm q) (hLw.co v hvl) (hall v hvl) hle
      by_cases hrr : L0 v = v
      · rw [if_pos hrr] at n1 n2
        (refine R.stepV ?_; (repeat' (first | (with_reducible refine And.intro ?_ ?_) | (with_reducible intro _))); all_goals refine R.Lft.mk ?_)
        rename_i A2 c2 _ hM
        exact ⟨(v + 1, A2, c2, P ++ [((fresh ((egX x).con x.e.n) v : Nat) : Int)]), ⟨rfl, rfl, rfl, R.viaI rfl (by dsimp only; omega), R.viaI rfl (by dsimp only; omega), trivial⟩, ⟨by dsimp only; omega, by dsimp only; rw [List.length_append, List.length_singleton, hPl], fun u hu => by
            dsimp only at hu ⊢
            rcases Nat.lt_or_ge u v with q | q
            · exact num_keep (hPn u q) (by omega)
            · rw [show u = v by omega]; exact n1, hM⟩, by dsimp only; omega⟩
      · rw [if_neg hrr] at n1 n2
        have hpt : nth P (nth (FL x.s.n L0) v).toNat = nth P (L0 v) := by rw [hLv, Int.toNat_natCast]
        (refine R.stepV ?_; (repeat' (first | (with_reducible refine And.intro ?_ ?_) | (with_reducible intro _))); all_goals refine R.Lft.mk ?_)
        rename_i A2 c2 _ hM
        rw [hpt] at hM
        exact ⟨(v + 1, A2, c2, P ++ [nth P (L0 v)]), ⟨rfl, rfl, rfl, R.viaI rfl (by dsimp only; omega), R.viaI rfl (by dsimp only; omega), trivial⟩, ⟨by dsimp only; omega, by dsimp only; rw [List.length_append, List.length_singleton, hPl], fun u hu => by
            dsimp only at hu ⊢
            rcases Nat.lt_or_ge u v with q | q
            · exact num_keep (hPn u q) (by omega)
            · rw [show u = v by omega]; exact n1, hM⟩, by dsimp only; omega⟩
    · obtain rfl : v = x.s.n := by omega
      (refine R.stepV ?_; (repeat' (first | (with_reducible refine And.intro ?_ ?_) | (with_reducible intro _))); all_goals refine R.Lft.mk ?_)
      exact ⟨_, _, P, ⟨hPl, hPn⟩, rfl, R.Own.gives R.ohm⟩
end
set_option maxHeartbeats 4000000 in
theorem statParts_any (x : Nt) (w : World) (hG : GNt w x) : Calls Try.prog 10 #[.agg (cNt x).toArray] w fun e w' => e = .returned (.bool true) ∧ Below w.heap.size w w' := by
  have hM := R.Own.start [] w
  have hL := hG.lasts
  refine R.calls_of_WC (fn := Try.f10) Try.func10 rfl Try.ntmps10 (Nat.le_of_ble_eq_true rfl) ?_
  (refine R.stepV ?_; (repeat' (first | (with_reducible refine And.intro ?_ ?_) | (with_reducible intro _))); all_goals refine R.Lft.mk ?_)
  · exact ⟨rfl, R.Own.below (by assumption)⟩
  cases hb : netB x with
  | false =>
    refine R.WO_call1 rfl rfl R.vv ?_
    refine (parts50_not x _ (GNt.now R.ohm hG) hb).mono ?_
    rintro _ w2 ⟨rfl, hb2⟩
    have hM := R.Own.call R.ohm hb2
    refine ⟨_, rfl, ?_⟩
    (refine R.stepV ?_; (repeat' (first | (with_reducible refine And.intro ?_ ?_) | (with_reducible intro _))); all_goals refine R.Lft.mk ?_)
    all_goals first
      | exact ⟨rfl, R.Own.below (by assumption)⟩
      | exact nbw_f hb (by assumption)
  | true =>
    have hsn : x.s.n ≤ 200000 := (netB_iff.1 hb).1
    refine R.WO_call1 rfl rfl R.vv ?_
    refine (parts50_any x _ (GNt.now R.ohm hG) hb).mono ?_
    rintro _ w2 ⟨A1, c1, P, hP, rfl, hG1⟩
    have hPl := hP.len
    have hM := R.Own.give R.ohm hG1
    refine ⟨_, rfl, ?_⟩
    (refine R.stepV ?_; (repeat' (first | (with_reducible refine And.intro ?_ ?_) | (with_reducible intro _))); all_goals refine R.Lft.mk ?_)
    all_goals first
      | exact nbw_t hb (by assumption)
      | skip
    refine R.WO_call1 rfl rfl R.vv ?_
    refine (rparts50_any x _ (GNt.now R.ohm hG) hb).mono ?_
    rintro _ w3 ⟨A2, c2, P2, hP2, rfl, hG2⟩
    obtain rfl := hP.unique hP2 (fun _ _ q => Eg.con_symm q) (fun _ _ _ p q => Eg.con_trans p q)
    have hM := R.Own.give R.ohm hG2
    refine ⟨_, rfl, ?_⟩
    have hdd : decide (P = P) = true := decide_eq_true rfl
    (refine R.stepV ?_; (repeat' (first | (with_reducible refine And.intro ?_ ?_) | (with_reducible intro _))); all_goals refine R.Lft.mk ?_)
    refine R.WO_call2 rfl rfl R.vv R.vv ?_
    refine (same01 A1 A2 _ c1 _ c2 P P _ (R.Own.inp R.ohm R.memb) hPl.symm (by omega) (R.Own.inp R.ohm (.head _)) hPl.symm).mono ?_
    rintro _ w4 ⟨rfl, hb4⟩
    have hM := R.Own.call R.ohm hb4
    refine ⟨_, rfl, ?_⟩
    rw [hdd]
    (refine R.stepV ?_; (repeat' (first | (with_reducible refine And.intro ?_ ?_) | (with_reducible intro _))); all_goals refine R.Lft.mk ?_)
    all_goals first
      | exact ⟨rfl, R.Own.below (by assumption)⟩
      | exact absurd rfl (by assumption)
set_option maxRecDepth 100000 in
theorem walk_StatParts {H : Type} {enc : TypeId × Value → H} (W : World) (base : Nat) (args : Array Value) (ds : List (DataW H)) (ps : List MemPlace) (hA : DataW.TrodAll enc Try.prog W 0 (fun _ => true) true [44] args.toList ds ps)
    (hval : ∀ (j : Nat) t v, #[44][j]? = some t → args[j]? = some v → Value.okWide Try.prog W .any base t v) :
    Calls Try.prog 10 args W fun e W' => e = .returned (.bool true) ∧ Below W.heap.size W W' := by
  obtain ⟨v0, d0, rfl, rfl, h0⟩ := trodAll_one hA
  obtain ⟨z0, q0, g0, a0, b0⟩ := R.open_arg (hval 0 44 v0 rfl rfl) h0
  obtain rfl := a0 (by kernel_rfl)
  exact statParts_any z0 W g0
end Go.Proofs.Ytoainfnhmdcpoaa
