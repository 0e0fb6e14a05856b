/- Package arcs: a vertex's arcs. Package wit: a vertex reached. -/
import Derived.Test.YtegbidklcaccjaaDj
import Derived.Test.YtegbidklcaccjaaVp
namespace Go.Proofs.Ytegbidklcaccjaa
open Go.RowKit
open R (In64 InU64 lo64 nth)
/-- A vertex's arcs, as items: the weight is the key. -/
def outT (g : Gph) (v : Nat) (k : Nat) : List Item := (List.range k).map fun j => ⟨nth g.wt.L ((nth g.st.L v).toNat + j), nth g.hd.L ((nth g.st.L v).toNat + j)⟩
def degG (g : Gph) (v : Nat) : Nat := (nth g.st.L (v + 1)).toNat - (nth g.st.L v).toNat
theorem outT_len (g : Gph) (v k : Nat) : (outT g v k).length = k := by simp [outT]
theorem outT_nth (g : Gph) (v : Nat) {k j : Nat} (h : j < k) : nth (outT g v k) j = ⟨nth g.wt.L ((nth g.st.L v).toNat + j), nth g.hd.L ((nth g.st.L v).toNat + j)⟩ := by
  rw [R.nth_eq (by rw [outT_len]; exact h)]
  simp [outT]
theorem outT_succ (g : Gph) (v k : Nat) : outT g v (k + 1) = outT g v k ++ [⟨nth g.wt.L ((nth g.st.L v).toNat + k), nth g.hd.L ((nth g.st.L v).toNat + k)⟩] := by
  unfold outT
  rw [List.range_succ, List.map_append]
  rfl
section
variable (g : Gph) (v : Nat) (w : World) (hG : GGph w g) (hm : MayG g) (hv : v + 1 < g.st.n)
include hG hm hv
theorem aout_any : Calls Try.prog 50 #[.agg (cGph g).toArray, .int .i64 (v : Nat)] w fun e w' => ∃ A c, e = .returned (.slice A (degG g v) c) ∧ R.Gives w w' A (degG g v) c 72 2 ((outT g v (degG g v)).flatMap cItem) := by
  have hM := R.Own.start [] w
  have n2 := hm.n2
  have n3 := hm.n3
  have n4 := hm.n4
  have hlo := hm.lo (v := v) (by omega)
  have hup := hm.up v hv
  have hhi := hm.hi (v := v + 1) (by omega)
  have ek : ((v : Int) + 1).toNat = v + 1 := by omega
  obtain ⟨⟨hA, hal, hac, hag⟩, ⟨hB, hbl, hbc, hbg⟩, ⟨hC, hcl, hcc, hcg⟩⟩ := hG
  have hdg : degG g v = (nth g.st.L (v + 1)).toNat - (nth g.st.L v).toNat := rfl
  obtain ⟨s, hs⟩ : ∃ s, (nth g.st.L v).toNat = s := ⟨_, rfl⟩
  refine R.calls_of_WC (fn := Try.f50) Try.func50 rfl Try.ntmps50 (Nat.le_of_ble_eq_true rfl) ?_
  (refine R.stepH ?_; (repeat' (first | (with_reducible refine And.intro ?_ ?_) | (with_reducible intro _))); all_goals refine R.Lft.mk ?_)
  rename_i gb _ hM
  refine R.WC_loop (fun i : Nat × Option Addr × Nat => [(1, .int .i64 (v : Nat)), (2, .pointer (some ⟨gb, 0, none⟩)), (4, .slice none 0 0), (5, .slice i.2.1 i.1 i.2.2), (6, .int .i64 ((s + i.1 : Nat) : Int))])
    (fun i w1 => i.1 ≤ degG g v ∧ R.Own [] w w1 [.row i.2.1 i.1 i.2.2 72 2 ((outT g v i.1).flatMap cItem), .blk gb 24 (cGph g)]) (fun i => degG g v - i.1) ⟨(0, none, 0), ⟨rfl, rfl, rfl, rfl, R.viaI rfl (by dsimp only; omega), trivial⟩, Nat.zero_le _, R.Own.nil hM _ _⟩ ?_
  clear hM
  rintro ⟨i, A1, c1⟩ f w2 ⟨hi, hM⟩
  dsimp only at hi hM ⊢
  have hsu := outT_succ g v i
  rw [hs] at hsu
  by_cases hlt : i < degG g v
  · have hlt' : ((s + i : Nat) : Int) < nth g.st.L ((v : Int) + 1).toNat := by rw [ek]; omega
    have hb1 : s + i < g.hd.n := by omega
    (refine R.stepH ?_; (repeat' (first | (with_reducible refine And.intro ?_ ?_) | (with_reducible intro _))); all_goals refine R.Lft.mk ?_)
    refine R.WC_planD1 [(0, false), (1, false), (2, false), (3, false), (4, false), (5, false), (6, false), (7, false), (8, false), (9, false), (10, false), (11, false), (12, true), (13, true), (14, false)] R.mixed (by decide +kernel) R.ohm ?_
    (refine R.stepH ?_; (repeat' (first | (with_reducible refine And.intro ?_ ?_) | (with_reducible intro _))); all_goals refine R.Lft.mk ?_)
    rename_i A2 c2 _ hM
    refine ⟨(i + 1, A2, c2), ⟨rfl, rfl, rfl, rfl, R.viaI rfl (by dsimp only; omega), trivial⟩, ⟨by dsimp only; omega, ?_⟩, by dsimp only; omega⟩
    dsimp only
    rw [hsu]
    exact hM
  · obtain rfl : i = degG g v := by omega
    have hlt' : ¬ ((s + degG g v : Nat) : Int) < nth g.st.L ((v : Int) + 1).toNat := by rw [ek]; omega
    (refine R.stepH ?_; (repeat' (first | (with_reducible refine And.intro ?_ ?_) | (with_reducible intro _))); all_goals refine R.Lft.mk ?_)
    exact ⟨A1, c1, rfl, R.Own.gives R.ohm⟩
omit hv in
theorem asize_any : Calls Try.prog 75 #[.agg (cGph g).toArray] w fun e w' => e = .returned (.int .i64 ((g.st.n : Int) - 1)) ∧ Below w.heap.size w w' := by
  have hM := R.Own.start [] w
  have hn0 := hG.1.2.2.1
  have n1 := hm.n1
  refine R.calls_of_WC (fn := Try.f75) Try.func75 rfl Try.ntmps75 (Nat.le_of_ble_eq_true rfl) ?_
  (refine R.stepH ?_; (repeat' (first | (with_reducible refine And.intro ?_ ?_) | (with_reducible intro _))); all_goals refine R.Lft.mk ?_)
  refine R.WO_call1 rfl rfl R.vv ?_
  refine (amay_any g _ (GGph.now R.ohm hG)).mono ?_
  rintro _ w3 ⟨rfl, hb3⟩
  have hM := R.Own.call R.ohm hb3
  refine ⟨_, rfl, ?_⟩
  rw [mayG_t hm]
  (refine R.stepH ?_; (repeat' (first | (with_reducible refine And.intro ?_ ?_) | (with_reducible intro _))); all_goals refine R.Lft.mk ?_; (all_goals (try (exact ⟨rfl, R.Own.below (by assumption)⟩))))
theorem aOut_any : Calls Try.prog 39 #[.agg (cGph g).toArray, .int .i64 (v : Nat)] w fun e w' => ∃ A c, e = .returned (.slice A (degG g v) c) ∧ R.Gives w w' A (degG g v) c 72 2 ((outT g v (degG g v)).flatMap cItem) := by
  have hM := R.Own.start [] w
  have n2 := hm.n2
  have hv' : ¬ (g.st.n : Int) - 1 ≤ ((v : Nat) : Int) := by omega
  refine R.calls_of_WC (fn := Try.f39) Try.func39 rfl Try.ntmps39 (Nat.le_of_ble_eq_true rfl) ?_
  (refine R.stepH ?_; (repeat' (first | (with_reducible refine And.intro ?_ ?_) | (with_reducible intro _))); all_goals refine R.Lft.mk ?_)
  refine R.WO_call1 rfl rfl R.vv ?_
  refine (asize_any g _ (GGph.now R.ohm hG) hm).mono ?_
  rintro _ w3 ⟨rfl, hb3⟩
  have hM := R.Own.call R.ohm hb3
  refine ⟨_, rfl, ?_⟩
  (refine R.stepH ?_; (repeat' (first | (with_reducible refine And.intro ?_ ?_) | (with_reducible intro _))); all_goals refine R.Lft.mk ?_)
  refine R.WO_call2 rfl rfl R.vv R.vv ?_
  refine (aout_any g v _ (GGph.now R.ohm hG) hm hv).mono ?_
  rintro _ w4 ⟨A, c, rfl, hGv⟩
  have hM := R.Own.give R.ohm hGv
  refine ⟨_, rfl, ?_⟩
  (refine R.stepH ?_; (repeat' (first | (with_reducible refine And.intro ?_ ?_) | (with_reducible intro _))); all_goals refine R.Lft.mk ?_)
  exact ⟨A, c, rfl, R.Own.gives R.ohm⟩
end
end Go.Proofs.Ytegbidklcaccjaa
namespace Go.Proofs.Ytegbidklcaccjaa
open Go.RowKit
open R (In64 InU64 lo64 nth)
/-- A short search's limits. -/
structure Wt where
  frm : Int
  past : Int
  most : Int
  hops : Int
  cnt : Int
def cWt (x : Wt) : List Value := [.int .i64 x.frm, .int .i64 x.past, .int .i64 x.most, .int .i64 x.hops, .int .i64 x.cnt]
def cVs (x : Wt) (h bq : Nat) : List Value := [.int .i64 x.frm, .int .i64 x.past, .int .i64 x.most, .int .i64 x.hops, .int .i64 x.cnt, .pointer (some ⟨h, 0, none⟩), .map (some bq)]
/-- A short search of the call's own. -/
def Vsr (F : List Nat) (W0 w : World) (l : List R.Res) (x : Wt) (gs h b bq nn N : Nat) (κ : Int → Option Int) (q : Int → Option (Int × Int)) : Prop :=
  ∃ es clk, R.IsQ Try.prog 3 es clk N q ∧ Hp F W0 w (.map bq es clk :: .blk gs 126 (cVs x h bq) :: l) h b nn N κ
section
variable {F : List Nat} {W0 w : World} {l : List R.Res} {x : Wt} {gs h b bq nn N : Nat} {κ : Int → Option Int} {q : Int → Option (Int × Int)}
theorem Vsr.sub {l' : List R.Res} (hS : Vsr F W0 w l x gs h b bq nn N κ q) (hs : l'.Sublist l) : Vsr F W0 w l' x gs h b bq nn N κ q := by
  obtain ⟨es, clk, h0, A, c3, L, es2, clk2, m, h1, h2, h3, h4, hM⟩ := hS
  exact ⟨es, clk, h0, A, c3, L, es2, clk2, m, h1, h2, h3, h4, R.Own.sub hM (.cons_cons _ (.cons_cons _ (.cons_cons _ (.cons_cons _ (.cons_cons _ hs)))))⟩
theorem vsr_pick {l0 l1 l2 l3 l4 l5 : List R.Res} {c3 clk clk2 : Nat} {A : Option Addr} {is : List Value} {es es2 : Array MapEntry} (hM : R.Own F W0 w l0)
    (p1 : R.Pick l0 (.blk gs 126 (cVs x h bq)) l1 := by repeat (first | exact R.Pick.head | apply R.Pick.tail))
    (p2 : R.Pick l1 (.map bq es clk) l2 := by repeat (first | exact R.Pick.head | apply R.Pick.tail))
    (p3 : R.Pick l2 (.blk h 151 [.slice A nn c3, .map (some b)]) l3 := by repeat (first | exact R.Pick.head | apply R.Pick.tail))
    (p4 : R.Pick l3 (.map b es2 clk2) l4 := by repeat (first | exact R.Pick.head | apply R.Pick.tail))
    (p5 : R.Pick l4 (.row A nn c3 72 2 is) l5 := by repeat (first | exact R.Pick.head | apply R.Pick.tail)) :
    R.Own F W0 w (.row A nn c3 72 2 is :: .map b es2 clk2 :: .blk h 151 [.slice A nn c3, .map (some b)] :: .map bq es clk :: .blk gs 126 (cVs x h bq) :: l5) := by
  have h1 := R.Own.perm hM p1.perm
  have h2 := R.Own.perm h1 (p2.perm.cons _)
  have h3 := R.Own.perm h2 ((p3.perm.cons _).cons _)
  have h4 := R.Own.perm h3 (((p4.perm.cons _).cons _).cons _)
  have h5 := R.Own.perm h4 ((((p5.perm.cons _).cons _).cons _).cons _)
  exact R.Own.perm h5 (List.Perm.append_right l5 (List.reverse_perm [_, _, _, _, _]))
set_option maxHeartbeats 4000000 in
theorem reach_v (hS : Vsr F W0 w l x gs h b bq nn N κ q) (hnn : nn < 1000000) (hN : N + 1 < maxLen) {v : Nat} {c e : Int} (hv : v < 1000000) (hc : In64 c) (hci : c < 4611686018427387904) :
    Calls Try.prog 73 #[.pointer (some ⟨gs, 0, none⟩), .int .i64 (v : Nat), .int .i64 c, .int .i64 e] w fun e' w' => e' = .returned (.tuple #[]) ∧ ∃ nn' N', nn' ≤ nn + 1 ∧ N' ≤ N + 1 ∧ Vsr F W0 w' l x gs h b bq nn' N' (rchQ x.past x.most κ q v c e).1 (rchQ x.past x.most κ q v c e).2 := by
  obtain ⟨es, clk, h0, A, c3, L, es2, clk2, m, h1, h2, h3, h4, hM⟩ := hS
  have hv64 : In64 ((v : Nat) : Int) := by unfold In64; omega
  have hno : ¬ (((v : Nat) : Int) ≠ x.past ∧ c ≤ x.most ∧ c < csQ q v) → rchQ x.past x.most κ q v c e = (κ, q) := fun g => if_neg g
  have hcs : csQ q v = (match q ((v : Nat) : Int) with | some p => p.1 | none => 4611686018427387904) := rfl
  refine R.calls_of_WC (fn := Try.f73) Try.func73 rfl Try.ntmps73 (Nat.le_of_ble_eq_true rfl) ?_
  by_cases hp : ((v : Nat) : Int) = x.past
  · rw [hno fun g => g.1 hp]
    (refine R.stepH ?_; (repeat' (first | (with_reducible refine And.intro ?_ ?_) | (with_reducible intro _))); all_goals refine R.Lft.mk ?_)
    exact ⟨rfl, nn, N, by omega, by omega, es, clk, h0, A, c3, L, es2, clk2, m, h1, h2, h3, h4, R.ohm⟩
  by_cases hm : x.most < c
  · rw [hno fun g => by omega]
    (refine R.stepH ?_; (repeat' (first | (with_reducible refine And.intro ?_ ?_) | (with_reducible intro _))); all_goals refine R.Lft.mk ?_)
    exact ⟨rfl, nn, N, by omega, by omega, es, clk, h0, A, c3, L, es2, clk2, m, h1, h2, h3, h4, R.ohm⟩
  (refine R.stepH ?_; (repeat' (first | (with_reducible refine And.intro ?_ ?_) | (with_reducible intro _))); all_goals refine R.Lft.mk ?_)
  refine R.WO_lkQ1 rfl rfl rfl hv64 R.ohm R.memb h0 ?_
  cases hq : q ((v : Nat) : Int) with
  | some p =>
    rw [hq] at hcs
    dsimp only at hcs
    simp only [Option.getD_some, Option.isSome_some, R.pairV]
    by_cases hle : p.1 ≤ c
    · rw [hno fun g => by omega]
      (refine R.stepH ?_; (repeat' (first | (with_reducible refine And.intro ?_ ?_) | (with_reducible intro _))); all_goals refine R.Lft.mk ?_)
      exact ⟨rfl, nn, N, by omega, by omega, es, clk, h0, A, c3, L, es2, clk2, m, h1, h2, h3, h4, R.Own.tl R.ohm⟩
    · rw [show rchQ x.past x.most κ q v c e = (R.putM κ (v : Nat) c, R.putQ q (v : Nat) (c, e)) from if_pos ⟨hp, by omega, by omega⟩]
      (refine R.stepH ?_; (repeat' (first | (with_reducible refine And.intro ?_ ?_) | (with_reducible intro _))); all_goals refine R.Lft.mk ?_)
      refine R.WO_mapSetQ (v := (c, e)) rfl rfl rfl rfl hv64 R.ohm h0 (by omega) (fun _ _ => R.upds) (fun es' clk' w5 hQ hM => ?_)
      (refine R.stepH ?_; (repeat' (first | (with_reducible refine And.intro ?_ ?_) | (with_reducible intro _))); all_goals refine R.Lft.mk ?_)
      refine R.WO_call2 rfl rfl R.vv R.vv ?_
      refine (set_hp (x := ⟨c, ((v : Nat) : Int)⟩) ⟨A, c3, L, es2, clk2, m, h1, h2, h3, h4, vsr_pick R.ohm⟩ ⟨hc, hv64⟩ hnn hN).mono ?_
      rintro _ w6 ⟨rfl, hH⟩
      refine ⟨_, rfl, ?_⟩
      (refine R.stepH ?_; (repeat' (first | (with_reducible refine And.intro ?_ ?_) | (with_reducible intro _))); all_goals refine R.Lft.mk ?_)
      refine ⟨rfl, _, _, ?_, Nat.le_refl _, Vsr.sub ⟨es', clk', hQ, hH⟩ (.cons _ (List.Sublist.refl _))⟩
      split <;> omega
  | none =>
    rw [hq] at hcs
    dsimp only at hcs
    simp only [Option.getD_none, Option.isSome_none, R.pairV]
    rw [show rchQ x.past x.most κ q v c e = (R.putM κ (v : Nat) c, R.putQ q (v : Nat) (c, e)) from if_pos ⟨hp, by omega, by omega⟩]
    (refine R.stepH ?_; (repeat' (first | (with_reducible refine And.intro ?_ ?_) | (with_reducible intro _))); all_goals refine R.Lft.mk ?_)
    refine R.WO_mapSetQ (v := (c, e)) rfl rfl rfl rfl hv64 R.ohm h0 (by omega) (fun _ _ => R.upds) (fun es' clk' w5 hQ hM => ?_)
    (refine R.stepH ?_; (repeat' (first | (with_reducible refine And.intro ?_ ?_) | (with_reducible intro _))); all_goals refine R.Lft.mk ?_)
    refine R.WO_call2 rfl rfl R.vv R.vv ?_
    refine (set_hp (x := ⟨c, ((v : Nat) : Int)⟩) ⟨A, c3, L, es2, clk2, m, h1, h2, h3, h4, vsr_pick R.ohm⟩ ⟨hc, hv64⟩ hnn hN).mono ?_
    rintro _ w6 ⟨rfl, hH⟩
    refine ⟨_, rfl, ?_⟩
    (refine R.stepH ?_; (repeat' (first | (with_reducible refine And.intro ?_ ?_) | (with_reducible intro _))); all_goals refine R.Lft.mk ?_)
    refine ⟨rfl, _, _, ?_, Nat.le_refl _, Vsr.sub ⟨es', clk', hQ, hH⟩ (.cons _ (List.Sublist.refl _))⟩
    split <;> omega
end
end Go.Proofs.Ytegbidklcaccjaa
