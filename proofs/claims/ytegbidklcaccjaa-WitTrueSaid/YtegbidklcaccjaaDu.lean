/- Package dijk: a vertex reached. -/
import Derived.Test.YtegbidklcaccjaaDt
import Derived.Test.YtegbidklcaccjaaHf
namespace Go.Proofs.Ytegbidklcaccjaa
open Go.RowKit
open R (In64 InU64 lo64 nth)
/-- A search as it lies there. -/
def cS (g : Gph) (c : R.Sl Bool) (h : Nat) (A1 : Option Addr) (c1 : Nat) (A2 : Option Addr) (c2 : Nat) (n : Nat) (t : Int) : List Value := [.slice g.st.A g.st.n g.st.c, .slice g.hd.A g.hd.n g.hd.c, .slice g.wt.A g.wt.n g.wt.c, .slice c.A c.n c.c, .pointer (some ⟨h, 0, none⟩), .slice A1 n c1, .slice A2 n c2, .int .i64 t]
/-- A search of the call's own. -/
def Srch (F : List Nat) (W0 w : World) (l : List R.Res) (g : Gph) (c : R.Sl Bool) (gs h b n nn N : Nat) (κ : Int → Option Int) (D P : List Int) (t : Int) : Prop :=
  ∃ A1 c1 A2 c2, Hp F W0 w (.row A1 n c1 3 1 (D.flatMap R.cI) :: .row A2 n c2 3 1 (P.flatMap R.cI) :: .blk gs 115 (cS g c h A1 c1 A2 c2 n t) :: l) h b nn N κ
section
variable {F : List Nat} {W0 w : World} {l : List R.Res} {g : Gph} {s : R.Sl Item} {c : R.Sl Bool} {gs h b n nn N : Nat} {κ : Int → Option Int} {D P : List Int} {t : Int}
theorem open_s {A1 A2 : Option Addr} {c1 c2 : Nat} (hc : R.Inp F W0 c.A c.n 1 (c.L.flatMap R.cB)) (hcl : c.n = c.L.length) (hcc : c.n ≤ 9223372036854775807) {v : Nat} (hv : 0 < c.n → v < c.n) (hM : R.Own F W0 w (.blk gs 115 (cS g c h A1 c1 A2 c2 n t) :: l)) :
    Calls Try.prog 99 #[.pointer (some ⟨gs, 0, none⟩), .int .i64 (v : Nat)] w fun e w' => e = .returned (.bool (!shutV c v)) ∧ R.Own F W0 w' (.blk gs 115 (cS g c h A1 c1 A2 c2 n t) :: l) := by
  refine R.calls_of_WC (fn := Try.f99) Try.func99 rfl Try.ntmps99 (Nat.le_of_ble_eq_true rfl) ?_
  by_cases h0 : 0 < c.n
  · have h1 := hv h0
    (refine R.stepH ?_; (repeat' (first | (with_reducible refine And.intro ?_ ?_) | (with_reducible intro _))); all_goals refine R.Lft.mk ?_)
    all_goals first
      | (exfalso; omega)
      | exact ⟨by simp [shutV, h0], R.ohm⟩
  · (refine R.stepH ?_; (repeat' (first | (with_reducible refine And.intro ?_ ?_) | (with_reducible intro _))); all_goals refine R.Lft.mk ?_)
    all_goals first
      | exact ⟨by simp [shutV, h0], R.ohm⟩
      | (exfalso; omega)
set_option maxHeartbeats 4000000 in
theorem reach_s (hS : Srch F W0 w l g c gs h b n nn N κ D P t) (hc : R.Inp F W0 c.A c.n 1 (c.L.flatMap R.cB)) (hcl : c.n = c.L.length) (hcn : 0 < c.n → c.n = n) (hn : n ≤ 1000000) (hDl : D.length = n) (hPl : P.length = n) (hnn : nn < 1000000) (hN : N + 1 < maxLen) {v : Nat} {fr x : Int} (hv : v < n) (_hf : In64 fr) (hx : In64 x) :
    Calls Try.prog 88 #[.pointer (some ⟨gs, 0, none⟩), .int .i64 (v : Nat), .int .i64 fr, .int .i64 x] w fun e w' => e = .returned (.tuple #[]) ∧ ∃ nn' N', nn' ≤ nn + 1 ∧ N' ≤ N + 1 ∧ Srch F W0 w' l g c gs h b n nn' N' (rch (insG g s c) D P κ v fr x).2.2 (rch (insG g s c) D P κ v fr x).1 (rch (insG g s c) D P κ v fr x).2.1 t := by
  obtain ⟨A1, c1, A2, c2, A, c3, L, es, clk, m, h1, h2, h3, h4, hM⟩ := hS
  have hcc : c.n ≤ 9223372036854775807 := by
    rcases Nat.eq_zero_or_pos c.n with q | q
    · omega
    · have := hcn q; omega
  have ho : (insG g s c).op v = !shutV c v := rfl
  have hv1 : v < D.length := by omega
  have hv2 : v < P.length := by omega
  obtain ⟨g1, cur1, rfl, _⟩ := row_form (R.Own.ok hM _ (.tail _ (.tail _ (.tail _ (.head _))))) (by omega)
  obtain ⟨g2, cur2, rfl, _⟩ := row_form (R.Own.ok hM _ (.tail _ (.tail _ (.tail _ (.tail _ (.head _)))))) (by omega)
  refine R.calls_of_WC (fn := Try.f88) Try.func88 rfl Try.ntmps88 (Nat.le_of_ble_eq_true rfl) ?_
  (refine R.stepH ?_; (repeat' (first | (with_reducible refine And.intro ?_ ?_) | (with_reducible intro _))); all_goals refine R.Lft.mk ?_)
  have hM := R.pk (r := .blk gs _ _) R.ohm
  refine R.WO_call2 rfl rfl R.vv R.vv ?_
  refine (open_s hc hcl hcc (v := v) (fun q => by have := hcn q; omega) hM).mono ?_
  rintro _ w2 ⟨rfl, hM⟩
  refine ⟨_, rfl, ?_⟩
  unfold rch
  rw [ho]
  by_cases hop : (!shutV c v) = true
  · by_cases hlt : x < nth D v
    · rw [if_pos ⟨hop, hlt⟩, hop]
      (refine R.stepH ?_; (repeat' (first | (with_reducible refine And.intro ?_ ?_) | (with_reducible intro _))); all_goals refine R.Lft.mk ?_)
      (refine R.WC_planK 1 [(0, false), (1, false), (2, false), (3, false), (4, false), (5, false), (6, false), (7, false), (8, false), (9, false), (10, false), (11, false), (12, false), (13, true), (14, false), (15, true)] R.mixed (by decide +kernel) R.ohm ?_; simp only [List.take_succ_cons, List.take_zero])
      (refine R.stepH ?_; (repeat' (first | (with_reducible refine And.intro ?_ ?_) | (with_reducible intro _))); all_goals refine R.Lft.mk ?_)
      refine R.WO_call2 rfl rfl R.vv R.vv ?_
      refine (set_hp (x := ⟨x, ((v : Nat) : Int)⟩) ⟨A, c3, L, es, clk, m, h1, h2, h3, h4, R.Own.perm R.ohm (List.perm_middle (l₁ := [_, _, _, _, _]))⟩ ⟨hx, by show In64 ((v : Nat) : Int); unfold In64; omega⟩ hnn hN).mono ?_
      rintro _ w5 ⟨rfl, hH⟩
      refine ⟨_, rfl, ?_⟩
      (refine R.stepH ?_; (repeat' (first | (with_reducible refine And.intro ?_ ?_) | (with_reducible intro _))); all_goals refine R.Lft.mk ?_)
      refine ⟨rfl, _, _, ?_, Nat.le_refl _, _, c1, _, c2, hH⟩
      split <;> omega
    · rw [if_neg fun q => hlt q.2, hop]
      (refine R.stepH ?_; (repeat' (first | (with_reducible refine And.intro ?_ ?_) | (with_reducible intro _))); all_goals refine R.Lft.mk ?_)
      exact ⟨rfl, nn, N, by omega, by omega, _, c1, _, c2, A, c3, L, es, clk, m, h1, h2, h3, h4, R.Own.perm R.ohm (List.perm_middle (l₁ := [_, _, _, _, _]))⟩
  · rw [if_neg fun q => hop q.1, Bool.eq_false_iff.2 hop]
    (refine R.stepH ?_; (repeat' (first | (with_reducible refine And.intro ?_ ?_) | (with_reducible intro _))); all_goals refine R.Lft.mk ?_)
    exact ⟨rfl, nn, N, by omega, by omega, _, c1, _, c2, A, c3, L, es, clk, m, h1, h2, h3, h4, R.Own.perm R.ohm (List.perm_middle (l₁ := [_, _, _, _, _]))⟩
end
end Go.Proofs.Ytegbidklcaccjaa
