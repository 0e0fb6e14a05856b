/- Package dijk: All, Settled; what a search's end says of the least costs. -/
import Derived.Test.YtegbidklcaccjaaDa
namespace Go.Proofs.Ytegbidklcaccjaa
open Go.RowKit
open R (In64 InU64 lo64 nth)
theorem R.Own.giveM {F : List Nat} {W w w' : World} {l lc : List R.Res} (h : R.Own F W w l) (hc : R.Own [] w w' lc) : R.Own F W w' (l ++ lc) := R.Own.callF (l := l) (lc := []) (by rw [List.append_nil]; exact h) hc
/-- What a search that ended says of the least costs. -/
def EndL (I : Ins) (D : List Int) (to : Int) (t : Nat) (D' : List Int) (S' : List Nat) : Prop :=
  (D' = D ∧ (∀ u ∈ S', ((u : Nat) : Int) ≠ to) ∧ t = S'.length) ∨
  (∃ (T : List Nat) (v : Nat), to = ((v : Nat) : Int) ∧ v < I.n ∧ nth D' v = nth D v ∧ nth D v < 4611686018427387904 ∧ (∀ u, u < I.n → nth D' u < nth D v → u ∈ T) ∧ t = T.length ∧ T.length ≤ I.n)
theorem RunEnd.least {I : Ins} (hI : I.Ok) {D P : List Int} {to : Int} {t : Nat} (h : RunEnd I D P to t) : ∃ D' P' S', Least I D' P' S' ∧ EndL I D to t D' S' := by
  rcases h with ⟨κ, S, k, h1, h2, h3, h4⟩ | ⟨κ, T, v, h1, h2, h3, h4⟩
  · exact ⟨D, P, S, h1.all h2, .inl ⟨rfl, h3, h4⟩⟩
  · have hmem : v ∈ T ++ [v] := List.mem_append.2 (.inr (List.mem_singleton.2 rfl))
    obtain ⟨D1, P1, κ1, r1, r2⟩ := Dv.relaxAll hI hmem h3 (I.S (v + 1)) D P κ (I.S v) h2 rfl (Nat.le_refl _) (by omega)
    obtain ⟨D2, P2, S2, s1, s2, _, s4⟩ := Dv.go hI I.n D1 P1 κ1 _ _ r1 (by omega)
    have hl := h2.len
    rw [List.length_append, List.length_singleton] at hl
    refine ⟨D2, P2, S2, s1, .inr ⟨T, v, h1, (h2.fi v hmem).1, by rw [(s2 v hmem).1, (r2 v hmem).1], (h2.fi v hmem).2, fun u hu hlt => ?_, h4, by omega⟩⟩
    rcases Classical.em (u ∈ T ++ [v]) with c | c
    · rcases List.mem_append.1 c with c | c
      · exact c
      · rw [List.mem_singleton.1 c, (s2 v hmem).1, (r2 v hmem).1] at hlt
        omega
    · have := s4 u hu c
      omega
/-- What a search is asked of. -/
def Ask (W : World) (g : Gph) (s : R.Sl Item) (c : R.Sl Bool) : Prop := GGph W g ∧ R.GSl cItem 2 GItem W s ∧ R.GSl R.cB 1 GB W c
theorem Ask.now {W w : World} {l : List R.Res} {g : Gph} {s : R.Sl Item} {c : R.Sl Bool} (hM : R.Own [] W w l) (h : Ask W g s c) : Ask w g s c :=
  ⟨GGph.now hM h.1, ⟨R.Own.inpIn hM h.2.1.1, h.2.1.2.1, h.2.1.2.2.1, h.2.1.2.2.2⟩, ⟨R.Own.inpIn hM h.2.2.1, h.2.2.2.1, h.2.2.2.2.1, h.2.2.2.2.2⟩⟩
theorem check_a (g : Gph) (s : R.Sl Item) (c : R.Sl Bool) (w : World) (h : Ask w g s c) : Calls Try.prog 64 #[.agg (cGph g).toArray, .slice s.A s.n s.c, .slice c.A c.n c.c] w fun e w' => e = .returned (.int .i64 (if mayS g s c = true then 0 else 1)) ∧ Below w.heap.size w w' := check21_any g s c w h.1 h.2.1 h.2.2
theorem may_a (g : Gph) (s : R.Sl Item) (c : R.Sl Bool) (w : World) (h : Ask w g s c) : Calls Try.prog 32 #[.agg (cGph g).toArray, .slice s.A s.n s.c, .slice c.A c.n c.c] w fun e w' => e = .returned (.bool (mayS g s c)) ∧ Below w.heap.size w w' := may21_any g s c w h.1 h.2.1 h.2.2
theorem run_a (g : Gph) (s : R.Sl Item) (c : R.Sl Bool) (to : Int) (w : World) (h : Ask w g s c) (hm : MayS g s c) (h40 : g.st.n ≤ 41) (h300 : g.hd.n ≤ 300) : Calls Try.prog 65 #[.agg (cGph g).toArray, .slice s.A s.n s.c, .slice c.A c.n c.c, .int .i64 to] w fun e w' => ∃ gs h b nn N κ D P t, e = .returned (.pointer (some ⟨gs, 0, none⟩)) ∧ Srch [] w w' [] g c gs h b (g.st.n - 1) nn N κ D P ((t : Nat) : Int) ∧ RunEnd (insG g s c) D P to t := run_any g s c to w h.1 h.2.1 h.2.2 hm h40 h300
theorem rall_a (g : Gph) (s : R.Sl Item) (c : R.Sl Bool) (w : World) (h : Ask w g s c) (hm : MayS g s c) (h40 : g.st.n ≤ 41) (h300 : g.hd.n ≤ 300) {D P : List Int} {S : List Nat} (hL : Least (insG g s c) D P S) : Calls Try.prog 34 #[.agg (cGph g).toArray, .slice s.A s.n s.c, .slice c.A c.n c.c] w fun e w' => ∃ A1 c1, e = .returned (.slice A1 D.length c1) ∧ R.Gives w w' A1 D.length c1 3 1 (D.flatMap R.cI) := rall_any g s c w h.1 h.2.1 h.2.2 hm h40 h300 hL
section
variable (g : Gph) (s : R.Sl Item) (c : R.Sl Bool) (w : World) (hQ : Ask w g s c)
include hQ
theorem all21_no (hm : ¬ MayS g s c) : Calls Try.prog 41 #[.agg (cGph g).toArray, .slice s.A s.n s.c, .slice c.A c.n c.c] w fun e w' => e = .returned (.tuple #[.slice none 0 0, .int .i64 1]) ∧ Below w.heap.size w w' := by
  have hM := R.Own.start [] w
  refine R.calls_of_WC (fn := Try.f41) Try.func41 rfl Try.ntmps41 (Nat.le_of_ble_eq_true rfl) ?_
  (refine R.stepH ?_; (repeat' (first | (with_reducible refine And.intro ?_ ?_) | (with_reducible intro _))); all_goals refine R.Lft.mk ?_)
  refine R.WO_call3 rfl rfl R.vv R.vv R.vv ?_
  refine (check_a g s c _ (Ask.now R.ohm hQ)).mono ?_
  rintro _ w3 ⟨rfl, hb3⟩
  have hM := R.Own.call R.ohm hb3
  refine ⟨_, rfl, ?_⟩
  rw [mayS_f hm]
  (refine R.stepH ?_; (repeat' (first | (with_reducible refine And.intro ?_ ?_) | (with_reducible intro _))); all_goals refine R.Lft.mk ?_; (all_goals (try (exact ⟨rfl, R.Own.below (by assumption)⟩))))
theorem all21_ok (hm : MayS g s c) (h40 : g.st.n ≤ 41) (h300 : g.hd.n ≤ 300) : Calls Try.prog 41 #[.agg (cGph g).toArray, .slice s.A s.n s.c, .slice c.A c.n c.c] w fun e w' => ∃ A1 c1 D P S, Least (insG g s c) D P S ∧ e = .returned (.tuple #[.slice A1 D.length c1, .int .i64 0]) ∧ R.Gives w w' A1 D.length c1 3 1 (D.flatMap R.cI) := by
  have hM := R.Own.start [] w
  refine R.calls_of_WC (fn := Try.f41) Try.func41 rfl Try.ntmps41 (Nat.le_of_ble_eq_true rfl) ?_
  (refine R.stepH ?_; (repeat' (first | (with_reducible refine And.intro ?_ ?_) | (with_reducible intro _))); all_goals refine R.Lft.mk ?_)
  refine R.WO_call3 rfl rfl R.vv R.vv R.vv ?_
  refine (check_a g s c _ (Ask.now R.ohm hQ)).mono ?_
  rintro _ w3 ⟨rfl, hb3⟩
  have hM := R.Own.call R.ohm hb3
  refine ⟨_, rfl, ?_⟩
  rw [mayS_t hm]
  (refine R.stepH ?_; (repeat' (first | (with_reducible refine And.intro ?_ ?_) | (with_reducible intro _))); all_goals refine R.Lft.mk ?_)
  refine R.WO_call4 rfl rfl R.vv R.vv R.vv R.vv ?_
  refine (run_a g s c (-1) _ (Ask.now R.ohm hQ) hm h40 h300).mono ?_
  rintro _ w4 ⟨gs, h, b, nn, N, κ, D, P, t, rfl, ⟨A1, c1, A2, c2, A, c3, L, es, clk, m, h1, h2, h3, h4, hO⟩, hE⟩
  have hM := R.Own.giveM R.ohm hO
  simp only [List.cons_append, List.nil_append] at hM
  refine ⟨_, rfl, ?_⟩
  (refine R.stepH ?_; (repeat' (first | (with_reducible refine And.intro ?_ ?_) | (with_reducible intro _))); all_goals refine R.Lft.mk ?_)
  rcases hE with ⟨κ, S, k, q1, q2, q3, q4⟩ | ⟨κ, T, v, q1, _⟩
  · have hL := q1.all q2
    have hDl : D.length = g.st.n - 1 := hL.dl
    refine ⟨A1, c1, D, P, S, hL, by rw [hDl], ?_⟩
    rw [hDl]
    have hM := R.pk (r := .row A1 _ _ _ _ _) R.ohm
    exact R.Own.gives (R.Own.sub hM R.subl)
  · omega
theorem settled_any (hm : MayS g s c) (h40 : g.st.n ≤ 41) (h300 : g.hd.n ≤ 300) (v : Nat) (hv : v + 1 < g.st.n) : Calls Try.prog 42 #[.agg (cGph g).toArray, .slice s.A s.n s.c, .slice c.A c.n c.c, .int .i64 (v : Nat)] w fun e w' => ∃ D P t, RunEnd (insG g s c) D P (v : Nat) t ∧ e = .returned (.tuple #[.int .i64 (t : Nat), .int .i64 0]) ∧ Below w.heap.size w w' := by
  have hM := R.Own.start [] w
  have hn0 := hQ.1.1.2.2.1
  refine R.calls_of_WC (fn := Try.f42) Try.func42 rfl Try.ntmps42 (Nat.le_of_ble_eq_true rfl) ?_
  (refine R.stepH ?_; (repeat' (first | (with_reducible refine And.intro ?_ ?_) | (with_reducible intro _))); all_goals refine R.Lft.mk ?_)
  refine R.WO_call3 rfl rfl R.vv R.vv R.vv ?_
  refine (check_a g s c _ (Ask.now R.ohm hQ)).mono ?_
  rintro _ w3 ⟨rfl, hb3⟩
  have hM := R.Own.call R.ohm hb3
  refine ⟨_, rfl, ?_⟩
  rw [mayS_t hm]
  (refine R.stepH ?_; (repeat' (first | (with_reducible refine And.intro ?_ ?_) | (with_reducible intro _))); all_goals refine R.Lft.mk ?_)
  refine R.WO_call4 rfl rfl R.vv R.vv R.vv R.vv ?_
  refine (run_a g s c (v : Nat) _ (Ask.now R.ohm hQ) hm h40 h300).mono ?_
  rintro _ w4 ⟨gs, h, b, nn, N, κ, D, P, t, rfl, ⟨A1, c1, A2, c2, A, c3, L, es, clk, m, h1, h2, h3, h4, hO⟩, hE⟩
  have hM := R.Own.giveM R.ohm hO
  simp only [List.cons_append, List.nil_append] at hM
  refine ⟨_, rfl, ?_⟩
  (refine R.stepH ?_; (repeat' (first | (with_reducible refine And.intro ?_ ?_) | (with_reducible intro _))); all_goals refine R.Lft.mk ?_)
  exact ⟨D, P, t, hE, rfl, R.Own.below R.ohm⟩
end
theorem less_any (A : Option Addr) (n d : Nat) (L : List Int) (x : Int) (w : World) (hA : R.Inp [] w A n 1 (L.flatMap R.cI)) (hn : n = L.length) (hb : n ≤ 1000000) : Calls Try.prog 43 #[.slice A n d, .int .i64 x] w fun e w' => e = .returned (.int .i64 (lessN L x : Nat)) ∧ Below w.heap.size w w' := by
  have hM := R.Own.start [] w
  refine R.calls_of_WC (fn := Try.f43) Try.func43 rfl Try.ntmps43 (Nat.le_of_ble_eq_true rfl) ?_
  (refine R.stepH ?_; (repeat' (first | (with_reducible refine And.intro ?_ ?_) | (with_reducible intro _))); all_goals refine R.Lft.mk ?_)
  refine R.WC_loop (fun i : Nat => [(0, .slice A n d), (1, .int .i64 x), (4, .int .i64 0), (5, .int .i64 (lessN (L.take i) x : Nat)), (6, .int .i64 (i : Nat))])
    (fun i w1 => i ≤ n ∧ R.Own [] w w1 []) (fun i => n - i) ⟨0, ⟨rfl, rfl, rfl, rfl, rfl, trivial⟩, Nat.zero_le _, hM⟩ ?_
  clear hM
  rintro i f w1 ⟨hi, hM⟩
  by_cases hlt : i < n
  · have hle : lessN (L.take i) x ≤ i := by
      unfold lessN
      refine Nat.le_trans List.countP_le_length ?_
      rw [List.length_take]
      omega
    have htk : lessN (L.take (i + 1)) x = lessN (L.take i) x + if nth L i < x then 1 else 0 := by
      unfold lessN
      rw [take_snoc (by omega), List.countP_append]
      by_cases h : nth L i < x <;> simp [h]
    (refine R.stepH ?_; (repeat' (first | (with_reducible refine And.intro ?_ ?_) | (with_reducible intro _))); all_goals refine R.Lft.mk ?_)
    · rename_i hh
      rw [if_pos hh] at htk
      exact ⟨i + 1, ⟨rfl, rfl, rfl, R.viaI rfl (by rw [htk]; omega), R.viaI rfl (by omega), trivial⟩, ⟨by omega, R.ohm⟩, by omega⟩
    · rename_i hh
      rw [if_neg hh] at htk
      exact ⟨i + 1, ⟨rfl, rfl, rfl, R.viaI rfl (by rw [htk]; omega), R.viaI rfl (by omega), trivial⟩, ⟨by omega, R.ohm⟩, by omega⟩
  · obtain rfl : i = n := by omega
    rw [hn, List.take_length]
    (refine R.stepH ?_; (repeat' (first | (with_reducible refine And.intro ?_ ?_) | (with_reducible intro _))); all_goals refine R.Lft.mk ?_; (all_goals (try (exact ⟨rfl, R.Own.below (by assumption)⟩))))
end Go.Proofs.Ytegbidklcaccjaa
