/- The law DijkClosed: the walk. -/
import Derived.Test.YtegbidklcaccjaaDm
namespace Go.Proofs.Ytegbidklcaccjaa
open Go.ChangeShapes Go.WideShapes Go.ChangeAt Go.RowKit
open R (In64 InU64 lo64 nth)
/-- What is closed, with one more. -/
def moreC (n : Nat) (c : R.Sl Bool) (v : Nat) : List Bool := (if c.n = 0 then List.replicate n false else c.L).set v true
theorem nth_putB {L : List Bool} {v w : Nat} {c : Bool} (hv : v < L.length) : nth (L.set v c) w = if v = w then c else nth L w := by
  unfold R.nth
  rw [List.getD_eq_getElem?_getD, List.getD_eq_getElem?_getD, List.getElem?_set]
  by_cases e : v = w
  · subst e; rw [if_pos rfl, if_pos hv, if_pos rfl]; rfl
  · rw [if_neg e, if_neg e]
section
variable {g : Gph} {s : R.Sl Item} {c : R.Sl Bool} {n : Nat}
theorem more_len (hc : c.n = c.L.length) (hn : 0 < c.n → c.n = n) (v : Nat) : (moreC n c v).length = n := by
  unfold moreC
  rw [List.length_set]
  split
  · simp
  · have := hn (by omega); omega
theorem more_shut (hc : c.n = c.L.length) (hn : 0 < c.n → c.n = n) {v u : Nat} (hv : v < n) (d : R.Sl Bool) (hd : d.n = n) (hL : d.L = moreC n c v) : (shutV c u = true → shutV d u = true) ∧ shutV d v = true := by
  have h0 : 0 < d.n := by omega
  unfold shutV
  rw [hL, decide_eq_true h0, Bool.true_and, Bool.true_and]
  have hl : v < (if c.n = 0 then List.replicate n false else c.L).length := by
    split
    · simpa using hv
    · have := hn (by omega); omega
  unfold moreC
  rw [nth_putB hl, nth_putB hl, if_pos rfl]
  refine ⟨fun h => ?_, rfl⟩
  split
  · rfl
  · have hcn : 0 < c.n := by
      rcases Nat.eq_zero_or_pos c.n with e | e
      · rw [e] at h; simp at h
      · exact e
    rw [if_neg (by omega)]
    rw [decide_eq_true hcn, Bool.true_and] at h
    exact h
end
section
variable (g : Gph) (s : R.Sl Item) (c : R.Sl Bool) (w : World) (hQ : Ask w g s c)
include hQ
set_option maxHeartbeats 16000000 in
theorem dijkClosed_any (xa xb : Int) (_hxa : In64 xa) (_hxb : In64 xb) : Calls Try.prog 8 #[.agg (cGph g).toArray, .agg ([.slice s.A s.n s.c, .slice c.A c.n c.c] : List Value).toArray, .agg ([.int .i64 xa, .int .i64 xb] : List Value).toArray] w fun e w' => e = .returned (.bool true) ∧ Below w.heap.size w w' := by
  have hM := R.Own.start [] w
  refine R.calls_of_WC (fn := Try.f8) Try.func8 rfl Try.ntmps8 (Nat.le_of_ble_eq_true rfl) ?_
  by_cases hl : g.st.n ≤ 40 ∧ g.hd.n ≤ 300 ∧ g.wt.n ≤ 300 ∧ s.n ≤ 1010 ∧ c.n ≤ 60
  · obtain ⟨l1, l2, l3, l4, l5⟩ := hl
    have hd : decide (g.st.n ≤ 40 ∧ g.hd.n ≤ 300 ∧ g.wt.n ≤ 300 ∧ s.n ≤ 1010 ∧ c.n ≤ 60) = true := decide_eq_true ⟨l1, l2, l3, l4, l5⟩
    (refine R.stepH ?_; (repeat' (first | (with_reducible refine And.intro ?_ ?_) | (with_reducible intro _))); all_goals refine R.Lft.mk ?_)
    all_goals first
      | exact nb_t hd (by assumption)
      | skip
    rename_i gb _ _ gf _ _ gp _ _ _ _ _
    refine R.WO_call3 rfl rfl R.vv R.vv R.vv ?_
    refine (may_a g s c _ (Ask.now R.ohm hQ)).mono ?_
    rintro _ w3 ⟨rfl, hb3⟩
    have hM := R.Own.call R.ohm hb3
    refine ⟨_, rfl, ?_⟩
    by_cases hm : ¬ MayS g s c
    · rw [mayS_f hm]
      (refine R.stepH ?_; (repeat' (first | (with_reducible refine And.intro ?_ ?_) | (with_reducible intro _))); all_goals refine R.Lft.mk ?_; (all_goals (try (exact ⟨rfl, R.Own.below (by assumption)⟩))))
    have hm := Classical.not_not.1 hm
    rw [mayS_t hm]
    by_cases h1000 : 1000 ≤ s.n
    · (refine R.stepH ?_; (repeat' (first | (with_reducible refine And.intro ?_ ?_) | (with_reducible intro _))); all_goals refine R.Lft.mk ?_; (all_goals (try (exact ⟨rfl, R.Own.below (by assumption)⟩))))
    have n1 := hm.1.n1
    have n2 := hm.1.n2
    by_cases hr : ¬ (0 ≤ xa ∧ xa < (g.st.n : Int) - 1 ∧ 0 ≤ xb ∧ xb ≤ 1152921504606846976)
    · by_cases r1 : xa < 0
      · (refine R.stepH ?_; (repeat' (first | (with_reducible refine And.intro ?_ ?_) | (with_reducible intro _))); all_goals refine R.Lft.mk ?_; (all_goals (try (exact ⟨rfl, R.Own.below (by assumption)⟩))))
      by_cases r2 : (g.st.n : Int) - 1 ≤ xa
      · (refine R.stepH ?_; (repeat' (first | (with_reducible refine And.intro ?_ ?_) | (with_reducible intro _))); all_goals refine R.Lft.mk ?_; (all_goals (try (exact ⟨rfl, R.Own.below (by assumption)⟩))))
      by_cases r3 : xb < 0
      · (refine R.stepH ?_; (repeat' (first | (with_reducible refine And.intro ?_ ?_) | (with_reducible intro _))); all_goals refine R.Lft.mk ?_; (all_goals (try (exact ⟨rfl, R.Own.below (by assumption)⟩))))
      · have r4 : 1152921504606846976 < xb := by omega
        (refine R.stepH ?_; (repeat' (first | (with_reducible refine And.intro ?_ ?_) | (with_reducible intro _))); all_goals refine R.Lft.mk ?_; (all_goals (try (exact ⟨rfl, R.Own.below (by assumption)⟩))))
    obtain ⟨r1, r2, r3, r4⟩ := Classical.not_not.1 hr
    obtain ⟨v, rfl⟩ : ∃ v : Nat, xa = ((v : Nat) : Int) := ⟨xa.toNat, by omega⟩
    obtain ⟨n, hn⟩ : ∃ n, g.st.n - 1 = n := ⟨_, rfl⟩
    have hgt : ((g.st.n : Int) - 1).toNat = n := by omega
    have hgn : (g.st.n : Int) - 1 = (n : Nat) := by omega
    have hcl := hQ.2.2.2.1
    have hcn : 0 < c.n → c.n = n := fun h => by have := hm.2.2.1 h; omega
    (refine R.stepH ?_; (repeat' (first | (with_reducible refine And.intro ?_ ?_) | (with_reducible intro _))); all_goals refine R.Lft.mk ?_)
    rename_i A1 _ hM
    rw [hgt] at hM ⊢
    rw [hgn]
    refine WO_cpC rfl rfl rfl R.ohm hcn (R.Own.rdIn R.ohm hQ.2.2.1) (fun w6 hM => ?_)
    have hml := more_len hcl hcn v
    obtain ⟨L0, hL0⟩ : ∃ L0, (if c.n = 0 then List.replicate n false else c.L) = L0 := ⟨_, rfl⟩
    have hL0l : L0.length = n := by rw [← hml]; unfold moreC; rw [hL0, List.length_set]
    have hmc : L0.set v true = moreC n c v := by unfold moreC; rw [hL0]
    rw [hL0] at hM
    (refine R.stepH ?_; (repeat' (first | (with_reducible refine And.intro ?_ ?_) | (with_reducible intro _))); all_goals refine R.Lft.mk ?_)
    rename_i _ hM
    rw [hmc] at hM
    have hm2 : MayS g s ⟨A1, n, n, moreC n c v⟩ := ⟨hm.1, hm.2.1, fun _ => (show n + 1 = g.st.n by omega), hm.2.2.2⟩
    have hm3 : MayS g ⟨none, s.n + 1, s.n + 1, s.L ++ [Item.mk xb ((v : Nat) : Int)]⟩ c := ⟨hm.1, (show s.n + 1 ≤ 1000 by omega), hm.2.2.1, fun z hz => by
      rcases List.mem_append.1 hz with q | q
      · exact hm.2.2.2 z q
      · rw [List.mem_singleton.1 q]
        exact ⟨r1, (show ((v : Nat) : Int) + 1 < g.st.n by omega), r3, r4⟩⟩
    refine R.WO_call3 rfl rfl R.vv R.vv R.vv ?_
    refine (all21_ok g s c _ (Ask.now R.ohm hQ) hm (by omega) l2).mono ?_
    rintro _ w7 ⟨A2, c2, Da, Pa, Sa, hLa, rfl, hGa⟩
    have hM := R.Own.give R.ohm hGa
    refine ⟨_, rfl, ?_⟩
    (refine R.stepH ?_; (repeat' (first | (with_reducible refine And.intro ?_ ?_) | (with_reducible intro _))); all_goals refine R.Lft.mk ?_)
    refine R.WO_call3 rfl rfl R.vv R.vv R.vv ?_
    refine (all21_ok g s ⟨A1, n, n, moreC n c v⟩ _ (Ask.cl (Ask.now R.ohm hQ) (R.Own.inp R.ohm (.tail _ (.head _))) hml.symm ⟨Nat.le_refl n, by omega⟩) hm2 (by omega) l2).mono ?_
    rintro _ w8 ⟨A3, c3, Db, Pb, Sb, hLb, rfl, hGb⟩
    have hM := R.Own.give R.ohm hGb
    refine ⟨_, rfl, ?_⟩
    (refine R.stepH ?_; (repeat' (first | (with_reducible refine And.intro ?_ ?_) | (with_reducible intro _))); all_goals refine R.Lft.mk ?_)
    have hsI := hQ.2.1.1
    have hsl := hQ.2.1.2.1
    have hDa : Da.length = n := by rw [← hn]; exact hLa.dl
    have hDb : Db.length = n := by rw [← hn]; exact hLb.dl
    refine R.WC_cut2 (ι := Option Addr × Nat × List Int) (fun i => [(5, .pointer (some ⟨gp, 0, none⟩)), (6, .bool false), (7, .int .i64 (n : Nat)), (9, .slice A2 Da.length c2), (10, .int .i64 0), (11, .slice A3 Db.length c3), (12, .int .i64 0), (13, .slice i.1 i.2.2.length i.2.1), (14, .int .i64 0)])
      (fun i w2 => (∃ P S, Least (insG g ⟨none, s.n + 1, s.n + 1, s.L ++ [Item.mk xb ((v : Nat) : Int)]⟩ c) i.2.2 P S) ∧ R.Own [] w w2 [.row i.1 i.2.2.length i.2.1 3 1 (i.2.2.flatMap R.cI), .row A3 Db.length c3 3 1 (Db.flatMap R.cI), .row A2 Da.length c2 3 1 (Da.flatMap R.cI), .blk gp 75 [.int .i64 (v : Nat), .int .i64 xb]]) ?h1 ?h2
    case h1 =>
      refine R.WC_planF (.q 0 (.q 2 (.q 3 (.q 5 (.q 6 (.q 7 (.q 8 (.q 9 (.q 12 (.q 13 (.f 1 10 (.f 4 10 (.e 10 (.e 11 (.e 14 (.q 15 (.q 16 (.q 17 (.q 18 (.q 19 .nil)))))))) (.e 4 (.e 11 (.e 14 (.q 15 (.q 16 (.q 17 (.q 18 (.q 19 .nil))))))))) (.e 1 (.e 4 (.e 11 (.e 14 (.q 15 (.q 16 (.q 17 (.q 18 (.q 19 .nil))))))))))))))))))) ) R.mixed (by decide +kernel) R.ohm ?_
      (refine R.stepT ?_; (repeat' (first | (with_reducible refine And.intro ?_ ?_) | (with_reducible intro _))); all_goals refine R.Lft.mk ?_)
      all_goals
        rename_i A9 c9 _ hM
        rw [Nat.zero_add, List.nil_append] at hM
        rw [Nat.zero_add]
        have hcap := cap_ofD hM (.head _)
        refine R.WO_call3 rfl rfl R.vv R.vv R.vv ?_
        refine (all21_ok g ⟨A9, s.n + 1, c9, s.L ++ [Item.mk xb ((v : Nat) : Int)]⟩ c _ (Ask.st (Ask.now R.ohm hQ) (R.Own.inp R.ohm (.head _)) (by simp [hsl]) hcap (fun z hz => ?_)) hm3 (by omega) l2).mono ?_
        · rcases List.mem_append.1 hz with q | q
          · have := hm.2.2.2 z q
            unfold In64
            omega
          · rw [List.mem_singleton.1 q]
            dsimp only
            unfold In64
            omega
        rintro _ w9 ⟨A4, c4, Dc, Pc, Sc, hLc, rfl, hGc⟩
        have hM := R.Own.give R.ohm hGc
        first
          | refine ⟨_, rfl, R.Own.sub R.ohm R.subl, ?_⟩
          | refine ⟨_, rfl, ?_⟩
        (refine R.stepT ?_; (repeat' (first | (with_reducible refine And.intro ?_ ?_) | (with_reducible intro _))); all_goals refine R.Lft.mk ?_)
        all_goals exact ⟨rfl, (A4, c4, Dc), ⟨rfl, rfl, rfl, rfl, rfl, rfl, rfl, rfl, rfl, trivial⟩, ⟨_, _, hLc⟩, R.Own.sub R.ohm R.subl⟩
    case h2 =>
      rintro ⟨A4, c4, Dc⟩ f w9 ⟨⟨Pc, Sc, hLc⟩, hM⟩
      dsimp only at hLc hM ⊢
      have hDc : Dc.length = n := by rw [← hn]; exact hLc.dl
      rw [hDa, hDb, hDc] at hM
      rw [hDa, hDb, hDc]
      have hI := insG_ok hm
      have hI3 := insG_ok hm3
      have hsh := fun u => more_shut (u := u) hcl hcn (v := v) (by omega) ⟨A1, n, n, moreC n c v⟩ rfl rfl
      have hab : ∀ k, k < n → nth Da k ≤ nth Db k := fun k hk => least_le hLa hLb rfl rfl rfl rfl hI (fun u _ ho => by
        have ho : (!shutV ⟨A1, n, n, moreC n c v⟩ u) = true := ho
        show (!shutV c u) = true
        cases hb : shutV c u
        · rfl
        · rw [(hsh u).1 hb] at ho
          cases ho) (fun _ q => q) k (by show k < g.st.n - 1; omega)
      have hca : ∀ k, k < n → nth Dc k ≤ nth Da k := fun k hk => least_le hLc hLa rfl rfl rfl rfl hI3 (fun _ _ ho => ho) (fun z hz => by
        obtain ⟨y, hy, rfl⟩ := List.mem_map.1 hz
        exact List.mem_map.2 ⟨y, List.mem_append.2 (.inl hy), rfl⟩) k (by show k < g.st.n - 1; omega)
      have hbv : nth Db v = 4611686018427387904 := by
        have h4 : g.st.n - 1 ≤ 4000 := hI.n1
        rcases hLb.bd v (by show v < g.st.n - 1; omega) with e | e
        · exact e
        · have e2 : nth Db v ≤ 1152921504606846976 + ((g.st.n - 1 : Nat) : Int) * 2147483648 := e.2
          have ho := (hLb.su v (by show v < g.st.n - 1; omega) (by omega)).1
          have ho : (!shutV ⟨A1, n, n, moreC n c v⟩ v) = true := ho
          rw [(hsh v).2] at ho
          cases ho
      (refine R.stepH ?_; (repeat' (first | (with_reducible refine And.intro ?_ ?_) | (with_reducible intro _))); all_goals refine R.Lft.mk ?_)
      refine R.WC_loop (fun k : Nat => [(5, .pointer (some ⟨gp, 0, none⟩)), (6, .bool false), (7, .int .i64 (n : Nat)), (9, .slice A2 n c2), (11, .slice A3 n c3), (13, .slice A4 n c4), (15, .int .i64 (k : Nat))])
        (fun k w1 => k ≤ n ∧ R.Own [] w w1 [.row A4 n c4 3 1 (Dc.flatMap R.cI), .row A3 n c3 3 1 (Db.flatMap R.cI), .row A2 n c2 3 1 (Da.flatMap R.cI), .blk gp 75 [.int .i64 (v : Nat), .int .i64 xb]]) (fun k => n - k) ⟨0, ⟨rfl, rfl, rfl, rfl, rfl, rfl, rfl, trivial⟩, Nat.zero_le _, R.ohm⟩ ?_
      clear hM
      rintro k f w10 ⟨hk, hM⟩
      by_cases hlt : k < n
      · have q1 := hab k hlt
        have q2 := hca k hlt
        (refine R.stepH ?_; (repeat' (first | (with_reducible refine And.intro ?_ ?_) | (with_reducible intro _))); all_goals refine R.Lft.mk ?_)
        exact ⟨k + 1, ⟨rfl, rfl, rfl, rfl, rfl, rfl, R.viaI rfl (by omega), trivial⟩, ⟨by omega, R.ohm⟩, by omega⟩
      · (refine R.stepH ?_; (repeat' (first | (with_reducible refine And.intro ?_ ?_) | (with_reducible intro _))); all_goals refine R.Lft.mk ?_; (all_goals (try (exact ⟨rfl, R.Own.below (by assumption)⟩))))
  · have hd : decide (g.st.n ≤ 40 ∧ g.hd.n ≤ 300 ∧ g.wt.n ≤ 300 ∧ s.n ≤ 1010 ∧ c.n ≤ 60) = false := decide_eq_false hl
    (refine R.stepH ?_; (repeat' (first | (with_reducible refine And.intro ?_ ?_) | (with_reducible intro _))); all_goals refine R.Lft.mk ?_; (all_goals (try (exact ⟨rfl, R.Own.below (by assumption)⟩))))
    all_goals exact nb_f hd (by assumption)
end
set_option maxRecDepth 100000 in
theorem walk_DijkClosed {H : Type} {enc : TypeId × Value → H} (W : World) (base : Nat) (args : Array Value) (ds : List (DataW H)) (ps : List MemPlace) (hA : DataW.TrodAll enc Try.prog W 0 (fun _ => true) true [24, 58, 75] args.toList ds ps)
    (hval : ∀ (j : Nat) t v, #[24, 58, 75][j]? = some t → args[j]? = some v → Value.okWide Try.prog W .any base t v) :
    Calls Try.prog 8 args W fun e W' => e = .returned (.bool true) ∧ Below W.heap.size W W' := by
  obtain ⟨v0, v1, v2, d0, d1, d2, p0, p1, p2, rfl, rfl, rfl, h0, h1, h2⟩ := trodAll_three hA
  obtain ⟨z0, q0, g0, a0, b0⟩ := R.open_arg (hval 0 24 v0 rfl rfl) h0
  obtain ⟨z1, q1, g1, a1, b1⟩ := R.open_arg (hval 1 58 v1 rfl rfl) h1
  obtain ⟨z2, q2, g2, a2, b2⟩ := R.open_arg (hval 2 75 v2 rfl rfl) h2
  obtain rfl := a0 (by kernel_rfl)
  obtain rfl := a1 (by kernel_rfl)
  obtain rfl := a2 (by kernel_rfl)
  exact dijkClosed_any z0 z1.s z1.c W ⟨g0, g1.1, g1.2⟩ z2.a z2.b g2.1 g2.2
end Go.Proofs.Ytegbidklcaccjaa
