/- Package dijk: run. -/
import Derived.Test.YtegbidklcaccjaaDu
import Derived.Test.YtegbidklcaccjaaWf
namespace Go.Proofs.Ytegbidklcaccjaa
open Go.RowKit
open R (In64 InU64 lo64 nth)
/-- What follows is told of the slots that live. -/
theorem R.WC_cut2 {P : Program} {n : Nat} {Q : Exit → R.Fr → World → Prop} {f : R.Fr} {w : World} {c : Code} {ι : Type} (L : ι → List (Nat × Value)) (J : ι → World → Prop)
    (h1 : R.WC P n (fun e f' w' => e = .normal ∧ ∃ i, R.Agrees f' (L i) ∧ J i w') c f w) (h2 : ∀ i f w, J i w → Q .normal (R.over (L i) f) w) : R.WC P n Q c f w := by
  unfold R.WC at h1 ⊢
  intro a ha
  refine wp_mono (h1 a ha) fun e a' w' he => ?_
  obtain ⟨f', ha', rfl, i, hag, hJ⟩ := he
  refine ⟨f', ha', ?_⟩
  rw [← R.over_agrees hag]
  exact h2 i f' w' hJ
theorem R.subl {p : Prop} (h : p := by repeat (first | exact List.Sublist.refl _ | apply List.Sublist.cons_cons | apply List.Sublist.cons)) : p := h
theorem srch_pick {F : List Nat} {W0 w : World} {l0 l1 l2 l3 l4 l5 l6 : List R.Res} {g : Gph} {c : R.Sl Bool} {gs h b n nn c1 c2 c3 clk : Nat} {A A1 A2 : Option Addr} {t : Int} {is ds ps : List Value} {es : Array MapEntry} (hM : R.Own F W0 w l0)
    (p1 : R.Pick l0 (.blk gs 115 (cS g c h A1 c1 A2 c2 n t)) l1 := by repeat (first | exact R.Pick.head | apply R.Pick.tail))
    (p2 : R.Pick l1 (.row A2 n c2 3 1 ps) l2 := by repeat (first | exact R.Pick.head | apply R.Pick.tail))
    (p3 : R.Pick l2 (.row A1 n c1 3 1 ds) l3 := by repeat (first | exact R.Pick.head | apply R.Pick.tail))
    (p4 : R.Pick l3 (.blk h 151 [.slice A nn c3, .map (some b)]) l4 := by repeat (first | exact R.Pick.head | apply R.Pick.tail))
    (p5 : R.Pick l4 (.map b es clk) l5 := by repeat (first | exact R.Pick.head | apply R.Pick.tail))
    (p6 : R.Pick l5 (.row A nn c3 72 2 is) l6 := by repeat (first | exact R.Pick.head | apply R.Pick.tail)) :
    R.Own F W0 w (.row A nn c3 72 2 is :: .map b es clk :: .blk h 151 [.slice A nn c3, .map (some b)] :: .row A1 n c1 3 1 ds :: .row A2 n c2 3 1 ps :: .blk gs 115 (cS g c h A1 c1 A2 c2 n t) :: l6) := by
  have h1 := R.Own.perm hM p1.perm
  have h2 := R.Own.perm h1 (p2.perm.cons _)
  have h3 := R.Own.perm h2 ((p3.perm.cons _).cons _)
  have h4 := R.Own.perm h3 (((p4.perm.cons _).cons _).cons _)
  have h5 := R.Own.perm h4 ((((p5.perm.cons _).cons _).cons _).cons _)
  have h6 := R.Own.perm h5 (((((p6.perm.cons _).cons _).cons _).cons _).cons _)
  exact R.Own.perm h6 (List.Perm.append_right l6 (List.reverse_perm [_, _, _, _, _, _]))
theorem Srch.sub {F : List Nat} {W0 w : World} {l l' : List R.Res} {g : Gph} {c : R.Sl Bool} {gs h b n nn N : Nat} {κ : Int → Option Int} {D P : List Int} {t : Int} (hS : Srch F W0 w l g c gs h b n nn N κ D P t) (hs : l'.Sublist l) : Srch F W0 w l' g c gs h b n nn N κ D P t := by
  obtain ⟨A1, c1, A2, c2, A, c3, L, es, clk, m, h1, h2, h3, h4, hM⟩ := hS
  exact ⟨A1, c1, A2, c2, A, c3, L, es, clk, m, h1, h2, h3, h4, R.Own.sub hM (.cons_cons _ (.cons_cons _ (.cons_cons _ (.cons_cons _ (.cons_cons _ (.cons_cons _ hs))))))⟩
/-- How a search ends. -/
def RunEnd (I : Ins) (D P : List Int) (to : Int) (t : Nat) : Prop :=
  (∃ κ S k, Dv I I.st.length D P κ S k I.n 0 ∧ (∀ a, κ a = none) ∧ (∀ u ∈ S, ((u : Nat) : Int) ≠ to) ∧ t = S.length) ∨
  (∃ κ T v, to = ((v : Nat) : Int) ∧ Dv I I.st.length D P κ (T ++ [v]) (nth D v) v (I.S v) ∧ nth D v + 2147483648 ≤ 1152921504606846976 + (T ++ [v]).length * 2147483648 ∧ t = T.length)
theorem hp_none {F : List Nat} {W0 w : World} {l : List R.Res} {g b N : Nat} {κ : Int → Option Int} (h : Hp F W0 w l g b 0 N κ) : ∀ a, κ a = none := by
  obtain ⟨A, c, L, es, clk, m, h1, h2, h3, h4, hM⟩ := h
  intro a
  cases hk : κ a with
  | none => rfl
  | some k =>
    have := (h2.has ⟨k, a⟩).2 hk
    rw [List.eq_nil_of_length_eq_zero h1] at this
    cases this
theorem dv_init {I : Ins} {D P : List Int} (hD : D.length = I.n) (hP : P.length = I.n) (h1 : ∀ v, v < I.n → nth D v = 4611686018427387904) : Dv I 0 D P (fun _ => none) [] 0 I.n 0 :=
  ⟨hD, hP, fun v hv => .inl (h1 v hv), fun a c => ⟨fun h => (by cases h), fun ⟨v, hv, _, _, e1, e2⟩ => by rw [h1 v hv] at e1; omega⟩, fun u hu => (by cases hu), List.nodup_nil, fun u hu => (by cases hu), fun v hv _ => by rw [h1 v hv]; omega, fun u hu => (by cases hu), fun v hv hf => by rw [h1 v hv] at hf; omega, fun s hs => by simp at hs⟩
section
variable (g : Gph) (s : R.Sl Item) (c : R.Sl Bool) (to : Int) (w : World) (hG : GGph w g) (hs : R.GSl cItem 2 GItem w s) (hc : R.GSl R.cB 1 GB w c) (hm : MayS g s c) (h40 : g.st.n ≤ 41) (h300 : g.hd.n ≤ 300)
include hG hs hc hm h40 h300
set_option maxHeartbeats 8000000 in
theorem run_any : Calls Try.prog 65 #[.agg (cGph g).toArray, .slice s.A s.n s.c, .slice c.A c.n c.c, .int .i64 to] w fun e w' => ∃ gs h b nn N κ D P t, e = .returned (.pointer (some ⟨gs, 0, none⟩)) ∧ Srch [] w w' [] g c gs h b (g.st.n - 1) nn N κ D P ((t : Nat) : Int) ∧ RunEnd (insG g s c) D P to t := by
  have hM := R.Own.start [] w
  have hI := insG_ok hm
  obtain ⟨hg, hs1000, hcn, hsk⟩ := hm
  have n1 := hg.n1
  obtain ⟨⟨hA, hal, hac, hag⟩, ⟨hB, hbl, hbc, hbg⟩, ⟨hC, hcl, hcc, hcg⟩⟩ := hG
  obtain ⟨n, hn⟩ : ∃ n, g.st.n - 1 = n := ⟨_, rfl⟩
  have hIn : (insG g s c).n = n := hn
  have hgn : (g.st.n : Int) - 1 = (n : Nat) := by omega
  rw [hn]
  refine R.calls_of_WC (fn := Try.f65) Try.func65 rfl Try.ntmps65 (Nat.le_of_ble_eq_true rfl) ?_
  (refine R.stepH ?_; (repeat' (first | (with_reducible refine And.intro ?_ ?_) | (with_reducible intro _))); all_goals refine R.Lft.mk ?_)
  rw [hgn]
  rename_i gb _ hM0
  refine R.WC_cut2 (ι := Nat × Nat × Nat) (fun i => [(1, .slice s.A s.n s.c), (3, .int .i64 to), (4, .pointer (some ⟨gb, 0, none⟩)), (8, .pointer none), (9, .int .i64 (n : Nat)), (10, .pointer (some ⟨i.1, 0, none⟩))])
    (fun i w2 => Srch [] w w2 [.blk gb 24 (cGph g)] g c i.1 i.2.1 i.2.2 n 0 0 (fun _ => none) (List.replicate n 0) (List.replicate n 0) 0) ?h1 ?h2
  case h1 =>
    refine R.WC_planF (.q 0 (.q 1 (.q 3 (.q 5 (.g 2 4 6 (.f 4 6 (.e 6 (.q 7 (.e 8 (.q 9 .nil)))) (.e 4 (.q 7 (.e 8 (.q 9 .nil))))) (.f 2 6 (.e 6 (.q 7 (.e 8 (.q 9 .nil)))) (.e 2 (.q 7 (.e 8 (.q 9 .nil))))) (.f 2 4 (.e 4 (.q 7 (.e 8 (.q 9 .nil)))) (.e 2 (.q 7 (.e 8 (.q 9 .nil)))))))))) R.mixed (by decide +kernel) R.ohm ?_
    (refine R.stepT ?_; (repeat' (first | (with_reducible refine And.intro ?_ ?_) | (with_reducible intro _))); all_goals refine R.Lft.mk ?_)
    all_goals
      refine R.WO_call0 rfl rfl  ?_
      refine (new_hp R.ohm).mono ?_
      rintro _ w3 ⟨h, b, rfl, A, c3, L, es, clk, m, h1, h2, h3, h4, hM⟩
      refine ⟨_, rfl, ?_⟩
      (refine R.stepT ?_; (repeat' (first | (with_reducible refine And.intro ?_ ?_) | (with_reducible intro _))); all_goals refine R.Lft.mk ?_)
      all_goals
        refine ⟨R.Own.sub R.ohm R.subl, ?_⟩
        (refine R.stepT ?_; (repeat' (first | (with_reducible refine And.intro ?_ ?_) | (with_reducible intro _))); all_goals refine R.Lft.mk ?_)
        all_goals
          exact ⟨rfl, (_, _, _), ⟨rfl, rfl, rfl, rfl, rfl, rfl, trivial⟩, _, _, _, _, _, _, _, _, _, _, h1, h2, h3, h4, srch_pick R.ohm⟩
  case h2 =>
    rintro ⟨gs, h, b⟩ f w2 ⟨A1, c1, A2, c2, A, c3, L, es, clk, m, h1, h2, h3, h4, hM⟩
    dsimp only at hM ⊢
    have hM := R.pk (r := .blk gs _ _) hM
    (refine R.stepH ?_; (repeat' (first | (with_reducible refine And.intro ?_ ?_) | (with_reducible intro _))); all_goals refine R.Lft.mk ?_)
    refine R.WC_loop (fun i : Nat × List Int × List Int => [(1, .slice s.A s.n s.c), (3, .int .i64 to), (4, .pointer (some ⟨gb, 0, none⟩)), (8, .pointer none), (10, .pointer (some ⟨gs, 0, none⟩)), (30, .int .i64 (n : Nat)), (31, .int .i64 (i.1 : Nat))])
      (fun i w1 => i.1 ≤ n ∧ i.2.1.length = n ∧ i.2.2.length = n ∧ (∀ v, v < i.1 → nth i.2.1 v = 4611686018427387904) ∧ R.Own [] w w1 [.blk gs 115 (cS g c h A1 c1 A2 c2 n 0), .row A 0 c3 72 2 (L.flatMap cItem), .map b es clk, .blk h 151 [.slice A 0 c3, .map (some b)], .row A1 n c1 3 1 (i.2.1.flatMap R.cI), .row A2 n c2 3 1 (i.2.2.flatMap R.cI), .blk gb 24 (cGph g)]) (fun i => n - i.1)
      ⟨(0, List.replicate n 0, List.replicate n 0), ⟨rfl, rfl, rfl, rfl, rfl, rfl, rfl, trivial⟩, Nat.zero_le _, by simp, by simp, fun v hv => absurd hv (Nat.not_lt_zero _), R.ohm⟩ ?_
    clear hM
    rintro ⟨k, D, P⟩ f w3 ⟨hk, hDl, hPl, hall, hM⟩
    dsimp only at hk hDl hPl hall hM ⊢
    by_cases hlt : k < n
    · obtain ⟨g1, cur1, rfl, _⟩ := row_form (R.Own.ok hM _ (.tail _ (.tail _ (.tail _ (.tail _ (.head _)))))) (by omega)
      obtain ⟨g2, cur2, rfl, _⟩ := row_form (R.Own.ok hM _ (.tail _ (.tail _ (.tail _ (.tail _ (.tail _ (.head _))))))) (by omega)
      (refine R.stepH ?_; (repeat' (first | (with_reducible refine And.intro ?_ ?_) | (with_reducible intro _))); all_goals refine R.Lft.mk ?_)
      (refine R.WC_planK 1 [(0, false), (1, false), (2, false), (3, false), (4, false), (5, false), (6, false), (7, false), (8, false), (9, false), (10, false), (11, true), (12, false), (13, true)] R.mixed (by decide +kernel) R.ohm ?_; simp only [List.take_succ_cons, List.take_zero])
      (refine R.stepH ?_; (repeat' (first | (with_reducible refine And.intro ?_ ?_) | (with_reducible intro _))); all_goals refine R.Lft.mk ?_)
      refine ⟨(k + 1, D.set k 4611686018427387904, P.set k (-1)), ⟨rfl, rfl, rfl, rfl, rfl, rfl, R.viaI rfl (by dsimp only; omega), trivial⟩, ⟨by dsimp only; omega, by dsimp only; rw [List.length_set]; exact hDl, by dsimp only; rw [List.length_set]; exact hPl, fun v hv => ?_, R.ohm⟩, by dsimp only; omega⟩
      dsimp only at hv ⊢
      rw [nth_put (by omega)]
      split
      · rfl
      · exact hall v (by omega)
    obtain rfl : k = n := by omega
    have hDv : Dv (insG g s c) 0 D P (fun _ => none) [] 0 (insG g s c).n 0 := dv_init (by rw [hDl, hIn]) (by rw [hPl, hIn]) fun v hv => hall v (by rw [hIn] at hv; exact hv)
    clear hall hlt hk
    (refine R.stepH ?_; (repeat' (first | (with_reducible refine And.intro ?_ ?_) | (with_reducible intro _))); all_goals refine R.Lft.mk ?_)
    refine R.WC_loop (fun i : Nat × Nat × Nat × (Int → Option Int) × List Int × List Int => [(3, .int .i64 to), (4, .pointer (some ⟨gb, 0, none⟩)), (8, .pointer none), (10, .pointer (some ⟨gs, 0, none⟩)), (47, .slice s.A s.n s.c), (48, .int .i64 (s.n : Nat)), (49, .int .i64 (i.1 : Nat))])
      (fun i w1 => i.1 ≤ s.n ∧ i.2.1 ≤ i.1 ∧ i.2.2.1 ≤ i.1 ∧ Srch [] w w1 [.blk gb 24 (cGph g)] g c gs h b k i.2.1 i.2.2.1 i.2.2.2.1 i.2.2.2.2.1 i.2.2.2.2.2 0 ∧ Dv (insG g s c) i.1 i.2.2.2.2.1 i.2.2.2.2.2 i.2.2.2.1 [] 0 (insG g s c).n 0) (fun i => s.n - i.1)
      ⟨(0, 0, 0, fun _ => none, D, P), ⟨rfl, rfl, rfl, rfl, rfl, rfl, rfl, trivial⟩, Nat.zero_le _, Nat.le_refl _, Nat.le_refl _, ⟨_, _, _, _, _, _, _, _, _, _, h1, h2, h3, h4, srch_pick R.ohm⟩, hDv⟩ ?_
    clear hM hDv hDl hPl h1 h2 h3 h4 D P
    rintro ⟨q, nn, N, κ, D, P⟩ f w4 ⟨hq, hnN, hNq, hSr, hDv⟩
    dsimp only at hq hnN hNq hSr hDv ⊢
    by_cases hlt : q < s.n
    · have hx := hsk _ (R.nth_mem (L := s.L) (i := q) (by have := hs.2.1; omega))
      obtain ⟨v, hv⟩ : ∃ v : Nat, (nth s.L q).at_ = (v : Nat) := ⟨(nth s.L q).at_.toNat, by omega⟩
      obtain ⟨A1, c1, A2, c2, A, c3, L, es, clk, m, h1, h2, h3, h4, hM⟩ := hSr
      have hsI := hs.1
      have hsl := hs.2.1
      (refine R.stepH ?_; (repeat' (first | (with_reducible refine And.intro ?_ ?_) | (with_reducible intro _))); all_goals refine R.Lft.mk ?_)
      refine R.WO_call4 rfl rfl R.vv R.vv R.vv R.vv ?_
      rw [hv]
      refine (reach_s (s := s) (v := v) ⟨_, _, _, _, _, _, _, _, _, _, h1, h2, h3, h4, srch_pick R.ohm⟩ hc.1 hc.2.1 (fun q => by have := hcn q; omega) (by omega) (by rw [hDv.dl, hIn]) (by rw [hDv.pl, hIn]) (by omega) (by unfold maxLen; omega) (by omega) (by unfold In64; omega) (by unfold In64; omega)).mono ?_
      rintro _ w5 ⟨rfl, nn', N', e1, e2, hSr⟩
      refine ⟨_, rfl, ?_⟩
      have hst := hDv.start hI (s := (v, (nth s.L q).key)) (by
        show (s.L.map _)[q]? = _
        rw [List.getElem?_map, R.nth_some (by omega)]
        show some ((nth s.L q).at_.toNat, (nth s.L q).key) = _
        rw [hv]
        rfl)
      (refine R.stepH ?_; (repeat' (first | (with_reducible refine And.intro ?_ ?_) | (with_reducible intro _))); all_goals refine R.Lft.mk ?_)
      exact ⟨(q + 1, nn', N', _, _, _), ⟨rfl, rfl, rfl, rfl, rfl, rfl, R.viaI rfl (by dsimp only; omega), trivial⟩, ⟨by dsimp only; omega, by dsimp only; omega, by dsimp only; omega, hSr.sub (.cons _ (List.Sublist.refl _)), hst⟩, by dsimp only; omega⟩
    obtain rfl : q = s.n := by omega
    have hml : (insG g s c).st.length = s.n := by show (s.L.map _).length = _; rw [List.length_map]; exact hs.2.1.symm
    rw [← hml] at hDv
    clear hlt hq
    (refine R.stepH ?_; (repeat' (first | (with_reducible refine And.intro ?_ ?_) | (with_reducible intro _))); all_goals refine R.Lft.mk ?_)
    refine R.WC_loop (fun i : Nat × Nat × (Int → Option Int) × List Int × List Int × List Nat × Int => [(3, .int .i64 to), (4, .pointer (some ⟨gb, 0, none⟩)), (8, .pointer none), (10, .pointer (some ⟨gs, 0, none⟩))])
      (fun i w1 => i.1 ≤ 1000 + 300 * i.2.2.2.2.2.1.length ∧ i.2.1 ≤ 1000 + 300 * i.2.2.2.2.2.1.length ∧ Srch [] w w1 [.blk gb 24 (cGph g)] g c gs h b k i.1 i.2.1 i.2.2.1 i.2.2.2.1 i.2.2.2.2.1 ((i.2.2.2.2.2.1.length : Nat) : Int) ∧ Dv (insG g s c) (insG g s c).st.length i.2.2.2.1 i.2.2.2.2.1 i.2.2.1 i.2.2.2.2.2.1 i.2.2.2.2.2.2 (insG g s c).n 0 ∧ ∀ u ∈ i.2.2.2.2.2.1, ((u : Nat) : Int) ≠ to) (fun i => k - i.2.2.2.2.2.1.length)
      ⟨(nn, N, κ, D, P, [], 0), ⟨rfl, rfl, rfl, rfl, trivial⟩, by dsimp only; omega, by dsimp only; omega, hSr, hDv, fun u hu => (by cases hu)⟩ ?_
    clear hSr hDv hnN hNq nn N κ D P
    rintro ⟨nn, N, κ, D, P, S, kk⟩ f w5 ⟨hnN, hNq, hSr, hDv, hne⟩
    dsimp only at hnN hNq hSr hDv hne ⊢
    have hSl := hDv.len
    rw [hIn] at hSl
    obtain ⟨A1, c1, A2, c2, A, c3, L, es, clk, m, h1, h2, h3, h4, hM⟩ := hSr
    cases nn with
    | zero =>
      (refine R.stepH ?_; (repeat' (first | (with_reducible refine And.intro ?_ ?_) | (with_reducible intro _))); all_goals refine R.Lft.mk ?_)
      refine R.WO_call1 rfl rfl R.vv ?_
      refine (pop_hp0 ⟨A, c3, L, es, clk, m, h1, h2, h3, h4, R.ohm⟩).mono ?_
      rintro _ w6 ⟨rfl, hH⟩
      have hκ := hp_none hH
      obtain ⟨A, c3, L, es, clk, m, h1, h2, h3, h4, hM⟩ := hH
      refine ⟨_, rfl, ?_⟩
      (refine R.stepH ?_; (repeat' (first | (with_reducible refine And.intro ?_ ?_) | (with_reducible intro _))); all_goals refine R.Lft.mk ?_)
      exact ⟨gs, h, b, 0, N, κ, D, P, S.length, rfl, Srch.sub ⟨_, _, _, _, _, _, _, _, _, _, h1, h2, h3, h4, srch_pick R.ohm⟩ (List.nil_sublist _), .inl ⟨κ, S, kk, hDv, hκ, hne, rfl⟩⟩
    | succ nn =>
      (refine R.stepH ?_; (repeat' (first | (with_reducible refine And.intro ?_ ?_) | (with_reducible intro _))); all_goals refine R.Lft.mk ?_)
      refine R.WO_call1 rfl rfl R.vv ?_
      refine (pop_hp ⟨A, c3, L, es, clk, m, h1, h2, h3, h4, R.ohm⟩ (by omega) (by unfold maxLen; omega)).mono ?_
      rintro _ w6 ⟨⟨k0, xa⟩, hmn, rfl, hH⟩
      obtain ⟨v, hv, hxa, hvS, hvD, hvf⟩ := (hDv.ka xa k0).1 hmn.1
      subst hxa
      have hmin : ∀ w, w < (insG g s c).n → w ∉ S → nth D v ≤ nth D w := fun w hw hwS => by
        rcases Classical.em (nth D w < 4611686018427387904) with q | q
        · have := hmn.2 ⟨nth D w, ((w : Nat) : Int)⟩ ((hDv.ka _ _).2 ⟨w, hw, rfl, hwS, rfl, q⟩)
          unfold ltP at this
          dsimp only at this
          omega
        · omega
      obtain ⟨hDv2, hb2⟩ := hDv.pop hv hvS (by omega) hmin
      rw [hIn] at hv
      have hSl2 := hDv2.len
      rw [hIn, List.length_append, List.length_singleton] at hSl2
      obtain ⟨A, c3, L, es, clk, m, h1, h2, h3, h4, hM⟩ := hH
      rw [show cItem ⟨k0, ((v : Nat) : Int)⟩ = [.int .i64 k0, .int .i64 ((v : Nat) : Int)] from rfl]
      refine ⟨_, rfl, ?_⟩
      by_cases hto : ((v : Nat) : Int) = to
      · (refine R.stepH ?_; (repeat' (first | (with_reducible refine And.intro ?_ ?_) | (with_reducible intro _))); all_goals refine R.Lft.mk ?_)
        exact ⟨gs, h, b, nn, N, _, D, P, S.length, rfl, Srch.sub ⟨_, _, _, _, _, _, _, _, _, _, h1, h2, h3, h4, srch_pick R.ohm⟩ (List.nil_sublist _), .inr ⟨_, S, v, hto.symm, hDv2, hb2, rfl⟩⟩
      rw [hvD] at hDv2 hb2
      have ek : ((v : Int) + 1).toNat = v + 1 := by omega
      have hlo := hg.lo (v := v) (by omega)
      have hup := hg.up v (by omega)
      have hhi := hg.hi (v := v + 1) (by omega)
      have hSv : (insG g s c).S v = (nth g.st.L v).toNat := rfl
      have hSv1 : (insG g s c).S (v + 1) = (nth g.st.L (v + 1)).toNat := rfl
      (refine R.stepH ?_; (repeat' (first | (with_reducible refine And.intro ?_ ?_) | (with_reducible intro _))); all_goals refine R.Lft.mk ?_)
      rename_i g14 _ _ _ _ _ hM
      refine R.WC_loop (fun i : Nat × Nat × Nat × (Int → Option Int) × List Int × List Int => [(3, .int .i64 to), (4, .pointer (some ⟨gb, 0, none⟩)), (8, .pointer none), (10, .pointer (some ⟨gs, 0, none⟩)), (14, .pointer (some ⟨g14, 0, none⟩)), (16, .int .i64 (i.1 : Nat))])
        (fun i w1 => (insG g s c).S v ≤ i.1 ∧ i.1 ≤ (insG g s c).S (v + 1) ∧ i.2.1 + (insG g s c).S v ≤ 1000 + 300 * S.length + i.1 ∧ i.2.2.1 + (insG g s c).S v ≤ 1000 + 300 * S.length + i.1 ∧ Srch [] w w1 [.blk g14 72 [.int .i64 k0, .int .i64 ((v : Nat) : Int)], .blk gb 24 (cGph g)] g c gs h b k i.2.1 i.2.2.1 i.2.2.2.1 i.2.2.2.2.1 i.2.2.2.2.2 ((S.length : Nat) + 1 : Int) ∧ Dv (insG g s c) (insG g s c).st.length i.2.2.2.2.1 i.2.2.2.2.2 i.2.2.2.1 (S ++ [v]) k0 v i.1 ∧ nth i.2.2.2.2.1 v = k0) (fun i => (insG g s c).S (v + 1) - i.1)
        ⟨((insG g s c).S v, nn, N, _, D, P), ⟨rfl, rfl, rfl, rfl, rfl, R.viaI rfl (by dsimp only; omega), trivial⟩, Nat.le_refl _, by dsimp only; omega, by dsimp only; omega, by dsimp only; omega, ⟨_, _, _, _, _, _, _, _, _, _, h1, h2, h3, h4, srch_pick hM⟩, hDv2, hvD⟩ ?_
      clear hM hDv2 h1 h2 h3 h4 hmn hmin hvD hDv hvf hnN hNq
      rintro ⟨j, nn, N, κ, D, P⟩ f w7 ⟨hj1, hj2, hnN, hNq, hSr, hDv, hvD⟩
      dsimp only at hj1 hj2 hnN hNq hSr hDv hvD ⊢
      by_cases hlt : j < (insG g s c).S (v + 1)
      · have hjt : ((j : Nat) : Int) < nth g.st.L ((v : Int) + 1).toNat := by rw [ek]; omega
        obtain ⟨a1, a2, a3⟩ := hI.hd v j (by rw [hIn]; exact hv) hj1 hlt
        rw [hIn] at a1
        have ha := hg.arc v j (by omega) (by omega) (by omega)
        obtain ⟨u, hu⟩ : ∃ u, (insG g s c).H j = u := ⟨_, rfl⟩
        have hH : nth g.hd.L j = ((u : Nat) : Int) := by
          have : (nth g.hd.L j).toNat = u := hu
          have := ha.1
          omega
        have hrel := hDv.relax hI (List.mem_append.2 (.inr (List.mem_singleton.2 rfl))) hvD hb2 hj1 hlt
        rw [hu] at a1 hrel
        have hW : (insG g s c).W j = nth g.wt.L j := rfl
        rw [hW] at hrel a2 a3
        have hk0 := hDv.bd v (by rw [hIn]; exact hv)
        rw [hvD, List.length_append, List.length_singleton] at hk0
        have h4n := hg.n4
        obtain ⟨A1, c1, A2, c2, A, c3, L, es, clk, m, h1, h2, h3, h4, hM⟩ := hSr
        (refine R.stepH ?_; (repeat' (first | (with_reducible refine And.intro ?_ ?_) | (with_reducible intro _))); all_goals refine R.Lft.mk ?_)
        refine R.WO_call4 rfl rfl R.vv R.vv R.vv R.vv ?_
        rw [hH]
        refine (reach_s (s := s) (v := u) (fr := ((v : Nat) : Int)) (x := k0 + nth g.wt.L j) ⟨_, _, _, _, _, _, _, _, _, _, h1, h2, h3, h4, srch_pick R.ohm⟩ hc.1 hc.2.1 (fun q => by have := hcn q; omega) (by omega) (by rw [hDv.dl, hIn]) (by rw [hDv.pl, hIn]) (by omega) (by unfold maxLen; omega) (by omega) (by unfold In64; omega) (by unfold In64; omega)).mono ?_
        rintro _ w8 ⟨rfl, nn', N', e1, e2, hSr⟩
        refine ⟨_, rfl, ?_⟩
        (refine R.stepH ?_; (repeat' (first | (with_reducible refine And.intro ?_ ?_) | (with_reducible intro _))); all_goals refine R.Lft.mk ?_)
        exact ⟨(j + 1, nn', N', _, _, _), ⟨rfl, rfl, rfl, rfl, rfl, R.viaI rfl (by dsimp only; omega), trivial⟩, ⟨by dsimp only; omega, by dsimp only; omega, by dsimp only; omega, by dsimp only; omega, hSr, hrel.1, by dsimp only; rw [(hrel.2 v (List.mem_append.2 (.inr (List.mem_singleton.2 rfl)))).1]; exact hvD⟩, by dsimp only; omega⟩
      · have hjt : ¬ ((j : Nat) : Int) < nth g.st.L ((v : Int) + 1).toNat := by rw [ek]; omega
        obtain ⟨A1, c1, A2, c2, A, c3, L, es, clk, m, h1, h2, h3, h4, hM⟩ := hSr
        (refine R.stepH ?_; (repeat' (first | (with_reducible refine And.intro ?_ ?_) | (with_reducible intro _))); all_goals refine R.Lft.mk ?_)
        have hlen : (S ++ [v]).length = S.length + 1 := by simp
        have hbig : (insG g s c).S (v + 1) ≤ 300 := by omega
        refine ⟨(nn, N, κ, D, P, S ++ [v], k0), ⟨rfl, rfl, rfl, rfl, trivial⟩, ⟨?_, ?_, ?_, hDv.close (by omega), fun u hu => ?_⟩, ?_⟩
        · dsimp only; rw [hlen]; omega
        · dsimp only; rw [hlen]; omega
        · dsimp only
          rw [hlen]
          exact Srch.sub ⟨_, _, _, _, _, _, _, _, _, _, h1, h2, h3, h4, srch_pick hM⟩ (.cons _ (List.Sublist.refl _))
        · rcases List.mem_append.1 hu with q | q
          · exact hne u q
          · rw [List.mem_singleton.1 q]
            exact hto
        · dsimp only
          rw [hlen]
          omega
end
end Go.Proofs.Ytegbidklcaccjaa
