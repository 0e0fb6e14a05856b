/- Package dijk: a walk that costs least: its walk. -/
import Derived.Test.YtegbidklcaccjaaDh
namespace Go.Proofs.Ytegbidklcaccjaa
open Go.RowKit
open R (In64 InU64 lo64 nth)
def Good (I : Ins) (D : List Int) (u : Nat) : Prop := u < I.n ∧ I.op u = true ∧ 0 ≤ nth D u ∧ nth D u < 4611686018427387904
def Lnk (I : Ins) (D : List Int) (u v : Nat) : Prop := ∃ i, I.S u ≤ i ∧ i < I.S (u + 1) ∧ I.H i = v ∧ nth D v = nth D u + I.W i
/-- A walk along which costs add up. -/
def Fw (I : Ins) (D : List Int) : List Nat → Prop
  | [] => True
  | u :: f => Good I D u ∧ (match f with | [] => True | v :: _ => Lnk I D u v) ∧ Fw I D f
/-- A walk from a start to v. -/
structure PathOk (I : Ins) (D : List Int) (f : List Nat) (v : Nat) : Prop where
  fw : Fw I D f
  last : f.getLast? = some v
  head : ∃ x g, f = x :: g ∧ (x, nth D x) ∈ I.st ∧ ∀ s ∈ I.st, s.1 = x → nth D x ≤ s.2
/-- How far a walk was gone back. -/
def Pi (I : Ins) (D : List Int) (S : List Nat) (v : Nat) (f : List Nat) (cur : Int) : Prop :=
  Fw I D f ∧ (f ≠ [] → f.getLast? = some v) ∧
  ((∃ u : Nat, cur = ((u : Nat) : Int) ∧ u ∈ S ∧ f.length + S.idxOf u < S.length ∧ (∀ x g, f = x :: g → Lnk I D u x) ∧ (f = [] → u = v)) ∨
   (cur = -1 ∧ ∃ x g, f = x :: g ∧ (x, nth D x) ∈ I.st ∧ I.op x = true))
section
variable {I : Ins} {m : Nat} {D P : List Int} {κ : Int → Option Int} {S : List Nat} {k : Int} {x j v : Nat}
theorem Pi.step (h : Dv I m D P κ S k x j) {f : List Nat} {u : Nat} (hp : Pi I D S v f ((u : Nat) : Int)) : u < I.n ∧ f.length < S.length ∧ Pi I D S v (u :: f) (nth P u) := by
  obtain ⟨h1, h2, h3⟩ := hp
  rcases h3 with ⟨u', e, hu, hl, hk, h0⟩ | ⟨e, _⟩
  · obtain rfl : u = u' := by omega
    have hf := h.fi u hu
    have hb := h.bd u hf.1
    obtain ⟨ho, hfr⟩ := h.su u hf.1 hf.2
    refine ⟨hf.1, by omega, ⟨⟨hf.1, ho, by omega, hf.2⟩, ?_, h1⟩, fun _ => ?_, ?_⟩
    · cases f with
      | nil => trivial
      | cons y g => exact hk y g rfl
    · cases f with
      | nil => rw [h0 rfl]; rfl
      | cons y g => rw [List.getLast?_cons_cons]; exact h2 (by simp)
    · rcases hfr with ⟨r1, r2⟩ | ⟨w, i, r1, r2, r3, r4, r5, r6, r7⟩
      · exact .inr ⟨r1, u, f, rfl, r2, ho⟩
      · refine .inl ⟨w, r2, r1, by rw [List.length_cons]; omega, fun y g e => ?_, fun e => by cases e⟩
        injection e with e1 e2
        rw [← e1]
        exact ⟨i, r3, r4, r5, r6⟩
  · omega
theorem Pi.done (h : Dv I I.st.length D P κ S k x j) {f : List Nat} {cur : Int} (hp : Pi I D S v f cur) (hc : cur < 0) : PathOk I D f v := by
  obtain ⟨h1, h2, h3⟩ := hp
  rcases h3 with ⟨u, e, _⟩ | ⟨e, y, g, r1, r2, r3⟩
  · omega
  · refine ⟨h1, h2 (by rw [r1]; simp), y, g, r1, r2, fun s hs he => ?_⟩
    have := h.sa s (by rw [List.take_length]; exact hs) (by rw [he]; exact r3)
    rw [he] at this
    exact this
end
/-- Vertices as numbers. -/
def asI (f : List Nat) : List Int := f.map fun u => ((u : Nat) : Int)
theorem asI_len (f : List Nat) : (asI f).length = f.length := by unfold asI; rw [List.length_map]
section
variable (g : Gph) (s : R.Sl Item) (c : R.Sl Bool) (w : World) (hQ : Ask w g s c)
include hQ
theorem path_no (to : Int) (hm : ¬ MayS g s c ∨ to < 0 ∨ (g.st.n : Int) - 1 ≤ to) : Calls Try.prog 31 #[.agg (cGph g).toArray, .slice s.A s.n s.c, .slice c.A c.n c.c, .int .i64 to] w fun e w' => e = .returned (.tuple #[.slice none 0 0, .int .i64 0, .int .i64 1]) ∧ Below w.heap.size w w' := by
  have hM := R.Own.start [] w
  have hn0 := hQ.1.1.2.2.1
  refine R.calls_of_WC (fn := Try.f31) Try.func31 rfl Try.ntmps31 (Nat.le_of_ble_eq_true rfl) ?_
  (refine R.stepH ?_; (repeat' (first | (with_reducible refine And.intro ?_ ?_) | (with_reducible intro _))); all_goals refine R.Lft.mk ?_)
  refine R.WO_call3 rfl rfl R.vv R.vv R.vv ?_
  refine (check_a g s c _ (Ask.now R.ohm hQ)).mono ?_
  rintro _ w3 ⟨rfl, hb3⟩
  have hM := R.Own.call R.ohm hb3
  refine ⟨_, rfl, ?_⟩
  rcases Classical.em (MayS g s c) with hq | hq
  · rw [mayS_t hq]
    have n1 := hq.1.n1
    by_cases h1 : to < 0
    · (refine R.stepH ?_; (repeat' (first | (with_reducible refine And.intro ?_ ?_) | (with_reducible intro _))); all_goals refine R.Lft.mk ?_; (all_goals (try (exact ⟨rfl, R.Own.below (by assumption)⟩))))
    · have h2 : (g.st.n : Int) - 1 ≤ to := by
        rcases hm with h | h | h
        · exact absurd hq h
        · omega
        · exact h
      (refine R.stepH ?_; (repeat' (first | (with_reducible refine And.intro ?_ ?_) | (with_reducible intro _))); all_goals refine R.Lft.mk ?_; (all_goals (try (exact ⟨rfl, R.Own.below (by assumption)⟩))))
  · rw [mayS_f hq]
    (refine R.stepH ?_; (repeat' (first | (with_reducible refine And.intro ?_ ?_) | (with_reducible intro _))); all_goals refine R.Lft.mk ?_; (all_goals (try (exact ⟨rfl, R.Own.below (by assumption)⟩))))
set_option maxHeartbeats 8000000 in
theorem path_ok (hm : MayS g s c) (h40 : g.st.n ≤ 41) (h300 : g.hd.n ≤ 300) (v : Nat) (hv : v + 1 < g.st.n) : Calls Try.prog 31 #[.agg (cGph g).toArray, .slice s.A s.n s.c, .slice c.A c.n c.c, .int .i64 (v : Nat)] w fun e w' => ∃ A1 c1 f x er D' P' S', Least (insG g s c) D' P' S' ∧ e = .returned (.tuple #[.slice A1 (asI f).length c1, .int .i64 x, .int .i64 er]) ∧ R.Gives w w' A1 (asI f).length c1 3 1 ((asI f).flatMap R.cI) ∧
    ((nth D' v = 4611686018427387904 ∧ f = [] ∧ x = 0 ∧ er = 12) ∨ (nth D' v < 4611686018427387904 ∧ x = nth D' v ∧ er = 0 ∧ ∃ D, nth D v = nth D' v ∧ PathOk (insG g s c) D f v)) := by
  have hM := R.Own.start [] w
  have hI := insG_ok hm
  have hn0 := hQ.1.1.2.2.1
  have n1 := hm.1.n1
  have hIn : (insG g s c).n = g.st.n - 1 := rfl
  refine R.calls_of_WC (fn := Try.f31) Try.func31 rfl Try.ntmps31 (Nat.le_of_ble_eq_true rfl) ?_
  (refine R.stepH ?_; (repeat' (first | (with_reducible refine And.intro ?_ ?_) | (with_reducible intro _))); all_goals refine R.Lft.mk ?_)
  rename_i gb _ _
  refine R.WO_call3 rfl rfl R.vv R.vv R.vv ?_
  refine (check_a g s c _ (Ask.now R.ohm hQ)).mono ?_
  rintro _ w3 ⟨rfl, hb3⟩
  have hM := R.Own.call R.ohm hb3
  refine ⟨_, rfl, ?_⟩
  rw [mayS_t hm]
  have hv' : ¬ (g.st.n : Int) - 1 ≤ ((v : Nat) : Int) := by omega
  (refine R.stepH ?_; (repeat' (first | (with_reducible refine And.intro ?_ ?_) | (with_reducible intro _))); all_goals refine R.Lft.mk ?_)
  refine R.WO_call4 rfl rfl R.vv R.vv R.vv R.vv ?_
  refine (run_a g s c (v : Nat) _ (Ask.now R.ohm hQ) hm h40 h300).mono ?_
  rintro _ w4 ⟨gs, h, b, nn, N, κ0, D, P, t, rfl, ⟨A1, c1, A2, c2, A, c3, L, es, clk, m, h1, h2, h3, h4, hO⟩, hE⟩
  have hM := R.Own.giveM R.ohm hO
  simp only [List.cons_append, List.nil_append] at hM
  refine ⟨_, rfl, ?_⟩
  obtain ⟨D', P', S', hL, hEL⟩ := hE.least hI
  rcases hE with ⟨κ, S, k, q1, q2, q3, q4⟩ | ⟨κ, T, v', q1, q2, q3, q4⟩
  · have hLD := q1.all q2
    have hvS : v ∉ S := fun q => q3 v q rfl
    have hinf : nth D v = 4611686018427387904 := by
      have := hLD.bd v (by rw [hIn]; omega)
      rcases this with e | e
      · exact e
      · have h4 := hI.n1
        exact absurd ((hLD.fi v).2 ⟨by rw [hIn]; omega, by omega⟩) hvS
    have hDl : D.length = g.st.n - 1 := hLD.dl
    (refine R.stepH ?_; (repeat' (first | (with_reducible refine And.intro ?_ ?_) | (with_reducible intro _))); all_goals refine R.Lft.mk ?_)
    exact ⟨none, 0, [], 0, 12, D, P, S, hLD, rfl, R.Own.gives (R.Own.nil (R.Own.nul R.ohm) _ _), .inl ⟨hinf, rfl, rfl, rfl⟩⟩
  · obtain rfl : v = v' := by omega
    have hmem : v ∈ T ++ [v] := List.mem_append.2 (.inr (List.mem_singleton.2 rfl))
    have hvf := q2.fi v hmem
    have hDl : D.length = g.st.n - 1 := q2.dl
    have hPl : P.length = g.st.n - 1 := q2.pl
    have hSl := q2.len
    rw [hIn] at hSl
    have hne : nth D v ≠ 4611686018427387904 := by omega
    have hDv : nth D' v = nth D v := by
      rcases hEL with ⟨e1, _⟩ | ⟨T2, v2, e1, e2, e3, _⟩
      · rw [e1]
      · obtain rfl : v = v2 := by omega
        exact e3
    (refine R.stepH ?_; (repeat' (first | (with_reducible refine And.intro ?_ ?_) | (with_reducible intro _))); all_goals refine R.Lft.mk ?_)
    have hP0 : Pi (insG g s c) D (T ++ [v]) v [] ((v : Nat) : Int) := ⟨trivial, fun h => absurd rfl h, .inl ⟨v, rfl, hmem, by rw [List.length_nil, Nat.zero_add]; exact List.idxOf_lt_length_iff.2 hmem, fun x g e => (by cases e), fun _ => rfl⟩⟩
    have hM := R.Own.nil R.ohm 3 1
    obtain ⟨Q, hQd⟩ : ∃ Q, T ++ [v] = Q := ⟨_, rfl⟩
    rw [hQd] at hP0 hSl q2
    refine R.WC_loop (fun i : List Nat × Int × Option Addr × Nat => [(3, .int .i64 (v : Nat)), (8, .slice none 0 0), (9, .int .i64 0), (10, .int .i64 0), (11, .pointer (some ⟨gs, 0, none⟩)), (12, .slice i.2.2.1 i.1.length i.2.2.2), (13, .int .i64 i.2.1)])
      (fun i w1 => Pi (insG g s c) D Q v i.1 i.2.1 ∧ i.1.length ≤ Q.length ∧ R.Own [] w w1 (.row i.2.2.1 i.1.length i.2.2.2 3 1 ((asI i.1.reverse).flatMap R.cI) :: .blk gb 24 (cGph g) :: .row A nn c3 72 2 (L.flatMap cItem) :: .map b es clk :: .blk h 151 [.slice A nn c3, .map (some b)] :: .row A1 (g.st.n - 1) c1 3 1 (D.flatMap R.cI) :: .row A2 (g.st.n - 1) c2 3 1 (P.flatMap R.cI) :: [.blk gs 115 (cS g c h A1 c1 A2 c2 (g.st.n - 1) t)])) (fun i => Q.length + 1 - i.1.length)
      ⟨([], ((v : Nat) : Int), none, 0), ⟨rfl, rfl, rfl, rfl, rfl, rfl, rfl, trivial⟩, hP0, Nat.zero_le _, hM⟩ ?_
    clear hM hP0
    rintro ⟨f, cur, A5, c5⟩ fr w5 ⟨hPi, hfl, hM⟩
    dsimp only at hPi hfl hM ⊢
    by_cases hc : 0 ≤ cur
    · obtain ⟨u, rfl⟩ : ∃ u : Nat, cur = ((u : Nat) : Int) := ⟨cur.toNat, by omega⟩
      obtain ⟨hun, hfu, hst⟩ := hPi.step q2
      rw [hIn] at hun
      have happ : asI (u :: f).reverse = asI f.reverse ++ [((u : Nat) : Int)] := by simp [asI]
      (refine R.stepH ?_; (repeat' (first | (with_reducible refine And.intro ?_ ?_) | (with_reducible intro _))); all_goals refine R.Lft.mk ?_)
      rename_i A6 c6 _ hM
      refine ⟨(u :: f, nth P u, A6, c6), ⟨rfl, rfl, rfl, rfl, rfl, R.viaS rfl (by dsimp only; rw [List.length_cons]), rfl, trivial⟩, ⟨hst, by dsimp only; rw [List.length_cons]; omega, ?_⟩, by dsimp only; rw [List.length_cons]; omega⟩
      dsimp only
      rw [happ, List.length_cons]
      exact hM
    · have hpo := hPi.done q2 (by omega)
      have hlen : (asI f.reverse).length = f.length := by rw [asI_len, List.length_reverse]
      (refine R.stepH ?_; (repeat' (first | (with_reducible refine And.intro ?_ ?_) | (with_reducible intro _))); all_goals refine R.Lft.mk ?_)
      refine R.WO_call1 rfl rfl R.vv ?_
      refine (reverse_own R.ohm hlen.symm (by omega)).mono ?_
      rintro _ w6 ⟨rfl, hM⟩
      refine ⟨_, rfl, ?_⟩
      have hrev : (asI f.reverse).reverse = asI f := by unfold asI; rw [← List.map_reverse, List.reverse_reverse]
      rw [hrev] at hM
      (refine R.stepH ?_; (repeat' (first | (with_reducible refine And.intro ?_ ?_) | (with_reducible intro _))); all_goals refine R.Lft.mk ?_)
      refine ⟨A5, c5, f, nth D' v, 0, D', P', S', hL, by rw [asI_len, hDv], ?_, .inr ⟨by omega, rfl, rfl, D, hDv.symm, hpo⟩⟩
      rw [asI_len]
      exact R.Own.gives (R.Own.sub R.ohm (List.Sublist.cons_cons _ (List.nil_sublist _)))
end
end Go.Proofs.Ytegbidklcaccjaa
