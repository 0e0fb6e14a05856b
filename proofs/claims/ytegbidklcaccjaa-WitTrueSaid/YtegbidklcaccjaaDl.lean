/- The laws DijkAll and DijkPath: the walks. -/
import Derived.Test.YtegbidklcaccjaaDk
namespace Go.Proofs.Ytegbidklcaccjaa
open Go.ChangeShapes Go.WideShapes Go.ChangeAt Go.RowKit
open R (In64 InU64 lo64 nth)
theorem nb_t {b : Bool} {p : Prop} (hd : b = true) (h : (!b) = true) : p := by rw [hd] at h; cases h
theorem nb_f {b : Bool} {p : Prop} (hd : b = false) (h : (!b) = false) : p := by rw [hd] at h; cases h
theorem last_asI {f : List Nat} {v : Nat} (h : f.getLast? = some v) : nth (asI f) (((asI f).length : Int) - 1).toNat = ((v : Nat) : Int) := by
  have hl : 0 < f.length := by
    cases f with
    | nil => cases h
    | cons x r => simp
  rw [asI_len, show (((f.length : Nat) : Int) - 1).toNat = f.length - 1 by omega, nth_asI (by omega)]
  rw [List.getLast?_eq_getElem?, R.nth_some (by omega)] at h
  injection h with h
  rw [h]
theorem settled_facts {I : Ins} (hI : I.Ok) {D P D2 P2 : List Int} {S : List Nat} {v t : Nat} (hL : Least I D P S) (hE : RunEnd I D2 P2 ((v : Nat) : Int) t) (hv : v < I.n) : t ≤ I.n ∧ (nth D v = 4611686018427387904 → t = lessN D 4611686018427387904) ∧ (nth D v < 4611686018427387904 → lessN D (nth D v) ≤ t) := by
  obtain ⟨D3, P3, S3, hL3, hor⟩ := hE.least hI
  have hD : D3 = D := least_eq hL3 hL hI
  subst hD
  rcases hor with ⟨e1, e2, e3⟩ | ⟨T, v', e1, e2, e3, e4, e5, e6, e7⟩
  · have hl := nodup_le hL3.nd fun u hu => ((hL3.fi u).1 hu).1
    refine ⟨by omega, fun _ => ?_, fun h => ?_⟩
    · rw [e3]
      refine Nat.le_antisymm (le_lessN hL3.nd fun u hu => ?_) (lessN_le fun u hu h => ?_)
      · have := (hL3.fi u).1 hu
        rw [hL3.dl]
        exact this
      · rw [hL3.dl] at hu
        exact (hL3.fi u).2 ⟨hu, h⟩
    · exact absurd rfl (e2 v ((hL3.fi v).2 ⟨hv, h⟩))
  · obtain rfl : v = v' := by omega
    refine ⟨by omega, fun h => by omega, fun _ => ?_⟩
    rw [e6]
    refine lessN_le fun u hu h => e5 u (by rw [hL3.dl] at hu; exact hu) (by omega)
section
variable (g : Gph) (s : R.Sl Item) (c : R.Sl Bool) (w : World) (hQ : Ask w g s c)
include hQ
set_option maxHeartbeats 8000000 in
theorem dijkAll_any : Calls Try.prog 9 #[.agg (cGph g).toArray, .slice s.A s.n s.c, .slice c.A c.n c.c] w fun e w' => e = .returned (.bool true) ∧ Below w.heap.size w w' := by
  have hM := R.Own.start [] w
  refine R.calls_of_WC (fn := Try.f9) Try.func9 rfl Try.ntmps9 (Nat.le_of_ble_eq_true rfl) ?_
  by_cases hl : g.st.n ≤ 40 ∧ g.hd.n ≤ 300 ∧ g.wt.n ≤ 300 ∧ s.n ≤ 1010 ∧ c.n ≤ 60
  · obtain ⟨l1, l2, l3, l4, l5⟩ := hl
    have hd : decide (g.st.n ≤ 40 ∧ g.hd.n ≤ 300 ∧ g.wt.n ≤ 300 ∧ s.n ≤ 1010 ∧ c.n ≤ 60) = true := decide_eq_true ⟨l1, l2, l3, l4, l5⟩
    (refine R.stepH ?_; (repeat' (first | (with_reducible refine And.intro ?_ ?_) | (with_reducible intro _))); all_goals refine R.Lft.mk ?_)
    all_goals first
      | exact nb_t hd (by assumption)
      | skip
    rename_i gb _ _ _ _ _
    rcases Classical.em (MayS g s c) with hm | hm
    · refine R.WO_call3 rfl rfl R.vv R.vv R.vv ?_
      refine (all21_ok g s c _ (Ask.now R.ohm hQ) hm (by omega) l2).mono ?_
      rintro _ w3 ⟨A1, c1, D, P, S, hL, rfl, hG⟩
      have hM := R.Own.give R.ohm hG
      refine ⟨_, rfl, ?_⟩
      have hI := insG_ok hm
      have n1 := hm.1.n1
      have hDl : D.length = g.st.n - 1 := hL.dl
      (refine R.stepH ?_; (repeat' (first | (with_reducible refine And.intro ?_ ?_) | (with_reducible intro _))); all_goals refine R.Lft.mk ?_)
      refine R.WO_call3 rfl rfl R.vv R.vv R.vv ?_
      refine (may_a g s c _ (Ask.now R.ohm hQ)).mono ?_
      rintro _ w4 ⟨rfl, hb4⟩
      have hM := R.Own.call R.ohm hb4
      refine ⟨_, rfl, ?_⟩
      rw [mayS_t hm]
      (refine R.stepH ?_; (repeat' (first | (with_reducible refine And.intro ?_ ?_) | (with_reducible intro _))); all_goals refine R.Lft.mk ?_)
      refine R.WO_call3 rfl rfl R.vv R.vv R.vv ?_
      refine (rall_a g s c _ (Ask.now R.ohm hQ) hm (by omega) l2 hL).mono ?_
      rintro _ w5 ⟨A2, c2, rfl, hG2⟩
      have hM := R.Own.give R.ohm hG2
      refine ⟨_, rfl, ?_⟩
      (refine R.stepH ?_; (repeat' (first | (with_reducible refine And.intro ?_ ?_) | (with_reducible intro _))); all_goals refine R.Lft.mk ?_)
      refine R.WO_call2 rfl rfl R.vv R.vv ?_
      refine (same01 A1 A2 _ c1 _ c2 D D _ (R.Own.inp R.ohm R.memb) rfl (by omega) (R.Own.inp R.ohm (.head _)) rfl).mono ?_
      rintro _ w6 ⟨rfl, hb6⟩
      have hM := R.Own.call R.ohm hb6
      refine ⟨_, rfl, ?_⟩
      rw [decide_eq_true rfl]
      (refine R.stepH ?_; (repeat' (first | (with_reducible refine And.intro ?_ ?_) | (with_reducible intro _))); all_goals refine R.Lft.mk ?_)
      refine R.WC_loop (fun k : Nat => [(1, .slice s.A s.n s.c), (2, .slice c.A c.n c.c), (3, .pointer (some ⟨gb, 0, none⟩)), (6, .bool false), (9, .slice A2 D.length c2), (10, .int .i64 (k : Nat))])
        (fun k w1 => k ≤ D.length ∧ R.Own [] w w1 [.row A2 D.length c2 3 1 (D.flatMap R.cI), .blk gb 24 (cGph g)]) (fun k => D.length - k) ⟨0, ⟨rfl, rfl, rfl, rfl, rfl, rfl, trivial⟩, Nat.zero_le _, R.Own.tl2 R.ohm⟩ ?_
      clear hM hG hG2
      rintro k f w7 ⟨hk, hM⟩
      by_cases hlt : k < D.length ∧ k < 5
      · obtain ⟨hk1, hk2⟩ := hlt
        (refine R.stepH ?_; (repeat' (first | (with_reducible refine And.intro ?_ ?_) | (with_reducible intro _))); all_goals refine R.Lft.mk ?_)
        refine R.WO_call4 rfl rfl R.vv R.vv R.vv R.vv ?_
        refine (settled_any g s c _ (Ask.now R.ohm hQ) hm (by omega) l2 k (by omega)).mono ?_
        rintro _ w8 ⟨D2, P2, t, hE, rfl, hb8⟩
        have hM := R.Own.call R.ohm hb8
        obtain ⟨f1, f2, f3⟩ := settled_facts hI hL hE (by show k < g.st.n - 1; omega)
        have f1 : t ≤ D.length := by rw [hDl]; exact f1
        refine ⟨_, rfl, ?_⟩
        by_cases hinf : nth D k = 4611686018427387904
        · have f4 := f2 hinf
          (refine R.stepH ?_; (repeat' (first | (with_reducible refine And.intro ?_ ?_) | (with_reducible intro _))); all_goals refine R.Lft.mk ?_)
          refine R.WO_call2 rfl rfl R.vv R.vv ?_
          refine (less_any A2 D.length c2 D _ _ (R.Own.inp R.ohm (.head _)) rfl (by omega)).mono ?_
          rintro _ w9 ⟨rfl, hb9⟩
          have hM := R.Own.call R.ohm hb9
          refine ⟨_, rfl, ?_⟩
          rw [← f4]
          (refine R.stepH ?_; (repeat' (first | (with_reducible refine And.intro ?_ ?_) | (with_reducible intro _))); all_goals refine R.Lft.mk ?_)
          exact ⟨k + 1, ⟨rfl, rfl, rfl, rfl, rfl, R.viaI rfl (by omega), trivial⟩, ⟨by omega, R.ohm⟩, by omega⟩
        · have hb := hL.bd k (by show k < g.st.n - 1; omega)
          have hfin : nth D k < 4611686018427387904 := by
            have h4 : g.st.n - 1 ≤ 4000 := hI.n1
            rcases hb with e | e
            · exact absurd e hinf
            · have e2 : nth D k ≤ 1152921504606846976 + ((g.st.n - 1 : Nat) : Int) * 2147483648 := e.2
              omega
          have f4 := f3 hfin
          (refine R.stepH ?_; (repeat' (first | (with_reducible refine And.intro ?_ ?_) | (with_reducible intro _))); all_goals refine R.Lft.mk ?_)
          refine R.WO_call2 rfl rfl R.vv R.vv ?_
          refine (less_any A2 D.length c2 D _ _ (R.Own.inp R.ohm (.head _)) rfl (by omega)).mono ?_
          rintro _ w9 ⟨rfl, hb9⟩
          have hM := R.Own.call R.ohm hb9
          refine ⟨_, rfl, ?_⟩
          obtain ⟨q, hq⟩ : ∃ q, lessN D (nth D k) = q := ⟨_, rfl⟩
          rw [hq] at f4 ⊢
          (refine R.stepH ?_; (repeat' (first | (with_reducible refine And.intro ?_ ?_) | (with_reducible intro _))); all_goals refine R.Lft.mk ?_)
          exact ⟨k + 1, ⟨rfl, rfl, rfl, rfl, rfl, R.viaI rfl (by omega), trivial⟩, ⟨by omega, R.ohm⟩, by omega⟩
      · by_cases hk1 : k < D.length
        · have hk2 : ¬ k < 5 := fun h => hlt ⟨hk1, h⟩
          (refine R.stepH ?_; (repeat' (first | (with_reducible refine And.intro ?_ ?_) | (with_reducible intro _))); all_goals refine R.Lft.mk ?_; (all_goals (try (exact ⟨rfl, R.Own.below (by assumption)⟩))))
        · (refine R.stepH ?_; (repeat' (first | (with_reducible refine And.intro ?_ ?_) | (with_reducible intro _))); all_goals refine R.Lft.mk ?_; (all_goals (try (exact ⟨rfl, R.Own.below (by assumption)⟩))))
    · refine R.WO_call3 rfl rfl R.vv R.vv R.vv ?_
      refine (all21_no g s c _ (Ask.now R.ohm hQ) hm).mono ?_
      rintro _ w3 ⟨rfl, hb3⟩
      have hM := R.Own.call R.ohm hb3
      refine ⟨_, rfl, ?_⟩
      (refine R.stepH ?_; (repeat' (first | (with_reducible refine And.intro ?_ ?_) | (with_reducible intro _))); all_goals refine R.Lft.mk ?_)
      refine R.WO_call3 rfl rfl R.vv R.vv R.vv ?_
      refine (may_a g s c _ (Ask.now R.ohm hQ)).mono ?_
      rintro _ w4 ⟨rfl, hb4⟩
      have hM := R.Own.call R.ohm hb4
      refine ⟨_, rfl, ?_⟩
      rw [mayS_f hm]
      (refine R.stepH ?_; (repeat' (first | (with_reducible refine And.intro ?_ ?_) | (with_reducible intro _))); all_goals refine R.Lft.mk ?_; (all_goals (try (exact ⟨rfl, R.Own.below (by assumption)⟩))))
  · have hd : decide (g.st.n ≤ 40 ∧ g.hd.n ≤ 300 ∧ g.wt.n ≤ 300 ∧ s.n ≤ 1010 ∧ c.n ≤ 60) = false := decide_eq_false hl
    (refine R.stepH ?_; (repeat' (first | (with_reducible refine And.intro ?_ ?_) | (with_reducible intro _))); all_goals refine R.Lft.mk ?_; (all_goals (try (exact ⟨rfl, R.Own.below (by assumption)⟩))))
    all_goals
      exfalso
      have hh : (!decide (g.st.n ≤ 40 ∧ g.hd.n ≤ 300 ∧ g.wt.n ≤ 300 ∧ s.n ≤ 1010 ∧ c.n ≤ 60)) = false := by assumption
      rw [hd] at hh
      cases hh
end
/-- Starts, and what is closed. -/
structure FromA where
  s : R.Sl Item
  c : R.Sl Bool
def cFrom (x : FromA) : List Value := [.slice x.s.A x.s.n x.s.c, .slice x.c.A x.c.n x.c.c]
def GFrom (W : World) (x : FromA) : Prop := R.GSl cItem 2 GItem W x.s ∧ R.GSl R.cB 1 GB W x.c
instance opn_From : R.Opn Try.prog 58 FromA cFrom GFrom := R.opn_struct2 (o0 := 0) (t0 := 56) (n0 := 1) (o1 := 1) (t1 := 30) (n1 := 1) (by kernel_rfl) (by kernel_rfl) rfl rfl (by kernel_rfl) FromA.mk (fun _ _ => rfl) (fun _ _ _ h1 h2 => ⟨h1, h2⟩)
section
variable (g : Gph) (s : R.Sl Item) (c : R.Sl Bool) (w : World) (hQ : Ask w g s c)
include hQ
set_option maxHeartbeats 8000000 in
theorem dijkPath_any (to : Int) (_hto : In64 to) : Calls Try.prog 6 #[.agg (cGph g).toArray, .agg ([.slice s.A s.n s.c, .slice c.A c.n c.c] : List Value).toArray, .int .i64 to] w fun e w' => e = .returned (.bool true) ∧ Below w.heap.size w w' := by
  have hM := R.Own.start [] w
  refine R.calls_of_WC (fn := Try.f6) Try.func6 rfl Try.ntmps6 (Nat.le_of_ble_eq_true rfl) ?_
  by_cases hl : g.st.n ≤ 40 ∧ g.hd.n ≤ 300 ∧ g.wt.n ≤ 300 ∧ s.n ≤ 1010 ∧ c.n ≤ 60
  · obtain ⟨l1, l2, l3, l4, l5⟩ := hl
    have hd : decide (g.st.n ≤ 40 ∧ g.hd.n ≤ 300 ∧ g.wt.n ≤ 300 ∧ s.n ≤ 1010 ∧ c.n ≤ 60) = true := decide_eq_true ⟨l1, l2, l3, l4, l5⟩
    (refine R.stepH ?_; (repeat' (first | (with_reducible refine And.intro ?_ ?_) | (with_reducible intro _))); all_goals refine R.Lft.mk ?_)
    all_goals first
      | exact nb_t hd (by assumption)
      | skip
    rcases Classical.em (MayS g s c ∧ 0 ≤ to ∧ to < (g.st.n : Int) - 1) with hm | hm
    · obtain ⟨hm, t0, t1⟩ := hm
      obtain ⟨v, rfl⟩ : ∃ v : Nat, to = ((v : Nat) : Int) := ⟨to.toNat, by omega⟩
      have hI := insG_ok hm
      have n1 := hm.1.n1
      have n2 := hm.1.n2
      refine R.WO_call4 rfl rfl R.vv R.vv R.vv R.vv ?_
      refine (path_ok g s c _ (Ask.now R.ohm hQ) hm (by omega) l2 v (by omega)).mono ?_
      rintro _ w3 ⟨A1, c1, f, x, er, D', P', S', hL, rfl, hG, hor⟩
      have hM := R.Own.give R.ohm hG
      refine ⟨_, rfl, ?_⟩
      have hDl : D'.length = g.st.n - 1 := hL.dl
      (refine R.stepH ?_; (repeat' (first | (with_reducible refine And.intro ?_ ?_) | (with_reducible intro _))); all_goals refine R.Lft.mk ?_)
      refine R.WO_call3 rfl rfl R.vv R.vv R.vv ?_
      refine (may_a g s c _ (Ask.now R.ohm hQ)).mono ?_
      rintro _ w4 ⟨rfl, hb4⟩
      have hM := R.Own.call R.ohm hb4
      refine ⟨_, rfl, ?_⟩
      rw [mayS_t hm]
      have t2 : ¬ (g.st.n : Int) - 1 ≤ ((v : Nat) : Int) := by omega
      (refine R.stepH ?_; (repeat' (first | (with_reducible refine And.intro ?_ ?_) | (with_reducible intro _))); all_goals refine R.Lft.mk ?_)
      refine R.WO_call3 rfl rfl R.vv R.vv R.vv ?_
      refine (rall_a g s c _ (Ask.now R.ohm hQ) hm (by omega) l2 hL).mono ?_
      rintro _ w5 ⟨A2, c2, rfl, hG2⟩
      have hM := R.Own.give R.ohm hG2
      refine ⟨_, rfl, ?_⟩
      rcases hor with ⟨e1, rfl, rfl, rfl⟩ | ⟨e1, rfl, rfl, D, e4, hp⟩
      · (refine R.stepH ?_; (repeat' (first | (with_reducible refine And.intro ?_ ?_) | (with_reducible intro _))); all_goals refine R.Lft.mk ?_)
        exact ⟨rfl, R.Own.below R.ohm⟩
      · have hlenf : 0 < (asI f).length := by
          rw [asI_len]
          obtain ⟨x, r, e, _⟩ := hp.head
          rw [e]; simp
        have hfl : f.length ≤ 9223372036854775807 := by
          have h1 := cap_ofD hM (.tail _ (.head _))
          rw [asI_len] at h1
          omega
        have hfl2 : (asI f).length ≤ 9223372036854775807 := by rw [asI_len]; exact hfl
        have hlast : nth (asI f) (((asI f).length : Int) - 1).toNat = ((v : Nat) : Int) := last_asI hp.last
        have hne : nth D' v ≠ 4611686018427387904 := by omega
        (refine R.stepH ?_; (repeat' (first | (with_reducible refine And.intro ?_ ?_) | (with_reducible intro _))); all_goals refine R.Lft.mk ?_)
        refine R.WO_call4 rfl rfl R.vv R.vv R.vv R.vv ?_
        refine (walk_ok g s c _ (Ask.now R.ohm hQ) hm hp A1 c1 (R.Own.inp R.ohm R.memb) hfl).mono ?_
        rintro _ w6 ⟨rfl, hb6⟩
        have hM := R.Own.call R.ohm hb6
        refine ⟨_, rfl, ?_⟩
        rw [e4]
        (refine R.stepH ?_; (repeat' (first | (with_reducible refine And.intro ?_ ?_) | (with_reducible intro _))); all_goals refine R.Lft.mk ?_; (all_goals (try (exact ⟨rfl, R.Own.below (by assumption)⟩))))
    · have hm' : ¬ MayS g s c ∨ to < 0 ∨ (g.st.n : Int) - 1 ≤ to := by
        rcases Classical.em (MayS g s c) with h | h
        · right
          rcases Int.lt_or_le to 0 with e | e
          · exact .inl e
          · rcases Int.lt_or_le to ((g.st.n : Int) - 1) with e2 | e2
            · exact absurd ⟨h, e, e2⟩ hm
            · exact .inr e2
        · exact .inl h
      refine R.WO_call4 rfl rfl R.vv R.vv R.vv R.vv ?_
      refine (path_no g s c _ (Ask.now R.ohm hQ) to hm').mono ?_
      rintro _ w3 ⟨rfl, hb3⟩
      have hM := R.Own.call R.ohm hb3
      refine ⟨_, rfl, ?_⟩
      (refine R.stepH ?_; (repeat' (first | (with_reducible refine And.intro ?_ ?_) | (with_reducible intro _))); all_goals refine R.Lft.mk ?_)
      refine R.WO_call3 rfl rfl R.vv R.vv R.vv ?_
      refine (may_a g s c _ (Ask.now R.ohm hQ)).mono ?_
      rintro _ w4 ⟨rfl, hb4⟩
      have hM := R.Own.call R.ohm hb4
      refine ⟨_, rfl, ?_⟩
      rcases Classical.em (MayS g s c) with h | h
      · rw [mayS_t h]
        have n2 := h.1.n2
        by_cases h1 : to < 0
        · (refine R.stepH ?_; (repeat' (first | (with_reducible refine And.intro ?_ ?_) | (with_reducible intro _))); all_goals refine R.Lft.mk ?_; (all_goals (try (exact ⟨rfl, R.Own.below (by assumption)⟩))))
        · have h2 : (g.st.n : Int) - 1 ≤ to := by
            rcases hm' with q | q | q
            · exact absurd h q
            · omega
            · exact q
          (refine R.stepH ?_; (repeat' (first | (with_reducible refine And.intro ?_ ?_) | (with_reducible intro _))); all_goals refine R.Lft.mk ?_; (all_goals (try (exact ⟨rfl, R.Own.below (by assumption)⟩))))
      · rw [mayS_f h]
        (refine R.stepH ?_; (repeat' (first | (with_reducible refine And.intro ?_ ?_) | (with_reducible intro _))); all_goals refine R.Lft.mk ?_; (all_goals (try (exact ⟨rfl, R.Own.below (by assumption)⟩))))
  · have hd : decide (g.st.n ≤ 40 ∧ g.hd.n ≤ 300 ∧ g.wt.n ≤ 300 ∧ s.n ≤ 1010 ∧ c.n ≤ 60) = false := decide_eq_false hl
    (refine R.stepH ?_; (repeat' (first | (with_reducible refine And.intro ?_ ?_) | (with_reducible intro _))); all_goals refine R.Lft.mk ?_; (all_goals (try (exact ⟨rfl, R.Own.below (by assumption)⟩))))
    all_goals
      exact nb_f hd (by assumption)
end
theorem wf_intD {n : Int} (h : (Lit.int .i64 n).wf = true) : In64 n := by
  have h1 := bounds_i64 h
  unfold In64; omega
set_option maxRecDepth 100000 in
theorem walk_DijkAll {H : Type} {enc : TypeId × Value → H} (W : World) (base : Nat) (args : Array Value) (ds : List (DataW H)) (ps : List MemPlace) (hA : DataW.TrodAll enc Try.prog W 0 (fun _ => true) true [24, 56, 30] args.toList ds ps)
    (hval : ∀ (j : Nat) t v, #[24, 56, 30][j]? = some t → args[j]? = some v → Value.okWide Try.prog W .any base t v) :
    Calls Try.prog 9 args W fun e W' => e = .returned (.bool true) ∧ Below W.heap.size W W' := by
  obtain ⟨v0, v1, v2, d0, d1, d2, p0, p1, p2, rfl, rfl, rfl, h0, h1, h2⟩ := trodAll_three hA
  obtain ⟨z0, q0, g0, a0, b0⟩ := R.open_arg (hval 0 24 v0 rfl rfl) h0
  obtain ⟨z1, q1, g1, a1, b1⟩ := R.open_arg (hval 1 56 v1 rfl rfl) h1
  obtain ⟨z2, q2, g2, a2, b2⟩ := R.open_arg (hval 2 30 v2 rfl rfl) h2
  obtain rfl := a0 (by kernel_rfl)
  obtain rfl := b1 (by kernel_rfl) _ rfl
  obtain rfl := b2 (by kernel_rfl) _ rfl
  exact dijkAll_any z0 z1 z2 W ⟨g0, g1, g2⟩
set_option maxRecDepth 100000 in
theorem walk_DijkPath {H : Type} {enc : TypeId × Value → H} (W : World) (base : Nat) (args : Array Value) (ds : List (DataW H)) (ps : List MemPlace) (hA : DataW.TrodAll enc Try.prog W 0 (fun _ => true) true [24, 58, 3] args.toList ds ps)
    (hval : ∀ (j : Nat) t v, #[24, 58, 3][j]? = some t → args[j]? = some v → Value.okWide Try.prog W .any base t v) :
    Calls Try.prog 6 args W fun e W' => e = .returned (.bool true) ∧ Below W.heap.size W W' := by
  obtain ⟨v0, v1, v2, d0, d1, d2, p0, p1, p2, rfl, rfl, rfl, h0, h1, h2⟩ := trodAll_three hA
  obtain ⟨z0, q0, g0, a0, b0⟩ := R.open_arg (hval 0 24 v0 rfl rfl) h0
  obtain ⟨z1, q1, g1, a1, b1⟩ := R.open_arg (hval 1 58 v1 rfl rfl) h1
  obtain ⟨z2, q2, g2, a2, b2⟩ := R.open_arg (hval 2 3 v2 rfl rfl) h2
  obtain rfl := a0 (by kernel_rfl)
  obtain rfl := a1 (by kernel_rfl)
  obtain rfl := b2 (by kernel_rfl) _ rfl
  exact dijkPath_any z0 z1.s z1.c W ⟨g0, g1.1, g1.2⟩ z2 (wf_intD g2)
end Go.Proofs.Ytegbidklcaccjaa
