/- Package comp: each vertex's part. -/
import Derived.Test.YtegbidklcaccjaaKs
import Derived.Test.YtegbidklcaccjaaKd
import Derived.Test.YtegbidklcaccjaaKf
import Derived.Test.YtegbidklcaccjaaKm
namespace Go.Proofs.Ytegbidklcaccjaa
open Go.RowKit
open R (In64 InU64 lo64 nth)
/-- A graph turned about, as it is handed back. -/
theorem hdM_mem {M : List (List Item)} {n : Nat} (hn : M.length = n) {y : Int} (h : y ∈ hdM M n) : ∃ j, j < n ∧ ∃ x ∈ nth M j, x.at_ = y := by
  unfold hdM at h
  rw [← hn, List.take_length] at h
  obtain ⟨l, hl, hy⟩ := List.mem_flatMap.1 h
  obtain ⟨j, hj, e⟩ := List.getElem_of_mem hl
  obtain ⟨x, hx, e2⟩ := List.mem_map.1 hy
  exact ⟨j, by omega, x, by rw [R.nth_eq hj, e]; exact hx, e2⟩
theorem wtM_mem {M : List (List Item)} {n : Nat} (hn : M.length = n) {y : Int} (h : y ∈ wtM M n) : ∃ j, j < n ∧ ∃ x ∈ nth M j, x.key = y := by
  unfold wtM at h
  rw [← hn, List.take_length] at h
  obtain ⟨l, hl, hy⟩ := List.mem_flatMap.1 h
  obtain ⟨j, hj, e⟩ := List.getElem_of_mem hl
  obtain ⟨x, hx, e2⟩ := List.mem_map.1 hy
  exact ⟨j, by omega, x, by rw [R.nth_eq hj, e]; exact hx, e2⟩
theorem isG_wf {n : Nat} {M : List (List Item)} {b : Gph} (h : Bks n M) (hb : IsG n M b) (hn : n ≤ 4000) (hm : off M n ≤ 200000) (w : World) : (b.st.n = b.st.L.length ∧ ∀ y ∈ b.st.L, GI w y) ∧ (b.hd.n = b.hd.L.length ∧ ∀ y ∈ b.hd.L, GI w y) ∧ (b.wt.n = b.wt.L.length ∧ ∀ y ∈ b.wt.L, GI w y) := by
  have hl := h.len
  refine ⟨⟨by rw [hb.sn, hb.sl, stM_len], fun y hy => ?_⟩, ⟨by rw [hb.hn, hb.hl, hdM_len (by omega)], fun y hy => ?_⟩, ⟨by rw [hb.wn, hb.wl, wtM_len (by omega)], fun y hy => ?_⟩⟩
  · rw [hb.sl] at hy
    unfold stM at hy
    obtain ⟨j, hj, rfl⟩ := List.mem_map.1 hy
    have hj := List.mem_range.1 hj
    have := off_mono (M := M) (j := j) (k := n) (by omega) (by omega)
    exact R.wf64 (by unfold In64; omega)
  · rw [hb.hl] at hy
    obtain ⟨j, hj, x, hx, rfl⟩ := hdM_mem hl hy
    have := h.it j hj x hx
    exact R.wf64 (by unfold In64; omega)
  · rw [hb.wl] at hy
    obtain ⟨j, hj, x, hx, rfl⟩ := wtM_mem hl hy
    have := h.it j hj x hx
    exact R.wf64 (by unfold In64; omega)
theorem bk_GF {F : List Nat} {W w : World} {l lc : List R.Res} {n : Nat} {M : List (List Item)} {b : Gph} (hM : R.Own F W w (l ++ lc)) (hr : ∀ r ∈ bRows b, r ∈ l) (h : Bks n M) (hb : IsG n M b) (hn : n ≤ 4000) (hm : off M n ≤ 200000) : GF (R.keysOf lc) w b := by
  obtain ⟨⟨s1, s2⟩, ⟨h1, h2⟩, ⟨w1, w2⟩⟩ := isG_wf h hb hn hm w
  have a1 : .row b.hd.A b.hd.n b.hd.c 3 1 (b.hd.L.flatMap R.cI) ∈ l := hr _ (.head _)
  have a2 : .row b.wt.A b.wt.n b.wt.c 3 1 (b.wt.L.flatMap R.cI) ∈ l := hr _ (.tail _ (.head _))
  have a3 : .row b.st.A b.st.n b.st.c 3 1 (b.st.L.flatMap R.cI) ∈ l := hr _ (.tail _ (.tail _ (.head _)))
  exact ⟨⟨R.Own.inpF hM a3, s1, cap_ofD hM (List.mem_append.2 (.inl a3)), s2⟩, ⟨R.Own.inpF hM a1, h1, cap_ofD hM (List.mem_append.2 (.inl a1)), h2⟩, ⟨R.Own.inpF hM a2, w1, cap_ofD hM (List.mem_append.2 (.inl a2)), w2⟩⟩
theorem bk_GG {F : List Nat} {W w : World} {l : List R.Res} {n : Nat} {M : List (List Item)} {b : Gph} (hM : R.Own F W w l) (hr : ∀ r ∈ bRows b, r ∈ l) (h : Bks n M) (hb : IsG n M b) (hn : n ≤ 4000) (hm : off M n ≤ 200000) : GGph w b := by
  obtain ⟨⟨s1, s2⟩, ⟨h1, h2⟩, ⟨w1, w2⟩⟩ := isG_wf h hb hn hm w
  have a1 : .row b.hd.A b.hd.n b.hd.c 3 1 (b.hd.L.flatMap R.cI) ∈ l := hr _ (.head _)
  have a2 : .row b.wt.A b.wt.n b.wt.c 3 1 (b.wt.L.flatMap R.cI) ∈ l := hr _ (.tail _ (.head _))
  have a3 : .row b.st.A b.st.n b.st.c 3 1 (b.st.L.flatMap R.cI) ∈ l := hr _ (.tail _ (.tail _ (.head _)))
  exact ⟨⟨R.Own.inp hM a3, s1, cap_ofD hM a3, s2⟩, ⟨R.Own.inp hM a1, h1, cap_ofD hM a1, h2⟩, ⟨R.Own.inp hM a2, w1, cap_ofD hM a2, w2⟩⟩
theorem Mk.start {A : Nat → Nat → Prop} {n : Nat} {O : List Nat} (hO : O.length = n) : Mk A n O n (List.replicate n false) (List.replicate n 0) := by
  refine ⟨by simp, by simp, fun x y h => ?_, fun k hk h => by omega, fun x _ h => ?_⟩
  · rw [nth_rep_f] at h; cases h
  · rw [nth_rep_f] at h; cases h
theorem Mk.vals {A : Nat → Nat → Prop} {n : Nat} {O : List Nat} {B : List Bool} {P : List Int} (h : Mk A n O 0 B P) (hO : ∀ u, u < n → u ∈ O) : ∀ x ∈ P, 0 ≤ x ∧ x < (O.length : Nat) := fun x hx => by
  obtain ⟨u, hu, e⟩ := List.getElem_of_mem hx
  have hun : u < n := by rw [← h.pl]; exact hu
  have hb : nth B u = true := by
    obtain ⟨k, hk, e⟩ := List.getElem_of_mem (hO u hun)
    rw [← e]
    exact h.up k hk (Nat.zero_le _)
  obtain ⟨k, hk, _, e1, _⟩ := h.me u hun hb
  rw [R.nth_eq hu, e] at e1
  omega
theorem order_len {n : Nat} {O : List Nat} (h : O.Nodup) (hlt : ∀ u ∈ O, u < n) (hO : ∀ u, u < n → u ∈ O) : O.length = n := by
  have a := nodup_le h hlt
  have b := (List.nodup_range (n := n)).length_le_of_subset (l₂ := O) fun u hu => hO u (List.mem_range.1 hu)
  rw [List.length_range] at b
  omega
section
variable (g : Gph) (w : World) (hG : GGph w g) (hm : MayG g)
include hG hm
set_option maxHeartbeats 4000000 in
theorem of_any : Calls Try.prog 13 #[.agg (cGph g).toArray] w fun e w' => ∃ A c L, IsNum (scc (acG g).arc) (g.st.n - 1) L ∧ e = .returned (.tuple #[.slice A (g.st.n - 1) c, .int .i64 0]) ∧ R.Gives w w' A (g.st.n - 1) c 3 1 (L.flatMap R.cI) := by
  have hM := R.Own.start [] w
  have hI := acG_ok hm
  have n1 := hm.n1
  have n2 := hm.n2
  have n3 := hm.n3
  obtain ⟨n, hn⟩ : ∃ n, g.st.n - 1 = n := ⟨_, rfl⟩
  have hIn : (acG g).n = n := hn
  have hA : ∀ u v, (acG g).arc u v → u < n ∧ v < n := fun u v ⟨hu, t, ht, e⟩ => by
    have := hI.hd t (hI.lt hu ht)
    omega
  rw [hn]
  refine R.calls_of_WC (fn := Try.f13) Try.func13 rfl Try.ntmps13 (Nat.le_of_ble_eq_true rfl) ?_
  (refine R.stepH ?_; (repeat' (first | (with_reducible refine And.intro ?_ ?_) | (with_reducible intro _))); all_goals refine R.Lft.mk ?_)
  refine R.WO_call1 rfl rfl R.vv ?_
  refine (aback_any g _ (GGph.now R.ohm hG) hm).mono ?_
  rintro _ w2 ⟨b, M, hb, hbi, rfl, hOb⟩
  rw [hn] at hb hbi
  have hM := R.Own.giveN R.ohm hOb
  simp only [List.cons_append, List.nil_append] at hM
  unfold bRows at hM
  have hbk := hbi.bks hm hn
  have hoff : off M n ≤ 200000 := by rw [hbi.cnt]; exact n3
  have hbm := hbk.may hb (by omega) hoff
  have harc : (acG b).arc = fun u v => (acG g).arc v u := by
    funext u v
    exact propext (hbi.arc hm hn hb)
  have hbn : b.st.n - 1 = n := by rw [hb.sn]; rfl
  refine ⟨_, rfl, ?_⟩
  (refine R.stepH ?_; (repeat' (first | (with_reducible refine And.intro ?_ ?_) | (with_reducible intro _))); all_goals refine R.Lft.mk ?_)
  refine R.WO_call1 rfl rfl R.vv ?_
  refine (late_any g _ (GGph.now R.ohm hG) hm).mono ?_
  rintro _ w3 ⟨Ao, O, co, D, rfl, hD, hO, hGo⟩
  rw [hn] at hO
  have hM := R.Own.give R.ohm hGo
  have hOd : O.Nodup := by simpa using hD.nd
  have hOlt : ∀ u ∈ O, u < n := fun u hu => by rw [← hIn]; exact hD.lt u (by simpa using hu)
  have hOl := order_len hOd hOlt hO
  rw [hOl] at hM ⊢
  refine ⟨_, rfl, ?_⟩
  (refine R.stepH ?_; (repeat' (first | (with_reducible refine And.intro ?_ ?_) | (with_reducible intro _))); all_goals refine R.Lft.mk ?_)
  rename_i gb _ _ _ bb _ _ _ _ pA _ _ Bm _ hM
  refine R.WC_loop (fun i : Nat × List Bool × List Int => [(2, .slice none 0 0), (3, .int .i64 0), (4, .pointer (some ⟨bb, 0, none⟩)), (6, .slice Ao n co), (7, .slice pA n n), (8, .slice Bm n n), (9, .int .i64 ((i.1 : Nat) - 1))])
    (fun i w2 => i.1 ≤ n ∧ Mk (acG g).arc n O i.1 i.2.1 i.2.2 ∧ R.Own [] w w2 (.row Bm n n 4 1 (i.2.1.flatMap R.cB) :: [.row pA n n 3 1 (i.2.2.flatMap R.cI), .row Ao n co 3 1 ((asI O).flatMap R.cI), .blk bb 24 (cGph b), .row b.hd.A b.hd.n b.hd.c 3 1 (b.hd.L.flatMap R.cI), .row b.wt.A b.wt.n b.wt.c 3 1 (b.wt.L.flatMap R.cI), .row b.st.A b.st.n b.st.c 3 1 (b.st.L.flatMap R.cI)])) (fun i => i.1)
    ⟨(n, List.replicate n false, List.replicate n 0), ⟨rfl, rfl, rfl, rfl, rfl, rfl, rfl, trivial⟩, Nat.le_refl _, Mk.start hOl, R.dr (.blk gb _ _) hM⟩ ?_
  clear hM
  rintro ⟨k, B, P⟩ f w4 ⟨hk, hMk, hM⟩
  dsimp only at hk hMk hM ⊢
  have hBl := hMk.bl
  have hPl := hMk.pl
  by_cases hkt : 0 < k
  · obtain ⟨i, rfl⟩ : ∃ i, k = i + 1 := ⟨k - 1, by omega⟩
    have e1 : (((i + 1 : Nat) : Int) - 1) = ((i : Nat) : Int) := by omega
    have hiO : i < O.length := by omega
    have hai : nth (asI O) i = ((O[i] : Nat) : Int) := by rw [nth_asI hiO, R.nth_eq hiO]
    have hri : O[i] < n := hOlt _ (List.getElem_mem hiO)
    have hal : (asI O).length = n := by rw [asI_len, hOl]
    rw [e1]
    (refine R.stepH ?_; (repeat' (first | (with_reducible refine And.intro ?_ ?_) | (with_reducible intro _))); all_goals refine R.Lft.mk ?_)
    refine R.WC_planD1 [(0, false), (1, false), (2, false), (3, false), (4, false), (5, false), (8, false), (6, true), (7, false)] R.mixed (by decide +kernel) R.ohm ?_
    (refine R.stepH ?_; (repeat' (first | (with_reducible refine And.intro ?_ ?_) | (with_reducible intro _))); all_goals refine R.Lft.mk ?_)
    refine R.WO_call3 rfl rfl R.vv R.vv R.vv ?_
    rw [hai]
    have hP := (show R.Own [] w _ ([.row Bm n n 4 1 (B.flatMap R.cB)] ++ [.row pA n n 3 1 (P.flatMap R.cI), .row Ao n co 3 1 ((asI O).flatMap R.cI), .blk bb 24 (cGph b), .row b.hd.A b.hd.n b.hd.c 3 1 (b.hd.L.flatMap R.cI), .row b.wt.A b.wt.n b.wt.c 3 1 (b.wt.L.flatMap R.cI), .row b.st.A b.st.n b.st.c 3 1 (b.st.L.flatMap R.cI)]) from R.ohm).perm List.perm_append_comm
    refine (creach_any b _ Bm n B O[i] (R.Own.has hP) (bk_GF hP (by unfold bRows; intro r hr; simp only [List.mem_cons, List.not_mem_nil, or_false] at hr ⊢; rcases hr with h | h | h <;> simp [h]) hbk hb (by omega) hoff) hbm hbn hBl hri).mono ?_
    rintro _ w8 ⟨Al, L, cl, B2, rfl, hMet, hO8⟩
    have hM := R.Own.callF hP hO8
    rw [harc] at hMet
    first
    | refine ⟨_, rfl, R.Own.sub hM (List.sublist_append_left _ _), ?_⟩
    | refine ⟨_, rfl, ?_⟩
    simp only [List.cons_append, List.nil_append] at hM
    have hLc := cap_ofD hM (A := Al) R.memb
    (refine R.stepH ?_; (repeat' (first | (with_reducible refine And.intro ?_ ?_) | (with_reducible intro _))); all_goals refine R.Lft.mk ?_)
    refine R.WC_loop (fun q : Nat × List Int => [(2, .slice none 0 0), (3, .int .i64 0), (4, .pointer (some ⟨bb, 0, none⟩)), (6, .slice Ao n co), (7, .slice pA n n), (8, .slice Bm n n), (9, .int .i64 (i : Nat)), (41, .slice Al L.length cl), (42, .int .i64 (L.length : Nat)), (43, .int .i64 (q.1 : Nat))])
      (fun q w2 => q.1 ≤ L.length ∧ q.2.length = n ∧ (∀ x, nth q.2 x = if x ∈ L.take q.1 then ((i : Nat) : Int) else nth P x) ∧ R.Own [] w w2 ([.row pA n n 3 1 (q.2.flatMap R.cI), .row Ao n co 3 1 ((asI O).flatMap R.cI), .blk bb 24 (cGph b), .row b.hd.A b.hd.n b.hd.c 3 1 (b.hd.L.flatMap R.cI), .row b.wt.A b.wt.n b.wt.c 3 1 (b.wt.L.flatMap R.cI), .row b.st.A b.st.n b.st.c 3 1 (b.st.L.flatMap R.cI)] ++ [.row Al L.length cl 3 1 ((asI L).flatMap R.cI), .row Bm n n 4 1 (B2.flatMap R.cB)])) (fun q => L.length - q.1)
      ⟨(0, P), ⟨rfl, rfl, rfl, rfl, rfl, rfl, rfl, rfl, rfl, rfl, trivial⟩, Nat.zero_le _, hPl, fun x => by simp, R.ohm⟩ ?_
    clear hM
    rintro ⟨q, P2⟩ f w9 ⟨hq, hP2, hPn, hM⟩
    dsimp only at hq hP2 hPn hM ⊢
    simp only [List.cons_append, List.nil_append] at hM
    by_cases hql : q < L.length
    · have haq : nth (asI L) q = ((L[q] : Nat) : Int) := by rw [nth_asI hql, R.nth_eq hql]
      have hqn : L[q] < n := (hMet.new _ (List.getElem_mem hql)).1
      have hll : (asI L).length = L.length := asI_len L
      have haz : (nth (asI L) q).toNat = L[q] := by rw [haq]; exact Int.toNat_natCast _
      obtain ⟨gP, curP, rfl, _⟩ := row_form (R.Own.ok hM _ (.head _)) (by omega)
      (refine R.stepH ?_; (repeat' (first | (with_reducible refine And.intro ?_ ?_) | (with_reducible intro _))); all_goals refine R.Lft.mk ?_)
      rename_i hM
      rw [haz] at hM
      refine ⟨(q + 1, P2.set L[q] ((i : Nat) : Int)), ⟨rfl, rfl, rfl, rfl, rfl, rfl, rfl, rfl, rfl, R.viaI rfl (by dsimp only; omega), trivial⟩, ⟨by dsimp only; omega, by dsimp only; rw [List.length_set]; exact hP2, fun x => ?_, hM⟩, by dsimp only; omega⟩
      dsimp only
      rw [nth_setI (by omega), List.take_succ_eq_append_getElem hql, hPn]
      by_cases hx : L[q] = x
      · rw [if_pos hx, if_pos (by simp [hx])]
      · rw [if_neg hx]
        simp only [List.mem_append, List.mem_singleton, Ne.symm hx, or_false]
    · obtain rfl : q = L.length := by omega
      rw [List.take_length] at hPn
      have hst := hMk.step hD.la hOd hO hA hiO hMet hP2 hPn hri
      (refine R.stepH ?_; (repeat' (first | (with_reducible refine And.intro ?_ ?_) | (with_reducible intro _))); all_goals refine R.Lft.mk ?_)
      exact ⟨(i, B2, P2), ⟨rfl, rfl, rfl, rfl, rfl, rfl, R.viaI rfl (by dsimp only), trivial⟩, ⟨by dsimp only; omega, hst, R.pk (r := .row Bm _ _ _ _ _) (R.dr (.row Al _ _ _ _ _) R.ohm)⟩, by dsimp only; omega⟩
  · obtain rfl : k = 0 := by omega
    have hv := hMk.vals hO
    have hdn := fun x hx y hy => hMk.done hO (x := x) (y := y) hx hy
    (refine R.stepH ?_; (repeat' (first | (with_reducible refine And.intro ?_ ?_) | (with_reducible intro _))); all_goals refine R.Lft.mk ?_)
    refine R.WO_call1 rfl rfl R.vv ?_
    refine (numbered_any ⟨pA, n, n, P⟩ _ (R.Own.inp R.ohm R.memb) hPl.symm (by dsimp only; omega) (fun x hx => by have := hv x hx; unfold In64; omega)).mono ?_
    rintro _ w8 ⟨A, c, L, hL, rfl, hGv⟩
    have hM := R.Own.give R.ohm hGv
    refine ⟨_, rfl, ?_⟩
    (refine R.stepH ?_; (repeat' (first | (with_reducible refine And.intro ?_ ?_) | (with_reducible intro _))); all_goals refine R.Lft.mk ?_)
    exact ⟨A, c, L, hL.congr fun u v hu hv => hdn u hu v hv, rfl, R.Own.gives R.ohm⟩
end
end Go.Proofs.Ytegbidklcaccjaa
