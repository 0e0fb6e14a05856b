/- Package comp: what a walk leads to, past what was met. -/
import Derived.Test.YtegbidklcaccjaaKq
import Derived.Test.YtegbidklcaccjaaKb
namespace Go.Proofs.Ytegbidklcaccjaa
open Go.RowKit
open R (In64 InU64 lo64 nth)
/-- A graph that is there since W, not among the blocks of F. -/
def GF1 (F : List Nat) (W : World) (x : R.Sl Int) : Prop := R.Inp F W x.A x.n 1 (x.L.flatMap R.cI) ∧ x.n = x.L.length ∧ (x.n ≤ x.c ∧ x.c ≤ 9223372036854775807) ∧ ∀ y ∈ x.L, GI W y
def GF (F : List Nat) (W : World) (g : Gph) : Prop := GF1 F W g.st ∧ GF1 F W g.hd ∧ GF1 F W g.wt
theorem GF1.now {F : List Nat} {W w : World} {l : List R.Res} {x : R.Sl Int} (hM : R.Own F W w l) (h : GF1 F W x) : R.GSl R.cI 1 GI w x := ⟨hM.inpIn h.1, h.2⟩
theorem GF.now {F : List Nat} {W w : World} {l : List R.Res} {g : Gph} (hM : R.Own F W w l) (h : GF F W g) : GGph w g := ⟨h.1.now hM, h.2.1.now hM, h.2.2.now hM⟩
theorem GF1.on {F : List Nat} {W w : World} {l lc : List R.Res} {x : R.Sl Int} (hM : R.Own F W w (l ++ lc)) (h : GF1 F W x) : GF1 (R.keysOf lc) w x := ⟨R.Own.inpInF hM h.1, h.2⟩
theorem GF.on {F : List Nat} {W w : World} {l lc : List R.Res} {g : Gph} (hM : R.Own F W w (l ++ lc)) (h : GF F W g) : GF (R.keysOf lc) w g := ⟨h.1.on hM, h.2.1.on hM, h.2.2.on hM⟩
theorem GF.of {W : World} {g : Gph} (h : GGph W g) : GF [] W g := h
theorem heads_inpF {F : List Nat} {w : World} {g : Gph} (hG : GF F w g) (hm : MayG g) (v : Nat) (hv : v + 1 < g.st.n) : R.Inp F w (hdsA g v) ((nth g.st.L (v + 1)).toNat - (nth g.st.L v).toNat) 1 ((hdsL g v).flatMap R.cI) := by
  have hup := hm.up v hv
  have hhi := hm.hi (v := v + 1) (by omega)
  have hB := hG.2.1.1
  have hI := (hB.take (nth g.st.L (v + 1)).toNat (by omega)).cutA (lo := (nth g.st.L v).toNat) (m := (nth g.st.L (v + 1)).toNat) (by omega) (Nat.le_refl _)
  have e : (List.take ((nth g.st.L (v + 1)).toNat * 1) (g.hd.L.flatMap R.cI)).drop ((nth g.st.L v).toNat * 1) = (hdsL g v).flatMap R.cI := by
    unfold hdsL
    rw [flat_takeI, flat_dropI]
  rw [e] at hI
  exact hI
/-- The course of a walk: L is what was met, the arcs of the first i ones were gone through. -/
structure Bfs (I : Ac) (B Bc : List Bool) (v : Nat) (L : List Nat) (i : Nat) : Prop where
  len : Bc.length = B.length
  bl : B.length = I.n
  nd : L.Nodup
  mem : ∀ x, x < I.n → (nth Bc x = true ↔ nth B x = true ∨ x ∈ L)
  new : ∀ x ∈ L, x < I.n ∧ nth B x = false ∧ Rch I.arc v x
  hd : v ∈ L
  il : i ≤ L.length
  cl : ∀ k, k < i → ∀ u, L[k]? = some u → ∀ t, I.of u t → nth Bc (I.H t) = true
section
variable {I : Ac} {B Bc : List Bool} {v : Nat} {L : List Nat} {i : Nat}
theorem Bfs.start (hB : B.length = I.n) (hv : v < I.n) (hf : nth B v = false) : Bfs I B (B.set v true) v [v] 0 := by
  refine ⟨by rw [List.length_set], hB, by simp, fun x hx => ?_, fun x hx => ?_, by simp, by simp, fun k hk => absurd hk (Nat.not_lt_zero _)⟩
  · rw [nth_putB (by omega), List.mem_singleton]
    split
    · rename_i e; simp [e]
    · rename_i e; constructor
      · exact .inl
      · rintro (q | q)
        · exact q
        · exact absurd q.symm e
  · rw [List.mem_singleton.1 hx]
    exact ⟨hv, hf, .refl⟩
theorem Bfs.le (h : Bfs I B Bc v L i) : L.length ≤ I.n := nodup_le h.nd fun u hu => (h.new u hu).1
theorem Bfs.add (h : Bfs I B Bc v L i) {u w : Nat} (hu : u ∈ L) (hw : I.arc u w) (hwn : w < I.n) (hf : nth Bc w = false) : Bfs I B (Bc.set w true) v (L ++ [w]) i := by
  have hwL : w ∉ L := fun q => by rw [(h.mem w hwn).2 (.inr q)] at hf; cases hf
  have hput : ∀ x, nth (Bc.set w true) x = if w = x then true else nth Bc x := fun x => nth_putB (by rw [h.len, h.bl]; exact hwn)
  refine ⟨by rw [List.length_set, h.len], h.bl, List.nodup_append.2 ⟨h.nd, by simp, fun a ha b hb => by rw [List.mem_singleton.1 hb]; exact fun q => hwL (q ▸ ha)⟩, fun x hx => ?_, fun x hx => ?_, List.mem_append.2 (.inl h.hd), by have := h.il; rw [List.length_append]; omega, fun k hk z hz t ht => ?_⟩
  · rw [hput, List.mem_append, List.mem_singleton]
    split
    · rename_i e; simp [e]
    · rename_i e
      rw [h.mem x hx]
      constructor
      · rintro (q | q)
        · exact .inl q
        · exact .inr (.inl q)
      · rintro (q | q | q)
        · exact .inl q
        · exact .inr q
        · exact absurd q.symm e
  · rcases List.mem_append.1 hx with c | c
    · exact h.new x c
    · rw [List.mem_singleton.1 c]
      refine ⟨hwn, ?_, .tail (h.new u hu).2.2 hw⟩
      cases hb : nth B w with
      | false => rfl
      | true => rw [(h.mem w hwn).2 (.inl hb)] at hf; cases hf
  · rw [hput]
    split
    · rfl
    · refine h.cl k hk z ?_ t ht
      have := h.il
      rwa [List.getElem?_append_left (by omega)] at hz
theorem Bfs.next (h : Bfs I B Bc v L i) {u : Nat} (hu : L[i]? = some u) (hc : ∀ t, I.of u t → nth Bc (I.H t) = true) : Bfs I B Bc v L (i + 1) := by
  have hi := (List.getElem?_eq_some_iff.1 hu).1
  refine { h with il := hi, cl := fun k hk z hz t ht => ?_ }
  rcases Nat.lt_or_ge k i with c | c
  · exact h.cl k c z hz t ht
  · have : k = i := by omega
    subst this
    rw [hu] at hz
    injection hz with hz
    subst hz
    exact hc t ht
theorem Bfs.met (h : Bfs I B Bc v L L.length) (hv : v < I.n) : Met I.arc I.n B Bc v L := by
  refine ⟨h.len, h.mem, h.new, (h.mem v hv).2 (.inr h.hd), fun x hx w hw => ?_⟩
  obtain ⟨k, hk, e⟩ := List.getElem_of_mem hx
  obtain ⟨_, t, ht, e2⟩ := hw
  rw [← e2]
  exact h.cl k hk x (by rw [List.getElem?_eq_getElem hk, e]) t ht
end
section
variable (g : Gph) (w : World) (Bm : Option Addr) (n : Nat) (B : List Bool) (v : Nat) (hR : R.Has w [.row Bm n n 4 1 (B.flatMap R.cB)]) (hG : GF (R.keysOf [.row Bm n n 4 1 (B.flatMap R.cB)]) w g) (hm : MayG g) (hn : g.st.n - 1 = n) (hBl : B.length = n) (hv : v < n)
include hR hG hm hn hBl hv
set_option maxHeartbeats 4000000 in
theorem creach_any : Calls Try.prog 47 #[.agg (cGph g).toArray, .int .i64 (v : Nat), .slice Bm n n] w fun e w' => ∃ A L c B', e = .returned (.slice A L.length c) ∧ Met (acG g).arc n B B' v L ∧ R.Own (R.keysOf [.row Bm n n 4 1 (B.flatMap R.cB)]) w w' [.row A L.length c 3 1 ((asI L).flatMap R.cI), .row Bm n n 4 1 (B'.flatMap R.cB)] := by
  have hM := R.Own.startF hR
  obtain ⟨F, hF⟩ : ∃ F, R.keysOf [.row Bm n n 4 1 (B.flatMap R.cB)] = F := ⟨_, rfl⟩
  rw [hF] at hM hG ⊢
  have hI := acG_ok hm
  have hIn : (acG g).n = n := hn
  have n2 := hm.n2
  cases hb : nth B v with
  | true =>
    refine R.calls_of_WC (fn := Try.f47) Try.func47 rfl Try.ntmps47 (Nat.le_of_ble_eq_true rfl) ?_
    (refine R.stepH ?_; (repeat' (first | (with_reducible refine And.intro ?_ ?_) | (with_reducible intro _))); all_goals refine R.Lft.mk ?_)
    · refine ⟨none, [], 0, B, rfl, ⟨rfl, fun y hy => by simp, fun y hy => (by cases hy), hb, fun y hy => (by cases hy)⟩, R.Own.nil (R.Own.tl R.ohm) _ _⟩
    · rename_i q _ _ _ _ _ _
      rw [hb] at q
      cases q
  | false =>
    obtain ⟨gB, curB, rfl, _⟩ := row_form (R.Own.ok hM _ (.head _)) (by omega)
    refine R.calls_of_WC (fn := Try.f47) Try.func47 rfl Try.ntmps47 (Nat.le_of_ble_eq_true rfl) ?_
    (refine R.stepH ?_; (repeat' (first | (with_reducible refine And.intro ?_ ?_) | (with_reducible intro _))); all_goals refine R.Lft.mk ?_)
    · rename_i q
      rw [hb] at q
      cases q
    rename_i gb _ _ _ _ _ A0 c0 _ hM
    clear hR hF
    refine R.WC_loop (fun i : Nat × Option Addr × Nat × List Nat × List Bool => [(2, .slice (some ⟨gB, 0, none⟩) n n), (3, .pointer (some ⟨gb, 0, none⟩)), (6, .slice none 0 0), (7, .slice i.2.1 i.2.2.2.1.length i.2.2.1), (8, .int .i64 (i.1 : Nat))])
      (fun i w2 => Bfs (acG g) B i.2.2.2.2 v i.2.2.2.1 i.1 ∧ R.Own F w w2 [.row i.2.1 i.2.2.2.1.length i.2.2.1 3 1 ((asI i.2.2.2.1).flatMap R.cI), .blk gb 24 (cGph g), .row (some ⟨gB, 0, none⟩) n n 4 1 (i.2.2.2.2.flatMap R.cB)]) (fun i => n - i.1)
      ⟨(0, A0, c0, [v], B.set v true), ⟨rfl, rfl, rfl, rfl, rfl, trivial⟩, .start (by rw [hIn]; exact hBl) (by rw [hIn]; exact hv) hb, hM⟩ ?_
    clear hM
    rintro ⟨i, A, c, L, Bc⟩ f w2 ⟨hB, hM⟩
    dsimp only at hB hM ⊢
    have hLn := hB.le
    rw [hIn] at hLn
    by_cases hlt : i < L.length
    · obtain ⟨u, hu⟩ : ∃ u, L[i] = u := ⟨_, rfl⟩
      have hus : L[i]? = some u := by rw [List.getElem?_eq_getElem hlt, hu]
      have huL : u ∈ L := by rw [← hu]; exact List.getElem_mem hlt
      have hun := (hB.new u huL).1
      rw [hIn] at hun
      have hai : nth (asI L) i = ((u : Nat) : Int) := by rw [nth_asI hlt, R.nth_eq hlt, hu]
      have hlen : L.length = (asI L).length := (asI_len L).symm
      have hlo := hm.lo (v := u) (by omega)
      have hup := hm.up u (by omega)
      have hhi := hm.hi (v := u + 1) (by omega)
      have hAh := heads_inpF hG hm u (by omega)
      have hnh := fun j hj => hdsL_nth (g := g) (v := u) (j := j) hj
      obtain ⟨dg, hdg⟩ : ∃ dg, (nth g.st.L (u + 1)).toNat - (nth g.st.L u).toNat = dg := ⟨_, rfl⟩
      obtain ⟨s, hs⟩ : ∃ s, (nth g.st.L u).toNat = s := ⟨_, rfl⟩
      have hSv : (acG g).S u = (nth g.st.L u).toNat := rfl
      have hSv1 : (acG g).S (u + 1) = (nth g.st.L (u + 1)).toNat := rfl
      (refine R.stepH ?_; (repeat' (first | (with_reducible refine And.intro ?_ ?_) | (with_reducible intro _))); all_goals refine R.Lft.mk ?_)
      refine R.WC_planO [(0, false), (1, false), (2, false), (3, false), (4, false), (7, false), (5, true), (6, false)] R.mixed (by decide +kernel) R.ohm ?_
      (refine R.stepH ?_; (repeat' (first | (with_reducible refine And.intro ?_ ?_) | (with_reducible intro _))); all_goals refine R.Lft.mk ?_)
      refine R.WO_call2 rfl rfl R.vv R.vv ?_
      rw [hai]
      refine (heads_any g _ (hG.now R.ohm) hm u (by omega)).mono ?_
      rintro _ w5 ⟨rfl, hb5⟩
      have hM := R.Own.call R.ohm hb5
      rw [hdg] at hAh hnh ⊢
      rw [hs] at hnh
      have hdl : dg = (hdsL g u).length := by have := hAh.1; rw [R.flat_len R.encc_I.len] at this; omega
      first
      | refine ⟨_, rfl, hM, ?_⟩
      | refine ⟨_, rfl, ?_⟩
      (refine R.stepH ?_; (repeat' (first | (with_reducible refine And.intro ?_ ?_) | (with_reducible intro _))); all_goals refine R.Lft.mk ?_)
      clear hai hlen huL hu hlt hLn
      refine R.WC_loop (fun q : Nat × Option Addr × Nat × List Nat × List Bool => [(2, .slice (some ⟨gB, 0, none⟩) n n), (3, .pointer (some ⟨gb, 0, none⟩)), (6, .slice none 0 0), (7, .slice q.2.1 q.2.2.2.1.length q.2.2.1), (8, .int .i64 (i : Nat)), (31, .slice (hdsA g u) dg dg), (32, .int .i64 (dg : Nat)), (33, .int .i64 (q.1 : Nat))])
        (fun q w2 => q.1 ≤ dg ∧ Bfs (acG g) B q.2.2.2.2 v q.2.2.2.1 i ∧ q.2.2.2.1[i]? = some u ∧ (∀ t, s ≤ t → t < s + q.1 → nth q.2.2.2.2 ((acG g).H t) = true) ∧ R.Own F w w2 [.row q.2.1 q.2.2.2.1.length q.2.2.1 3 1 ((asI q.2.2.2.1).flatMap R.cI), .blk gb 24 (cGph g), .row (some ⟨gB, 0, none⟩) n n 4 1 (q.2.2.2.2.flatMap R.cB)]) (fun q => dg - q.1)
        ⟨(0, A, c, L, Bc), ⟨rfl, rfl, rfl, rfl, rfl, rfl, rfl, rfl, trivial⟩, Nat.zero_le _, hB, hus, fun t h1 h2 => by dsimp only at h2; omega, hM⟩ ?_
      clear hM hB hus
      rintro ⟨j, A, c, L, Bc⟩ f w6 ⟨hj, hB, hus, hcl, hM⟩
      dsimp only at hj hB hus hcl hM ⊢
      have hLn := hB.le
      have hil := (List.getElem?_eq_some_iff.1 hus).1
      have hdg3 : dg ≤ 200000 := by have := hm.n3; omega
      rw [hIn] at hLn
      by_cases hjt : j < dg
      · obtain ⟨z, hz⟩ : ∃ z, (acG g).H (s + j) = z := ⟨_, rfl⟩
        have hzn := hI.hd (s + j) (by show s + j < g.hd.n; omega)
        rw [hz, hIn] at hzn
        have ha := (hm.arc u (s + j) (by omega) (by omega) (by omega)).1
        have hH0 : nth (hdsL g u) j = ((z : Nat) : Int) := by
          have hz : (nth g.hd.L (s + j)).toNat = z := hz
          rw [hnh j hjt]
          omega
        have ez : (nth (hdsL g u) j).toNat = z := by omega
        have hBcl := hB.len
        cases hbz : nth Bc z with
        | true =>
          have hbz2 : nth Bc (nth (hdsL g u) j).toNat = true := by rw [ez]; exact hbz
          (refine R.stepH ?_; (repeat' (first | (with_reducible refine And.intro ?_ ?_) | (with_reducible intro _))); all_goals refine R.Lft.mk ?_)
          · exact xb_t hbz2 (by assumption)
          · refine ⟨(j + 1, A, c, L, Bc), ⟨rfl, rfl, rfl, rfl, rfl, rfl, rfl, R.viaI rfl (by dsimp only; omega), trivial⟩, ⟨by dsimp only; omega, hB, hus, fun t h1 h2 => ?_, hM⟩, by dsimp only; omega⟩
            dsimp only at h2
            rcases Nat.lt_or_ge t (s + j) with d | d
            · exact hcl t h1 d
            · have : t = s + j := by omega
              subst this
              rw [hz]
              exact hbz
        | false =>
          have hbz2 : nth Bc (nth (hdsL g u) j).toNat = false := by rw [ez]; exact hbz
          (refine R.stepH ?_; (repeat' (first | (with_reducible refine And.intro ?_ ?_) | (with_reducible intro _))); all_goals refine R.Lft.mk ?_)
          · rename_i A2 c2 _ hM
            rw [ez, hH0, show asI L ++ [((z : Nat) : Int)] = asI (L ++ [z]) by simp [asI], show L.length + 1 = (L ++ [z]).length by simp] at hM
            have huL : u ∈ L := List.mem_of_getElem? hus
            have hadd := hB.add huL (w := z) ⟨by rw [hIn]; exact hun, s + j, ⟨by omega, by omega⟩, hz⟩ (by rw [hIn]; exact hzn) hbz
            refine ⟨(j + 1, A2, c2, L ++ [z], Bc.set z true), ⟨rfl, rfl, rfl, R.viaS rfl (by simp), rfl, rfl, rfl, R.viaI rfl (by dsimp only; omega), trivial⟩, ⟨by dsimp only; omega, hadd, by dsimp only; rw [List.getElem?_append_left hil]; exact hus, fun t h1 h2 => ?_, hM⟩, by dsimp only; omega⟩
            dsimp only at h2 ⊢
            rw [nth_putB (by omega)]
            split
            · rfl
            · rename_i e
              rcases Nat.lt_or_ge t (s + j) with d | d
              · exact hcl t h1 d
              · have : t = s + j := by omega
                subst this
                exact absurd hz.symm e
          · exact xb_f hbz2 (by assumption)
      · obtain rfl : j = dg := by omega
        (refine R.stepH ?_; (repeat' (first | (with_reducible refine And.intro ?_ ?_) | (with_reducible intro _))); all_goals refine R.Lft.mk ?_)
        exact ⟨(i + 1, A, c, L, Bc), ⟨rfl, rfl, rfl, rfl, R.viaI rfl (by dsimp only; omega), trivial⟩, ⟨hB.next hus fun t ht => hcl t (by have := ht.1; omega) (by have := ht.2; omega), hM⟩, by dsimp only; omega⟩
    · obtain rfl : i = L.length := by have := hB.il; omega
      (refine R.stepH ?_; (repeat' (first | (with_reducible refine And.intro ?_ ?_) | (with_reducible intro _))); all_goals refine R.Lft.mk ?_)
      exact ⟨A, L, c, Bc, rfl, by have := hB.met (by rw [hIn]; exact hv); rwa [hIn] at this, R.Own.sub hM R.subl⟩
end
end Go.Proofs.Ytegbidklcaccjaa
