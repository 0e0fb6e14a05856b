/- Package comp: vertices, each behind all that a walk from it met first. -/
import Derived.Test.YtegbidklcaccjaaKr
import Derived.Test.YtegbidklcaccjaaNr
import Derived.Test.YtegbidklcaccjaaKk
namespace Go.Proofs.Ytegbidklcaccjaa
open Go.RowKit
open R (In64 InU64 lo64 nth)
def asF (K : List (Nat × Nat)) : List Item := K.map fun x => ⟨((x.1 : Nat) : Int), ((x.2 : Nat) : Int)⟩
theorem asF_len (K : List (Nat × Nat)) : (asF K).length = K.length := by unfold asF; rw [List.length_map]
theorem asF_app (K : List (Nat × Nat)) (x : Nat × Nat) : asF (K ++ [x]) = asF K ++ [⟨((x.1 : Nat) : Int), ((x.2 : Nat) : Int)⟩] := by simp [asF]
theorem asF_last (K : List (Nat × Nat)) (x : Nat × Nat) : nth (asF (K ++ [x])) K.length = ⟨((x.1 : Nat) : Int), ((x.2 : Nat) : Int)⟩ := by
  rw [asF_app, R.nth_eq (by simp [asF_len])]
  simp [asF_len]
theorem asF_set (K : List (Nat × Nat)) (v d : Nat) : (asF (K ++ [(v, d)])).set K.length ⟨((v : Nat) : Int), ((d : Nat) : Int) + 1⟩ = asF (K ++ [(v, d + 1)]) := by
  rw [asF_app, asF_app, List.set_append, if_neg (by rw [asF_len]; exact Nat.lt_irrefl _), asF_len, Nat.sub_self]
  rfl
theorem asF_take (K : List (Nat × Nat)) (x : Nat × Nat) : (asF (K ++ [x])).take K.length = asF K := by
  rw [asF_app, List.take_append_of_le_length (by rw [asF_len]; exact Nat.le_refl _), List.take_of_length_le (by rw [asF_len]; exact Nat.le_refl _)]
theorem xx_tf {b : Bool} {p : Prop} (h : b = true) (h' : b = false) : p := by rw [h] at h'; cases h'
theorem lastOf {T : Type} : ∀ l : List T, l = [] ∨ ∃ L b, l = L ++ [b]
  | [] => .inl rfl
  | a :: t => .inr ⟨(a :: t).dropLast, (a :: t).getLast (by simp), (List.dropLast_concat_getLast (by simp)).symm⟩
theorem Ac.arc_lt {I : Ac} (hI : I.Ok) {u v : Nat} (h : I.arc u v) : v < I.n := by
  obtain ⟨hu, t, ht, e⟩ := h
  have := hI.hd t (hI.lt hu ht)
  omega
/-- An arc of one that is gone through, not the last one. -/
theorem Df.step {I : Ac} {O : List Nat} {K1 K2 : List (Nat × Nat)} {D : List Nat} {v d : Nat} (h : Df I O (K1 ++ (v, d) :: K2) D) (hI : I.Ok) (hd : I.S v + d < I.S (v + 1)) (hm : I.H (I.S v + d) ∈ O ++ (K1 ++ (v, d) :: K2).map Prod.fst) : Df I O (K1 ++ (v, d + 1) :: K2) (D ++ [I.S v + d]) := by
  have e : (K1 ++ (v, d + 1) :: K2).map Prod.fst = (K1 ++ (v, d) :: K2).map Prod.fst := by simp
  have hv : v < I.n := h.lt v (by simp)
  have hj : I.of v (I.S v + d) := ⟨by omega, hd⟩
  have hjm := hI.lt hv hj
  have hk := h.kk (v, d) (by simp)
  have hjD : I.S v + d ∉ D := fun c => by
    have := (hk.2 _ hj).1 c
    dsimp only at this
    omega
  have hnK : ∀ x, (x ∈ K1 ∨ x ∈ K2) → x.1 ≠ v := fun x hx q => by
    have := h.nd
    rw [List.map_append, List.map_cons, List.nodup_append, List.nodup_append, List.nodup_cons] at this
    rcases hx with hx | hx
    · exact this.2.1.2.2 x.1 (List.mem_map.2 ⟨x, hx, rfl⟩) v (.head _) q
    · exact this.2.1.2.1.1 (q ▸ List.mem_map.2 ⟨x, hx, rfl⟩)
  refine ⟨by rw [e]; exact h.nd, by rw [e]; exact h.lt, h.la, ?_, List.nodup_append.2 ⟨h.dn, by simp, fun a ha b hb => by rw [List.mem_singleton.1 hb]; exact fun q => hjD (q ▸ ha)⟩, fun i hi => ?_, fun i hi => ?_, fun u hu i hi => List.mem_append.2 (.inl (h.oo u hu i hi)), fun x hx => ?_, fun u hu hun i hi hiD => ?_⟩
  · have := h.ch
    have q := List.pairwise_map (f := Prod.fst) (R := Rch I.arc) (l := K1 ++ (v, d + 1) :: K2)
    rw [e] at q
    exact q.1 (List.pairwise_map.2 this)
  · rcases List.mem_append.1 hi with c | c
    · exact h.dm i c
    · rw [List.mem_singleton.1 c]; exact hjm
  · rw [e]
    rcases List.mem_append.1 hi with c | c
    · exact h.hd i c
    · rw [List.mem_singleton.1 c]; exact hm
  · have hold : (x ∈ K1 ∨ x ∈ K2) → I.S x.1 + x.2 ≤ I.S (x.1 + 1) ∧ ∀ i, I.of x.1 i → (i ∈ D ++ [I.S v + d] ↔ i < I.S x.1 + x.2) := fun c => by
      have hin : x ∈ K1 ++ (v, d) :: K2 := by
        rcases c with c | c
        · exact List.mem_append.2 (.inl c)
        · exact List.mem_append.2 (.inr (.tail _ c))
      have hx' := h.kk x hin
      refine ⟨hx'.1, fun i hi => ?_⟩
      rw [List.mem_append, List.mem_singleton, hx'.2 i hi]
      constructor
      · rintro (q | q)
        · exact q
        · subst q
          have hx1 := h.lt x.1 (List.mem_append.2 (.inr (List.mem_map.2 ⟨x, hin, rfl⟩)))
          exact absurd (hI.same hx1 hv hi hj) (hnK x c)
      · exact .inl
    rcases List.mem_append.1 hx with c | c
    · exact hold (.inl c)
    · rcases List.mem_cons.1 c with c | c
      · subst c
        refine ⟨by dsimp only; omega, fun i hi => ?_⟩
        have q1 := hk.2 i hi
        dsimp only at q1 ⊢
        rw [List.mem_append, List.mem_singleton, q1]
        omega
      · exact hold (.inr c)
  · rw [e] at hun
    rcases List.mem_append.1 hiD with c | c
    · exact h.un u hu hun i hi c
    · rw [List.mem_singleton.1 c] at hi
      have := hI.same hu hv hi hj
      exact hun (by rw [this]; simp)
theorem flat_takeF (M : List Item) (i : Nat) : (M.flatMap cItem).take (i * 2) = (M.take i).flatMap cItem := R.flat_takeN encc_Item.len M i
section
variable (g : Gph) (w : World) (hG : GGph w g) (hm : MayG g)
include hG hm
set_option maxHeartbeats 4000000 in
theorem late_any : Calls Try.prog 46 #[.agg (cGph g).toArray] w fun e w' => ∃ A O c D, e = .returned (.slice A O.length c) ∧ Df (acG g) O [] D ∧ (∀ u, u < g.st.n - 1 → u ∈ O) ∧ R.Gives w w' A O.length c 3 1 ((asI O).flatMap R.cI) := by
  have hM := R.Own.start [] w
  have hI := acG_ok hm
  have n1 := hm.n1
  have n2 := hm.n2
  have n3 := hm.n3
  obtain ⟨n, hn⟩ : ∃ n, g.st.n - 1 = n := ⟨_, rfl⟩
  have hgn : (g.st.n : Int) - 1 = (n : Nat) := by omega
  have hIn : (acG g).n = n := hn
  have hIm : (acG g).m = g.hd.n := rfl
  rw [hn]
  have ek : ((g.st.n : Int) - 1).toNat = n := by omega
  have hG0 := hG
  obtain ⟨⟨hA, hal, hac, hag⟩, ⟨hB, hbl, hbc, hbg⟩, ⟨hC, hcl, hcc, hcg⟩⟩ := hG
  refine R.calls_of_WC (fn := Try.f46) Try.func46 rfl Try.ntmps46 (Nat.le_of_ble_eq_true rfl) ?_
  (refine R.stepH ?_; (repeat' (first | (with_reducible refine And.intro ?_ ?_) | (with_reducible intro _))); all_goals refine R.Lft.mk ?_)
  rename_i gb _ _ B w1 hM
  rw [ek] at hM ⊢
  try rw [hgn]
  refine R.WC_loop (fun i : Nat × Option Addr × Nat × List Nat × List Nat × List Bool => [(1, .pointer (some ⟨gb, 0, none⟩)), (2, .slice none 0 0), (4, .slice B n n), (5, .slice i.2.1 i.2.2.2.1.length i.2.2.1), (17, .int .i64 (n : Nat)), (18, .int .i64 (i.1 : Nat))])
    (fun i w2 => i.1 ≤ n ∧ Df (acG g) i.2.2.2.1 [] i.2.2.2.2.1 ∧ (∀ u, u < i.1 → u ∈ i.2.2.2.1) ∧ i.2.2.2.2.2.length = n ∧ (∀ x, x < n → (nth i.2.2.2.2.2 x = true ↔ x ∈ i.2.2.2.1)) ∧ R.Own [] w w2 [.row i.2.1 i.2.2.2.1.length i.2.2.1 3 1 ((asI i.2.2.2.1).flatMap R.cI), .row B n n 4 1 (i.2.2.2.2.2.flatMap R.cB), .blk gb 24 (cGph g)]) (fun i => n - i.1)
    ⟨(0, none, 0, [], [], List.replicate n false), ⟨rfl, rfl, rfl, rfl, rfl, rfl, trivial⟩, Nat.zero_le _, .nil, fun u hu => absurd hu (Nat.not_lt_zero _), by simp, fun x hx => by dsimp only; rw [nth_rep_f]; simp, R.Own.nil hM _ _⟩ ?_
  clear hM
  rintro ⟨v, A, c, O, D, Bm⟩ f w2 ⟨hv, hD, hO, hBl, hBm, hM⟩
  dsimp only at hv hD hO hBl hBm hM ⊢
  have hln := hD.len
  rw [hIn, hIm] at hln
  by_cases hlt : v < n
  · have hBv := hBm v hlt
    cases hb : nth Bm v with
    | true =>
      rw [hb] at hBv
      have hvO := hBv.1 rfl
      (refine R.stepH ?_; (repeat' (first | (with_reducible refine And.intro ?_ ?_) | (with_reducible intro _))); all_goals refine R.Lft.mk ?_)
      all_goals first
        | exact xx_tf hb (by assumption)
        | (refine ⟨(v + 1, A, c, O, D, Bm), ⟨rfl, rfl, rfl, rfl, rfl, R.viaI rfl (by dsimp only; omega), trivial⟩, ⟨by dsimp only; omega, hD, fun u hu => ?_, hBl, hBm, R.ohm⟩, by dsimp only; omega⟩
           dsimp only at hu
           rcases Nat.lt_or_ge u v with q | q
           · exact hO u q
           · rw [show u = v by omega]; exact hvO)
    | false =>
      rw [hb] at hBv
      have hvO : v ∉ O := fun q => by have := hBv.2 q; cases this
      obtain ⟨gB, curB, rfl, _⟩ := row_form (R.Own.ok hM _ (.tail _ (.head _))) (by omega)
      have hD2 := hD.push hI (w := v) (by rw [hIn]; exact hlt) (by simpa using hvO) (fun x hx => (by cases hx))
      (refine R.stepH ?_; (repeat' (first | (with_reducible refine And.intro ?_ ?_) | (with_reducible intro _))); all_goals refine R.Lft.mk ?_)
      · exact xx_tf (by assumption) hb
      rename_i As cs _ hM
      refine R.WC_loop (fun i : Option Addr × Nat × List (Nat × Nat) × Option Addr × Nat × List Nat × List Nat × List Bool => [(1, .pointer (some ⟨gb, 0, none⟩)), (2, .slice none 0 0), (4, .slice (some ⟨gB, 0, none⟩) n n), (5, .slice i.2.2.2.1 i.2.2.2.2.2.1.length i.2.2.2.2.1), (7, .slice i.1 i.2.2.1.length i.2.1), (17, .int .i64 (n : Nat)), (18, .int .i64 (v : Nat))])
        (fun i w2 => Df (acG g) i.2.2.2.2.2.1 i.2.2.1 i.2.2.2.2.2.2.1 ∧ (∀ u, u ≤ v → u ∈ i.2.2.2.2.2.1 ++ i.2.2.1.map Prod.fst) ∧ i.2.2.2.2.2.2.2.length = n ∧ (∀ x, x < n → (nth i.2.2.2.2.2.2.2 x = true ↔ x ∈ i.2.2.2.2.2.1 ++ i.2.2.1.map Prod.fst)) ∧ R.Own [] w w2 [.row i.1 i.2.2.1.length i.2.1 135 2 ((asF i.2.2.1).flatMap cItem), .row i.2.2.2.1 i.2.2.2.2.2.1.length i.2.2.2.2.1 3 1 ((asI i.2.2.2.2.2.1).flatMap R.cI), .row (some ⟨gB, 0, none⟩) n n 4 1 (i.2.2.2.2.2.2.2.flatMap R.cB), .blk gb 24 (cGph g)])
        (fun i => (n + g.hd.n) - (i.2.2.2.2.2.1.length + i.2.2.2.2.2.2.1.length))
        ⟨(As, cs, [(v, 0)], A, c, O, D, Bm.set v true), ⟨rfl, rfl, rfl, rfl, rfl, rfl, rfl, trivial⟩, hD2, fun u hu => ?_, by dsimp only; rw [List.length_set]; exact hBl, fun x hx => ?_, hM⟩ ?_
      · dsimp only
        rcases Nat.lt_or_ge u v with q | q
        · exact List.mem_append.2 (.inl (hO u q))
        · exact List.mem_append.2 (.inr (by simp; omega))
      · dsimp only
        rw [nth_putB (by omega)]
        split
        · rename_i e; simp [e]
        · rename_i e
          rw [hBm x hx]
          simp [Ne.symm e]
      clear hM hD hO hBl hBm hln hD2 hBv hvO hb
      rintro ⟨As, cs, K, A, c, O, D, Bm⟩ f w3 ⟨hD, hO, hBl, hBm, hM⟩
      dsimp only at hD hO hBl hBm hM ⊢
      have hln := hD.len
      rw [hIn, hIm] at hln
      rcases lastOf K with rfl | ⟨K, ⟨u, d⟩, rfl⟩
      · (refine R.stepH ?_; (repeat' (first | (with_reducible refine And.intro ?_ ?_) | (with_reducible intro _))); all_goals refine R.Lft.mk ?_)
        refine ⟨(v + 1, A, c, O, D, Bm), ⟨rfl, rfl, rfl, rfl, rfl, R.viaI rfl (by dsimp only; omega), trivial⟩, ⟨by dsimp only; omega, hD, fun u hu => ?_, hBl, fun x hx => ?_, R.Own.sub R.ohm R.subl⟩, by dsimp only; omega⟩
        · have := hO u (by dsimp only at hu; omega)
          simpa using this
        · have := hBm x hx
          simpa using this
      · obtain ⟨Kx, hKx⟩ : ∃ Kx, K ++ [(u, d)] = Kx := ⟨_, rfl⟩
        obtain ⟨k, hk⟩ : ∃ k, K.length = k := ⟨_, rfl⟩
        have hKl : Kx.length = k + 1 := by rw [← hKx, ← hk]; simp
        have hkn : k + 1 ≤ n := by have := hln.1; rw [hKx, hKl] at this; omega
        have hFl : (asF Kx).length = k + 1 := by rw [asF_len, hKl]
        have hlast : nth (asF Kx) k = ⟨((u : Nat) : Int), ((d : Nat) : Int)⟩ := by rw [← hKx, ← hk]; exact asF_last _ _
        have ei : (((k + 1 : Nat) : Int) - 1).toNat = k := by omega
        have hun : u < n := by rw [← hIn]; exact hD.lt u (by simp)
        have hkk := hD.kk (u, d) (by simp)
        dsimp only at hkk
        rw [hKx, hKl] at hM
        rw [hKx, hKl]
        have hlo := hm.lo (v := u) (by omega)
        have hup := hm.up u (by omega)
        have hhi := hm.hi (v := u + 1) (by omega)
        have hAh := heads_inp g w hG0 hm u (by omega)
        have hnh := fun j hj => hdsL_nth (g := g) (v := u) (j := j) hj
        obtain ⟨dg, hdg⟩ : ∃ dg, (nth g.st.L (u + 1)).toNat - (nth g.st.L u).toNat = dg := ⟨_, rfl⟩
        obtain ⟨s, hs⟩ : ∃ s, (nth g.st.L u).toNat = s := ⟨_, rfl⟩
        have hSv : (acG g).S u = (nth g.st.L u).toNat := rfl
        have hSv1 : (acG g).S (u + 1) = (nth g.st.L (u + 1)).toNat := rfl
        obtain ⟨gS, curS, rfl, _⟩ := row_form (R.Own.ok hM _ (.head _)) (by omega)
        have hkey : (nth (asF Kx) (((k + 1 : Nat) : Int) - 1).toNat).key = ((u : Nat) : Int) := by rw [ei, hlast]
        have hat : (nth (asF Kx) (((k + 1 : Nat) : Int) - 1).toNat).at_ = ((d : Nat) : Int) := by rw [ei, hlast]
        have hKM := R.Lft.mk hM
        clear hM
        (refine R.stepH ?_; (repeat' (first | (with_reducible refine And.intro ?_ ?_) | (with_reducible intro _))); all_goals refine R.Lft.mk ?_)
        have hM := hKM.out
        refine R.WC_planO [(0, false), (1, false), (2, false), (3, false), (4, false), (5, true), (6, false)] R.mixed (by decide +kernel) R.ohm ?_
        (refine R.stepP ?_; (repeat' (first | (with_reducible refine And.intro ?_ ?_) | (with_reducible intro _))); all_goals refine R.Lft.mk ?_)
        refine R.WO_call2 rfl rfl R.vv R.vv ?_
        rw [hkey]
        refine (heads_any g _ (GGph.now R.ohm hG0) hm u (by omega)).mono ?_
        rintro _ w5 ⟨rfl, hb5⟩
        have hM := R.Own.call R.ohm hb5
        rw [hdg] at hAh hnh ⊢
        rw [hs] at hnh
        have hdl : dg = (hdsL g u).length := by have := hAh.1; rw [R.flat_len R.encc_I.len] at this; omega
        first
        | refine ⟨_, rfl, hM, ?_⟩
        | refine ⟨_, rfl, ?_⟩
        have hnx : nth (asF Kx) (((k + 1 : Nat) : Int) - 1).toNat = ⟨((u : Nat) : Int), ((d : Nat) : Int)⟩ := by rw [ei, hlast]
        have htk : (asF Kx).take k = asF K := by rw [← hKx, ← hk]; exact asF_take _ _
        have hp : ∀ x, x ∈ (O ++ [u]) ++ K.map Prod.fst ↔ x ∈ O ++ (K ++ [(u, d)]).map Prod.fst := fun x => by
          simp only [List.map_append, List.mem_append, List.map_cons, List.map_nil, List.mem_singleton]
          constructor
          · rintro ((q | q) | q)
            · exact .inl q
            · exact .inr (.inr q)
            · exact .inr (.inl q)
          · rintro (q | q | q)
            · exact .inl (.inl q)
            · exact .inr q
            · exact .inl (.inr q)
        by_cases hdd : d = dg
        · (refine R.stepP ?_; (repeat' (first | (with_reducible refine And.intro ?_ ?_) | (with_reducible intro _))); all_goals refine R.Lft.mk ?_)
          rename_i A2 c2 _ hM
          have hM := own_cut (k := k) hM (by omega)
          rw [flat_takeF, htk, hkey, show asI O ++ [((u : Nat) : Int)] = asI (O ++ [u]) by simp [asI], show O.length + 1 = (O ++ [u]).length by simp, ← hk] at hM
          refine ⟨(some ⟨gS, 0, none⟩, cs, K, A2, c2, O ++ [u], D, Bm), ⟨rfl, rfl, rfl, R.viaS rfl (by simp), R.viaS rfl (by dsimp only; omega), rfl, rfl, trivial⟩, ⟨hD.pop (by omega), fun x hx => (hp x).2 (hO x hx), hBl, fun x hx => (hBm x hx).trans (hp x).symm, hM⟩, ?_⟩
          have := hD.pop (by omega)
          have := this.len
          rw [hIn, hIm] at this
          dsimp only
          rw [List.length_append, List.length_singleton] at this ⊢
          omega
        · have hdlt : d < dg := by omega
          have hid : (acG g).S u + d < (acG g).S (u + 1) := by omega
          obtain ⟨z, hz⟩ : ∃ z, (acG g).H ((acG g).S u + d) = z := ⟨_, rfl⟩
          have hz1 : (nth g.hd.L (s + d)).toNat = z := by rw [← hs]; exact hz
          have ha := (hm.arc u (s + d) (by omega) (by omega) (by omega)).1
          have harcz : (acG g).arc u z := ⟨by omega, (acG g).S u + d, ⟨by omega, hid⟩, hz⟩
          have hzn := Ac.arc_lt hI harcz
          rw [hIn] at hzn
          have hw : nth (hdsL g u) (nth (asF Kx) (((k + 1 : Nat) : Int) - 1).toNat).at_.toNat = ((z : Nat) : Int) := by
            rw [hat, Int.toNat_natCast, hnh d hdlt]
            omega
          have hzt : (nth (hdsL g u) (nth (asF Kx) (((k + 1 : Nat) : Int) - 1).toNat).at_.toNat).toNat = z := by rw [hw]; exact Int.toNat_natCast _
          have hl2 : (K ++ [(u, d + 1)]).length = k + 1 := by rw [← hk]; simp
          have hset : (asF Kx).set k ⟨((u : Nat) : Int), ((d : Nat) : Int) + 1⟩ = asF (K ++ [(u, d + 1)]) := by rw [← hKx, ← hk]; exact asF_set _ _ _
          (refine R.stepP ?_; (repeat' (first | (with_reducible refine And.intro ?_ ?_) | (with_reducible intro _))); all_goals refine R.Lft.mk ?_)
          refine R.WO_stP (T := Item) (enc := cItem) (L := asF Kx) (z := ⟨((u : Nat) : Int), ((d : Nat) : Int) + 1⟩) rfl rfl rfl rfl R.ohm R.upds (by omega) (by decide) (by rw [hnx]; rfl) (fun w6 hM => ?_)
          rw [ei, hset] at hM
          have hFl2 : (asF (K ++ [(u, d + 1)])).length = k + 1 := by rw [asF_len, hl2]
          have hmz := hBm z hzn
          cases hbz : nth Bm z with
          | true =>
            have hbz2 : nth Bm (nth (hdsL g u) (nth (asF Kx) (((k + 1 : Nat) : Int) - 1).toNat).at_.toNat).toNat = true := by rw [hzt]; exact hbz
            have hst := hD.old hI hid (by rw [hz]; exact hmz.1 hbz)
            have hsl := hst.len
            rw [hIn, hIm, List.length_append] at hsl
            rw [← hl2] at hM
            (refine R.stepP ?_; (repeat' (first | (with_reducible refine And.intro ?_ ?_) | (with_reducible intro _))); all_goals refine R.Lft.mk ?_)
            · exact xb_t hbz2 (by assumption)
            · refine ⟨(some ⟨gS, 0, none⟩, cs, K ++ [(u, d + 1)], A, c, O, D ++ [(acG g).S u + d], Bm), ⟨rfl, rfl, rfl, rfl, R.viaS rfl hl2.symm, rfl, rfl, trivial⟩, ⟨hst, fun x hx => ?_, hBl, fun x hx => ?_, hM⟩, ?_⟩
              · have := hO x hx
                simpa using this
              · have := hBm x hx
                simpa using this
              · dsimp only at hsl ⊢
                rw [List.length_append, List.length_singleton] at *
                omega
          | false =>
            have hbz2 : nth Bm (nth (hdsL g u) (nth (asF Kx) (((k + 1 : Nat) : Int) - 1).toNat).at_.toNat).toNat = false := by rw [hzt]; exact hbz
            have hzno : z ∉ O ++ (K ++ [(u, d)]).map Prod.fst := fun q => by rw [hmz.2 q] at hbz; cases hbz
            have hcl : ∀ x ∈ K ++ [(u, d)], Rch (acG g).arc x.1 z := fun x hx => by
              rcases List.mem_append.1 hx with q | q
              · have := (List.pairwise_append.1 hD.ch).2.2 x q (u, d) (by simp)
                exact .tail this harcz
              · rw [List.mem_singleton.1 q]
                exact .one harcz
            have hpu := hD.push hI (w := z) (by rw [hIn]; exact hzn) hzno hcl
            have hst := Df.step (K2 := [(z, 0)]) (K1 := K) (by simpa using hpu) hI hid (by rw [hz]; simp)
            have hsl := hst.len
            rw [hIn, hIm, List.length_append] at hsl
            (refine R.stepP ?_; (repeat' (first | (with_reducible refine And.intro ?_ ?_) | (with_reducible intro _))); all_goals refine R.Lft.mk ?_)
            · rename_i A2 c2 _ hM
              have e3 : asF (K ++ [(u, d + 1)]) ++ [⟨((z : Nat) : Int), 0⟩] = asF (K ++ (u, d + 1) :: [(z, 0)]) := by simp [asF]
              have hl3 : (K ++ (u, d + 1) :: [(z, 0)]).length = k + 1 + 1 := by simp [← hk]
              rw [hzt, hw, e3, ← hl3] at hM
              refine ⟨(A2, c2, K ++ (u, d + 1) :: [(z, 0)], A, c, O, D ++ [(acG g).S u + d], Bm.set z true), ⟨rfl, rfl, rfl, rfl, R.viaS rfl hl3.symm, rfl, rfl, trivial⟩, ⟨hst, fun x hx => ?_, by dsimp only; rw [List.length_set]; exact hBl, fun x hx => ?_, hM⟩, ?_⟩
              · have := hO x hx
                simp only [List.map_append, List.mem_append, List.map_cons, List.map_nil, List.mem_cons, List.not_mem_nil, or_false] at this ⊢
                rcases this with q | q | q
                · exact .inl q
                · exact .inr (.inl q)
                · exact .inr (.inr (.inl q))
              · dsimp only
                rw [nth_putB (by omega)]
                have := hBm x hx
                simp only [List.map_append, List.mem_append, List.map_cons, List.map_nil, List.mem_cons, List.not_mem_nil, or_false] at this ⊢
                split
                · rename_i e; simp [e]
                · rename_i e
                  rw [this]
                  constructor
                  · rintro (q | q | q)
                    · exact .inl q
                    · exact .inr (.inl q)
                    · exact .inr (.inr (.inl q))
                  · rintro (q | q | q | q)
                    · exact .inl q
                    · exact .inr (.inl q)
                    · exact .inr (.inr q)
                    · exact absurd q.symm e
              · dsimp only at hsl ⊢
                rw [List.length_append, List.length_singleton] at *
                omega
            · exact xb_f hbz2 (by assumption)
  · obtain rfl : v = n := by omega
    (refine R.stepH ?_; (repeat' (first | (with_reducible refine And.intro ?_ ?_) | (with_reducible intro _))); all_goals refine R.Lft.mk ?_)
    exact ⟨A, O, c, D, rfl, hD, hO, R.Own.gives (R.Own.sub hM R.subl)⟩
end
end Go.Proofs.Ytegbidklcaccjaa
