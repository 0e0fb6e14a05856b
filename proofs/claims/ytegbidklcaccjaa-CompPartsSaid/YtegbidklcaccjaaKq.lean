/- An order in which each arc leads on: package comp. -/
import Derived.Test.YtegbidklcaccjaaKp
import Derived.Test.YtegbidklcaccjaaHf
import Derived.Test.YtegbidklcaccjaaGm
namespace Go.Proofs.Ytegbidklcaccjaa
open Go.RowKit
open R (In64 InU64 lo64 nth)
theorem nth_rep_z {n x : Nat} : nth (List.replicate n (0 : Int)) x = 0 := by
  unfold R.nth
  rw [List.getD_eq_getElem?_getD, List.getElem?_replicate]
  split <;> rfl
theorem flat_takeI (M : List Int) (i : Nat) : (M.flatMap R.cI).take (i * 1) = (M.take i).flatMap R.cI := R.flat_takeN R.encc_I.len M i
theorem flat_dropI (M : List Int) (i : Nat) : (M.flatMap R.cI).drop (i * 1) = (M.drop i).flatMap R.cI := R.flat_dropN R.encc_I.len M i
theorem ord_pick {F : List Nat} {W0 w : World} {l0 l1 l2 l3 : List R.Res} {h b n c3 clk : Nat} {A : Option Addr} {is : List Value} {es : Array MapEntry} (hM : R.Own F W0 w l0)
    (p1 : R.Pick l0 (.blk h 151 [.slice A n c3, .map (some b)]) l1 := by repeat (first | exact R.Pick.head | apply R.Pick.tail))
    (p2 : R.Pick l1 (.map b es clk) l2 := by repeat (first | exact R.Pick.head | apply R.Pick.tail))
    (p3 : R.Pick l2 (.row A n c3 72 2 is) l3 := by repeat (first | exact R.Pick.head | apply R.Pick.tail)) :
    R.Own F W0 w (.row A n c3 72 2 is :: .map b es clk :: .blk h 151 [.slice A n c3, .map (some b)] :: l3) := by
  have h1 := R.Own.perm hM p1.perm
  have h2 := R.Own.perm h1 (p2.perm.cons _)
  have h3 := R.Own.perm h2 ((p3.perm.cons _).cons _)
  exact R.Own.perm h3 (List.Perm.append_right l3 (List.reverse_perm [_, _, _]))
/-- What was taken from the heap. -/
def PopSt (I : Ac) (D S : List Nat) (N : List Int) (κ : Int → Option Int) (x : Item) (ok : Bool) : Prop := (ok = false ∧ Kn I D S N κ ∧ Gone I D S ∧ ∀ a, κ a = none) ∨ (ok = true ∧ ∃ v : Nat, x = ⟨(v : Nat), (v : Nat)⟩ ∧ v < I.n ∧ v ∉ S ∧ Kn I D (S ++ [v]) N κ ∧ GoneTo I D S v (I.S v))
theorem pop_kn {F : List Nat} {W0 w : World} {l : List R.Res} {h b nn Nq : Nat} {κ : Int → Option Int} {I : Ac} {D S : List Nat} {N : List Int} (hH : Hp F W0 w l h b nn Nq κ) (hK : Kn I D S N κ) (hI : I.Ok) (hg : Gone I D S) (hb : nn < 1000000) (hN : Nq < 1000000) :
    Calls Try.prog 74 #[.pointer (some ⟨h, 0, none⟩)] w fun e w' => ∃ x ok nn' κ', e = .returned (.tuple #[.agg (cItem x).toArray, .bool ok]) ∧ PopSt I D S N κ' x ok ∧ nn' ≤ nn ∧ Hp F W0 w' l h b nn' Nq κ' := by
  cases nn with
  | zero =>
    refine (pop_hp0 hH).mono ?_
    rintro _ w6 ⟨rfl, hH2⟩
    exact ⟨_, _, 0, κ, rfl, .inl ⟨rfl, hK, hg, hp_none hH2⟩, Nat.le_refl _, hH2⟩
  | succ nn =>
    refine (pop_hp hH (by omega) (by unfold maxLen; omega)).mono ?_
    rintro _ w6 ⟨⟨k0, xa⟩, hmn, rfl, hH2⟩
    obtain ⟨v, e1, e2, e3, e4, e5, e6⟩ := hK.pop (a := xa) (c := k0) hI hg hmn.1 fun b e hb hlt => by
      have := hmn.2 ⟨e, b⟩ hb
      unfold ltP at this
      dsimp only at this
      omega
    subst e1 e2
    exact ⟨_, _, nn, _, rfl, .inr ⟨rfl, v, rfl, e3, e4, e5, e6⟩, by omega, hH2⟩
def hdsL (g : Gph) (v : Nat) : List Int := (g.hd.L.take (nth g.st.L (v + 1)).toNat).drop (nth g.st.L v).toNat
def hdsA (g : Gph) (v : Nat) : Option Addr := R.cutA g.hd.A (nth g.st.L (v + 1)).toNat (nth g.st.L v).toNat 1
theorem hdsL_nth {g : Gph} {v j : Nat} (hj : j < (nth g.st.L (v + 1)).toNat - (nth g.st.L v).toNat) : nth (hdsL g v) j = nth g.hd.L ((nth g.st.L v).toNat + j) := by
  unfold hdsL
  show List.getD _ _ _ = List.getD _ _ _
  rw [List.getD_eq_getElem?_getD, List.getD_eq_getElem?_getD, List.getElem?_drop, List.getElem?_take, if_pos (by omega)]
section
variable (g : Gph) (w : World) (hG : GGph w g) (hm : MayG g)
include hG hm
theorem heads_any (v : Nat) (hv : v + 1 < g.st.n) : Calls Try.prog 77 #[.agg (cGph g).toArray, .int .i64 (v : Nat)] w fun e w' => e = .returned (.slice (hdsA g v) ((nth g.st.L (v + 1)).toNat - (nth g.st.L v).toNat) ((nth g.st.L (v + 1)).toNat - (nth g.st.L v).toNat)) ∧ Below w.heap.size w w' := by
  have hM := R.Own.start [] w
  have n2 := hm.n2
  have n3 := hm.n3
  have hlo := hm.lo (v := v) (by omega)
  have hup := hm.up v hv
  have hhi := hm.hi (v := v + 1) (by omega)
  have ek : ((v : Int) + 1).toNat = v + 1 := by omega
  obtain ⟨⟨hA, hal, hac, hag⟩, ⟨hB, hbl, hbc, hbg⟩, ⟨hC, hcl, hcc, hcg⟩⟩ := hG
  refine R.calls_of_WC (fn := Try.f77) Try.func77 rfl Try.ntmps77 (Nat.le_of_ble_eq_true rfl) ?_
  (refine R.stepH ?_; (repeat' (first | (with_reducible refine And.intro ?_ ?_) | (with_reducible intro _))); all_goals refine R.Lft.mk ?_)
  rename_i hM
  refine R.WO_slcM rfl rfl rfl rfl rfl hlo (by rw [ek]; exact hup) (Int.le_refl _) (by rw [ek]; omega) ?_
  (refine R.stepH ?_; (repeat' (first | (with_reducible refine And.intro ?_ ?_) | (with_reducible intro _))); all_goals refine R.Lft.mk ?_)
  rw [ek]
  exact ⟨rfl, R.Own.below R.ohm⟩
theorem heads_inp (v : Nat) (hv : v + 1 < g.st.n) : R.Inp [] w (hdsA g v) ((nth g.st.L (v + 1)).toNat - (nth g.st.L v).toNat) 1 ((hdsL g v).flatMap R.cI) := by
  have hup := hm.up v hv
  have hhi := hm.hi (v := v + 1) (by omega)
  have hB := hG.2.1.1
  have hI := (hB.take (nth g.st.L (v + 1)).toNat (by omega)).cutA (lo := (nth g.st.L v).toNat) (m := (nth g.st.L (v + 1)).toNat) (by omega) (Nat.le_refl _)
  have e : (List.take ((nth g.st.L (v + 1)).toNat * 1) (g.hd.L.flatMap R.cI)).drop ((nth g.st.L v).toNat * 1) = (hdsL g v).flatMap R.cI := by
    unfold hdsL
    rw [flat_takeI, flat_dropI]
  rw [e] at hI
  exact hI
set_option maxHeartbeats 4000000 in
theorem corder_any (h40 : g.st.n ≤ 40) (h300 : g.hd.n ≤ 300) : Calls Try.prog 44 #[.agg (cGph g).toArray] w fun e w' => ∃ S A c L ok, FullK (acG g) S ∧ OrdEnd (g.st.n - 1) S L ok ∧ e = .returned (.tuple #[.slice A L.length c, .bool ok, .int .i64 0]) ∧ R.Gives w w' A L.length c 3 1 (L.flatMap R.cI) := by
  have hM := R.Own.start [] w
  have hI := acG_ok hm
  have n1 := hm.n1
  obtain ⟨n, hn⟩ : ∃ n, g.st.n - 1 = n := ⟨_, rfl⟩
  have hgn : (g.st.n : Int) - 1 = (n : Nat) := by omega
  have hIn : (acG g).n = n := hn
  rw [hn]
  have ek : ((g.st.n : Int) - 1).toNat = n := by omega
  have hG0 := hG
  obtain ⟨⟨hA, hal, hac, hag⟩, ⟨hB, hbl, hbc, hbg⟩, ⟨hC, hcl, hcc, hcg⟩⟩ := hG
  refine R.calls_of_WC (fn := Try.f44) Try.func44 rfl Try.ntmps44 (Nat.le_of_ble_eq_true rfl) ?_
  (refine R.stepH ?_; (repeat' (first | (with_reducible refine And.intro ?_ ?_) | (with_reducible intro _))); all_goals refine R.Lft.mk ?_)
  refine R.WO_call1 rfl rfl R.vv ?_
  refine (amay_any g _ (GGph.now R.ohm hG0)).mono ?_
  rintro _ w3 ⟨rfl, hb3⟩
  have hM := R.Own.call R.ohm hb3
  refine ⟨_, rfl, ?_⟩
  rw [mayG_t hm]
  (refine R.stepH ?_; (repeat' (first | (with_reducible refine And.intro ?_ ?_) | (with_reducible intro _))); all_goals refine R.Lft.mk ?_)
  rename_i gb _ _ B w1 hM
  rw [ek] at hM ⊢
  try rw [hgn]
  refine R.WC_loop (fun i : Nat × List Int => [(1, .pointer (some ⟨gb, 0, none⟩)), (2, .slice none 0 0), (3, .bool false), (4, .int .i64 0), (5, .int .i64 (n : Nat)), (6, .slice B n n), (27, .slice g.hd.A g.hd.n g.hd.c), (28, .int .i64 (g.hd.n : Nat)), (29, .int .i64 (i.1 : Nat))])
    (fun i w2 => i.1 ≤ g.hd.n ∧ i.2.length = n ∧ (∀ v, v < n → nth i.2 v = (cnt (acG g) i.1 [] v : Nat)) ∧ R.Own [] w w2 [.row B n n 3 1 (i.2.flatMap R.cI), .blk gb 24 (cGph g)]) (fun i => g.hd.n - i.1)
    ⟨(0, List.replicate n 0), ⟨rfl, rfl, rfl, rfl, rfl, rfl, rfl, rfl, rfl, trivial⟩, Nat.zero_le _, by simp, fun v hv => by dsimp only; rw [nth_rep_z]; rfl, hM⟩ ?_
  clear hM
  rintro ⟨k, N⟩ f w2 ⟨hk, hNl, hN, hM⟩
  dsimp only at hk hNl hN hM ⊢
  by_cases hlt : k < g.hd.n
  · have hHk := hI.hd k hlt
    obtain ⟨u, hu⟩ : ∃ u, (acG g).H k = u := ⟨_, rfl⟩
    have hH : nth g.hd.L k = ((u : Nat) : Int) := by
      obtain ⟨v, hv, q1, q2⟩ := hI.tail (i := k) hlt
      have hv : v < g.st.n - 1 := hv
      have q1 : (nth g.st.L v).toNat ≤ k := q1
      have q2 : k < (nth g.st.L (v + 1)).toNat := q2
      have a := (hm.arc v k (by omega) (by omega) (by omega)).1
      have hu : (nth g.hd.L k).toNat = u := hu
      omega
    rw [hu, hIn] at hHk
    have hNu := hN u hHk
    have hcl := cnt_le (I := acG g) (k := k) (D := []) (w := u)
    have eu : (nth g.hd.L k).toNat = u := by omega
    have hNu2 : nth N (nth g.hd.L k).toNat = (cnt (acG g) k [] u : Nat) := by rw [eu]; exact hNu
    obtain ⟨gB, curB, rfl, _⟩ := row_form (R.Own.ok hM _ (.head _)) (by omega)
    (refine R.stepH ?_; (repeat' (first | (with_reducible refine And.intro ?_ ?_) | (with_reducible intro _))); all_goals refine R.Lft.mk ?_)
    rename_i hM
    rw [eu] at hM
    refine ⟨(k + 1, N.set u (nth N u + 1)), ⟨rfl, rfl, rfl, rfl, rfl, rfl, rfl, rfl, R.viaI rfl (by dsimp only; omega), trivial⟩, ⟨by dsimp only; omega, by dsimp only; rw [List.length_set]; exact hNl, fun v hv => ?_, hM⟩, by dsimp only; omega⟩
    dsimp only
    have hcs := cnt_succ (I := acG g) (k := k) (D := []) (w := v) (by simp)
    rw [hu] at hcs
    rw [nth_put (by omega), hcs]
    split
    · rename_i e
      subst e
      rw [hNu]
      omega
    · rw [hN v hv]
      omega
  obtain rfl : k = g.hd.n := by omega
  clear hlt hk
  (refine R.stepH ?_; (repeat' (first | (with_reducible refine And.intro ?_ ?_) | (with_reducible intro _))); all_goals refine R.Lft.mk ?_)
  refine R.WO_call0 rfl rfl  ?_
  refine (new_hp R.ohm).mono ?_
  rintro _ w4 ⟨h, b, rfl, hH⟩
  obtain ⟨A, c3, L, es, clk, m, h1, h2, h3, h4, hM⟩ := hH
  refine ⟨_, rfl, ?_⟩
  (refine R.stepH ?_; (repeat' (first | (with_reducible refine And.intro ?_ ?_) | (with_reducible intro _))); all_goals refine R.Lft.mk ?_)
  refine R.WC_loop (fun i : Nat × Nat × Nat × (Int → Option Int) => [(1, .pointer (some ⟨gb, 0, none⟩)), (2, .slice none 0 0), (3, .bool false), (4, .int .i64 0), (5, .int .i64 (n : Nat)), (6, .slice B n n), (9, .pointer (some ⟨h, 0, none⟩)), (41, .slice B n n), (42, .int .i64 (n : Nat)), (43, .int .i64 (i.1 : Nat))])
    (fun i w2 => i.1 ≤ n ∧ i.2.1 ≤ i.1 ∧ i.2.2.1 ≤ i.1 ∧ (∀ a c, i.2.2.2 a = some c ↔ ∃ v : Nat, v < i.1 ∧ a = (v : Nat) ∧ c = (v : Nat) ∧ cnt (acG g) g.hd.n [] v = 0) ∧ Hp [] w w2 [.row B n n 3 1 (N.flatMap R.cI), .blk gb 24 (cGph g)] h b i.2.1 i.2.2.1 i.2.2.2) (fun i => n - i.1)
    ⟨(0, 0, 0, fun _ => none), ⟨rfl, rfl, rfl, rfl, rfl, rfl, rfl, rfl, rfl, rfl, trivial⟩, Nat.zero_le _, Nat.le_refl _, Nat.le_refl _, fun a c => ⟨fun q => (by cases q), fun ⟨v, q, _⟩ => absurd q (Nat.not_lt_zero _)⟩, ⟨A, c3, L, es, clk, m, h1, h2, h3, h4, hM⟩⟩ ?_
  clear hM h1 h2 h3 h4 A c3 L es clk m
  rintro ⟨k, nn, Nq, κ⟩ f w5 ⟨hk, hnn, hNq, hκ, hH⟩
  dsimp only at hk hnn hNq hκ hH ⊢
  obtain ⟨A, c3, L, es, clk, m, h1, h2, h3, h4, hM⟩ := hH
  by_cases hlt : k < n
  · have hNk := hN k hlt
    (refine R.stepH ?_; (repeat' (first | (with_reducible refine And.intro ?_ ?_) | (with_reducible intro _))); all_goals refine R.Lft.mk ?_)
    · rename_i hz
      refine R.WO_call2 rfl rfl R.vv R.vv ?_
      refine (set_hp (x := ⟨((k : Nat) : Int), ((k : Nat) : Int)⟩) ⟨A, c3, L, es, clk, m, h1, h2, h3, h4, hM⟩ ⟨by show In64 ((k : Nat) : Int); unfold In64; omega, by show In64 ((k : Nat) : Int); unfold In64; omega⟩ (by omega) (by unfold maxLen; omega)).mono ?_
      rintro _ w6 ⟨rfl, hH⟩
      have hkn : κ ((k : Nat) : Int) = none := by
        cases q : κ ((k : Nat) : Int) with
        | none => rfl
        | some c =>
          obtain ⟨v, q1, q2, _⟩ := (hκ _ _).1 q
          omega
      dsimp only at hH
      rw [if_pos hkn] at hH
      obtain ⟨A, c3, L, es, clk, m, h1, h2, h3, h4, hM⟩ := hH
      refine ⟨_, rfl, ?_⟩
      (refine R.stepH ?_; (repeat' (first | (with_reducible refine And.intro ?_ ?_) | (with_reducible intro _))); all_goals refine R.Lft.mk ?_)
      refine ⟨(k + 1, nn + 1, Nq + 1, R.putM κ (k : Nat) (k : Nat)), ⟨rfl, rfl, rfl, rfl, rfl, rfl, rfl, rfl, rfl, R.viaI rfl (by dsimp only; omega), trivial⟩, ⟨by dsimp only; omega, by dsimp only; omega, by dsimp only; omega, fun a c => ?_, ⟨A, c3, L, es, clk, m, h1, h2, h3, h4, hM⟩⟩, by dsimp only; omega⟩
      dsimp only
      by_cases ha : a = (k : Nat)
      · rw [ha, R.putM_same]
        constructor
        · intro q
          injection q with q
          exact ⟨k, by omega, rfl, q.symm, by omega⟩
        · rintro ⟨v, q1, q2, q3, q4⟩
          rw [q3, q2]
      · rw [R.putM_ne ha, hκ]
        constructor
        · rintro ⟨v, q1, q2, q3, q4⟩
          exact ⟨v, by omega, q2, q3, q4⟩
        · rintro ⟨v, q1, q2, q3, q4⟩
          exact ⟨v, by omega, q2, q3, q4⟩
    · rename_i hz
      refine ⟨(k + 1, nn, Nq, κ), ⟨rfl, rfl, rfl, rfl, rfl, rfl, rfl, rfl, rfl, R.viaI rfl (by dsimp only; omega), trivial⟩, ⟨by dsimp only; omega, by dsimp only; omega, by dsimp only; omega, fun a c => ?_, ⟨A, c3, L, es, clk, m, h1, h2, h3, h4, hM⟩⟩, by dsimp only; omega⟩
      dsimp only
      rw [hκ]
      constructor
      · rintro ⟨v, q1, q2, q3, q4⟩
        exact ⟨v, by omega, q2, q3, q4⟩
      · rintro ⟨v, q1, q2, q3, q4⟩
        refine ⟨v, ?_, q2, q3, q4⟩
        rcases Nat.lt_or_ge v k with d | d
        · exact d
        · have : v = k := by omega
          subst this
          omega
  obtain rfl : k = n := by omega
  have hK : Kn (acG g) [] [] N κ := ⟨.nil, by rw [hIn]; exact hNl, fun v hv => hN v (by rw [← hIn]; exact hv), fun a c => by
    rw [hκ, hIn]
    constructor
    · rintro ⟨v, q1, q2, q3, q4⟩
      exact ⟨v, q1, q2, q3, by simp, q4⟩
    · rintro ⟨v, q1, q2, q3, _, q4⟩
      exact ⟨v, q1, q2, q3, q4⟩, fun u hu => (by cases hu)⟩
  have hgo : Gone (acG g) [] [] := fun i hi => ⟨fun q => (by cases q), fun ⟨u, q, _⟩ => (by cases q)⟩
  clear hκ hN hNl hlt
  (refine R.stepH ?_; (repeat' (first | (with_reducible refine And.intro ?_ ?_) | (with_reducible intro _))); all_goals refine R.Lft.mk ?_)
  refine R.WO_call1 rfl rfl R.vv ?_
  refine (pop_kn ⟨A, c3, L, es, clk, m, h1, h2, h3, h4, R.ohm⟩ hK hI hgo (by omega) (by omega)).mono ?_
  rintro _ w6 ⟨x, ok, nn', κ', rfl, hPS, hnn', hH⟩
  clear hM h1 h2 h3 h4 A c3 L es clk m
  obtain ⟨A, c3, L, es, clk, m, h1, h2, h3, h4, hM⟩ := hH
  refine ⟨_, rfl, ?_⟩
  (refine R.stepH ?_; (repeat' (first | (with_reducible refine And.intro ?_ ?_) | (with_reducible intro _))); all_goals refine R.Lft.mk ?_)
  rename_i gx _ _ _ hM
  have hM := R.Own.nil hM 3 1
  refine R.WC_loop (fun i : Nat × Option Addr × Nat × List Nat × List Nat × List Int × (Int → Option Int) × Nat × Nat × Item × Bool => [(1, .pointer (some ⟨gb, 0, none⟩)), (2, .slice none 0 0), (3, .bool false), (4, .int .i64 0), (5, .int .i64 (k : Nat)), (6, .slice B k k), (9, .pointer (some ⟨h, 0, none⟩)), (12, .slice i.2.1 i.2.2.2.1.length i.2.2.1), (13, .pointer (some ⟨i.1, 0, none⟩)), (14, .bool i.2.2.2.2.2.2.2.2.2.2)])
    (fun i w2 => PopSt (acG g) i.2.2.2.2.1 i.2.2.2.1 i.2.2.2.2.2.1 i.2.2.2.2.2.2.1 i.2.2.2.2.2.2.2.2.2.1 i.2.2.2.2.2.2.2.2.2.2 ∧ i.2.2.2.2.2.2.2.1 ≤ 40 + 300 * i.2.2.2.1.length ∧ i.2.2.2.2.2.2.2.2.1 ≤ 40 + 300 * i.2.2.2.1.length ∧
      Hp [] w w2 [.row i.2.1 i.2.2.2.1.length i.2.2.1 3 1 ((asI i.2.2.2.1).flatMap R.cI), .blk i.1 72 (cItem i.2.2.2.2.2.2.2.2.2.1), .row B k k 3 1 (i.2.2.2.2.2.1.flatMap R.cI), .blk gb 24 (cGph g)] h b i.2.2.2.2.2.2.2.1 i.2.2.2.2.2.2.2.2.1 i.2.2.2.2.2.2.1) (fun i => k - i.2.2.2.1.length)
    ⟨(gx, none, 0, [], [], N, κ', nn', Nq, x, ok), ⟨rfl, rfl, rfl, rfl, rfl, rfl, rfl, rfl, rfl, rfl, trivial⟩, hPS, by dsimp only; omega, by dsimp only; omega, ⟨A, c3, L, es, clk, m, h1, h2, h3, h4, ord_pick hM⟩⟩ ?_
  clear hM hPS hK hgo hnn' hnn hNq
  rintro ⟨gx, Ao, co, S, D, N, κ, nn, Nq, x, ok⟩ f w7 ⟨hPS, hnn, hNq, hH⟩
  dsimp only at hPS hnn hNq hH ⊢
  obtain ⟨A, c3, L, es, clk, m, h1, h2, h3, h4, hM⟩ := hH
  rcases hPS with ⟨rfl, hK, hgo, hno⟩ | ⟨rfl, v, rfl, hv, hvS, hK, hgo⟩
  · have hF := hK.full hI hgo hno
    have hSl := hK.pre.nodup
    have hSn := nodup_le hSl.1 hSl.2
    rw [hIn] at hSn
    (refine R.stepH ?_; (repeat' (first | (with_reducible refine And.intro ?_ ?_) | (with_reducible intro _))); all_goals refine R.Lft.mk ?_)
    · rename_i hq
      exact ⟨S, none, 0, [], false, hF, .inl ⟨by omega, rfl, rfl⟩, rfl, (R.Own.nil (R.Own.nul R.ohm) _ _).gives⟩
    · rename_i hq
      exact ⟨S, Ao, co, asI S, true, hF, .inr ⟨by omega, rfl, rfl⟩, by rw [asI_len], by rw [asI_len]; exact R.Own.gives (R.Own.sub hM R.subl)⟩
  · have hvn : v < k := by rw [← hIn]; exact hv
    have hSl := hK.pre.nodup
    have hSn := nodup_le hSl.1 hSl.2
    rw [hIn, List.length_append, List.length_singleton] at hSn
    have hlo := hm.lo (v := v) (by omega)
    have hup := hm.up v (by omega)
    have hhi := hm.hi (v := v + 1) (by omega)
    have hSv : (acG g).S v = (nth g.st.L v).toNat := rfl
    have hSv1 : (acG g).S (v + 1) = (nth g.st.L (v + 1)).toNat := rfl
    have hM := R.pk (r := .row Ao _ co _ _ _) hM
    rw [show cItem ⟨((v : Nat) : Int), ((v : Nat) : Int)⟩ = [.int .i64 ((v : Nat) : Int), .int .i64 ((v : Nat) : Int)] from rfl] at hM
    (refine R.stepH ?_; (repeat' (first | (with_reducible refine And.intro ?_ ?_) | (with_reducible intro _))); all_goals refine R.Lft.mk ?_)
    rename_i Ao2 co2 _ hM
    have e2 : asI S ++ [((v : Nat) : Int)] = asI (S ++ [v]) := by simp [asI]
    have hlen : (S ++ [v]).length = S.length + 1 := by simp
    rw [e2, ← hlen] at hM
    refine R.WO_call2 rfl rfl R.vv R.vv ?_
    refine (heads_any g _ (GGph.now hM hG0) hm v (by omega)).mono ?_
    rintro _ w8 ⟨rfl, hb8⟩
    have hAh := heads_inp g w hG0 hm v (by omega)
    have hnh := fun j hj => hdsL_nth (g := g) (v := v) (j := j) hj
    obtain ⟨dg, hdg⟩ : ∃ dg, (nth g.st.L (v + 1)).toNat - (nth g.st.L v).toNat = dg := ⟨_, rfl⟩
    obtain ⟨s, hs⟩ : ∃ s, (nth g.st.L v).toNat = s := ⟨_, rfl⟩
    rw [hdg] at hAh hnh ⊢
    rw [hs] at hnh
    have hdl : dg = (hdsL g v).length := by have := hAh.1; rw [R.flat_len R.encc_I.len] at this; omega
    have hM := R.Own.call hM hb8
    refine ⟨_, rfl, ?_⟩
    (refine R.stepH ?_; (repeat' (first | (with_reducible refine And.intro ?_ ?_) | (with_reducible intro _))); all_goals refine R.Lft.mk ?_)
    refine R.WC_loop (fun i : Nat × List Nat × List Int × (Int → Option Int) × Nat × Nat => [(1, .pointer (some ⟨gb, 0, none⟩)), (2, .slice none 0 0), (3, .bool false), (4, .int .i64 0), (5, .int .i64 (k : Nat)), (6, .slice B k k), (9, .pointer (some ⟨h, 0, none⟩)), (12, .slice Ao2 (S ++ [v]).length co2), (13, .pointer (some ⟨gx, 0, none⟩)), (14, .bool true), (75, .slice (hdsA g v) dg dg), (76, .int .i64 (dg : Nat)), (77, .int .i64 (i.1 : Nat))])
      (fun i w2 => i.1 ≤ dg ∧ Kn (acG g) i.2.1 (S ++ [v]) i.2.2.1 i.2.2.2.1 ∧ GoneTo (acG g) i.2.1 S v (s + i.1) ∧ i.2.2.2.2.1 ≤ 40 + 300 * S.length + i.1 ∧ i.2.2.2.2.2 ≤ 40 + 300 * S.length + i.1 ∧
        Hp [] w w2 [.row Ao2 (S ++ [v]).length co2 3 1 ((asI (S ++ [v])).flatMap R.cI), .blk gx 72 [.int .i64 ((v : Nat) : Int), .int .i64 ((v : Nat) : Int)], .row B k k 3 1 (i.2.2.1.flatMap R.cI), .blk gb 24 (cGph g)] h b i.2.2.2.2.1 i.2.2.2.2.2 i.2.2.2.1) (fun i => dg - i.1)
      ⟨(0, D, N, κ, nn, Nq), ⟨rfl, rfl, rfl, rfl, rfl, rfl, rfl, R.viaS rfl (by rw [hlen]), rfl, rfl, rfl, rfl, rfl, trivial⟩, Nat.zero_le _, hK, by dsimp only; rw [Nat.add_zero, ← hs]; exact hgo, by dsimp only; omega, by dsimp only; omega, ⟨A, c3, L, es, clk, m, h1, h2, h3, h4, ord_pick R.ohm⟩⟩ ?_
    clear hM hK hgo hnn hNq
    rintro ⟨j, D, N, κ, nn, Nq⟩ f w9 ⟨hj, hK, hgo, hnn, hNq, hH⟩
    dsimp only at hj hK hgo hnn hNq hH ⊢
    obtain ⟨A, c3, L, es, clk, m, h1, h2, h3, h4, hM⟩ := hH
    by_cases hlt : j < dg
    · obtain ⟨t1, t2, t3, t4, t5⟩ := hK.take (j := s + j) hI hv hvS hgo ⟨by omega, by omega⟩
      obtain ⟨u, hu⟩ : ∃ u, (acG g).H (s + j) = u := ⟨_, rfl⟩
      rw [hu] at t2 t3 t4 t5
      rw [hIn] at t4
      have ha := (hm.arc v (s + j) (by omega) (by omega) (by omega)).1
      have hH0 : nth (hdsL g v) j = ((u : Nat) : Int) := by
        have hu : (nth g.hd.L (s + j)).toNat = u := hu
        rw [hnh j hlt]
        omega
      have hmm : (acG g).m = g.hd.n := rfl
      obtain ⟨gB, curB, rfl, _⟩ := row_form (R.Own.ok hM _ (.tail _ (.tail _ (.tail _ (.tail _ (.tail _ (.head _))))))) (by omega)
      have eu : (nth (hdsL g v) j).toNat = u := by omega
      have hNu2 : nth N (nth (hdsL g v) j).toNat = nth N u := by rw [eu]
      have hNl := hK.len
      rw [hIn] at hNl
      have hset : nth (N.set u (nth N u - 1)) u = nth N u - 1 := by rw [nth_put (by omega), if_pos rfl]
      (refine R.stepH ?_; (repeat' (first | (with_reducible refine And.intro ?_ ?_) | (with_reducible intro _))); all_goals refine R.Lft.mk ?_)
      · rename_i w10 hM hz
        rw [eu] at hM hz
        rw [hset] at hz
        rw [if_pos hz] at t5
        refine R.WO_call2 rfl rfl R.vv R.vv ?_
        rw [hH0]
        refine (set_hp (x := ⟨((u : Nat) : Int), ((u : Nat) : Int)⟩) ⟨A, c3, L, es, clk, m, h1, h2, h3, h4, hM⟩ ⟨by show In64 ((u : Nat) : Int); unfold In64; omega, by show In64 ((u : Nat) : Int); unfold In64; omega⟩ (by omega) (by unfold maxLen; omega)).mono ?_
        rintro _ w11 ⟨rfl, hH⟩
        obtain ⟨nn', hnn', hH⟩ : ∃ nn', nn' ≤ nn + 1 ∧ Hp [] w w11 [.row Ao2 (S ++ [v]).length co2 3 1 ((asI (S ++ [v])).flatMap R.cI), .blk gx 72 [.int .i64 ((v : Nat) : Int), .int .i64 ((v : Nat) : Int)], .row (some ⟨gB, 0, none⟩) k k 3 1 ((N.set u (nth N u - 1)).flatMap R.cI), .blk gb 24 (cGph g)] h b nn' (Nq + 1) (R.putM κ (u : Nat) (u : Nat)) := by
          refine ⟨_, ?_, hH⟩
          split <;> omega
        obtain ⟨A, c3, L, es, clk, m, h1, h2, h3, h4, hM⟩ := hH
        refine ⟨_, rfl, ?_⟩
        (refine R.stepH ?_; (repeat' (first | (with_reducible refine And.intro ?_ ?_) | (with_reducible intro _))); all_goals refine R.Lft.mk ?_)
        exact ⟨(j + 1, D ++ [s + j], N.set u (nth N u - 1), R.putM κ (u : Nat) (u : Nat), nn', Nq + 1), ⟨rfl, rfl, rfl, rfl, rfl, rfl, rfl, rfl, rfl, rfl, rfl, rfl, R.viaI rfl (by dsimp only; omega), trivial⟩, ⟨by dsimp only; omega, t5, t1, by dsimp only; omega, by dsimp only; omega, ⟨A, c3, L, es, clk, m, h1, h2, h3, h4, hM⟩⟩, by dsimp only; omega⟩
      · rename_i w10 hM hz
        rw [eu] at hM hz
        rw [hset] at hz
        rw [if_neg hz] at t5
        exact ⟨(j + 1, D ++ [s + j], N.set u (nth N u - 1), κ, nn, Nq), ⟨rfl, rfl, rfl, rfl, rfl, rfl, rfl, rfl, rfl, rfl, rfl, rfl, R.viaI rfl (by dsimp only; omega), trivial⟩, ⟨by dsimp only; omega, t5, t1, by dsimp only; omega, by dsimp only; omega, ⟨A, c3, L, es, clk, m, h1, h2, h3, h4, hM⟩⟩, by dsimp only; omega⟩
    · obtain rfl : j = dg := by omega
      have hgo2 : Gone (acG g) D (S ++ [v]) := GoneTo.done (by rw [show (acG g).S (v + 1) = s + j by omega]; exact hgo)
      (refine R.stepH ?_; (repeat' (first | (with_reducible refine And.intro ?_ ?_) | (with_reducible intro _))); all_goals refine R.Lft.mk ?_)
      refine R.WO_call1 rfl rfl R.vv ?_
      refine (pop_kn ⟨A, c3, L, es, clk, m, h1, h2, h3, h4, ord_pick R.ohm⟩ hK hI hgo2 (by omega) (by omega)).mono ?_
      rintro _ w10 ⟨x', ok', nn', κ', rfl, hPS, hnn', hH⟩
      clear hM h1 h2 h3 h4
      obtain ⟨A, c3, L, es, clk, m, h1, h2, h3, h4, hM⟩ := hH
      refine ⟨_, rfl, ?_⟩
      (refine R.stepH ?_; (repeat' (first | (with_reducible refine And.intro ?_ ?_) | (with_reducible intro _))); all_goals refine R.Lft.mk ?_)
      rename_i gy _ _ _ _ _ hM
      have hM := R.dr (.blk gx _ _) (R.pk (r := .row Ao2 _ co2 _ _ _) hM)
      exact ⟨(gy, Ao2, co2, S ++ [v], D, N, κ', nn', Nq, x', ok'), ⟨rfl, rfl, rfl, rfl, rfl, rfl, rfl, rfl, rfl, rfl, trivial⟩, ⟨hPS, by dsimp only; rw [hlen]; omega, by dsimp only; rw [hlen]; omega, ⟨A, c3, L, es, clk, m, h1, h2, h3, h4, ord_pick hM⟩⟩, by dsimp only; rw [hlen]; omega⟩
end
end Go.Proofs.Ytegbidklcaccjaa
