/- The document's least costs. -/
import Derived.Test.YtegbidklcaccjaaDr
namespace Go.Proofs.Ytegbidklcaccjaa
open Go.RowKit
open R (In64 InU64 lo64 nth)
instance con_shutI (c : R.Sl Bool) (v : Int) : R.ConP Try.prog 67 #[.slice c.A c.n c.c, .int .i64 v] Unit (fun _ w => R.Inp [] w c.A c.n 1 (c.L.flatMap R.cB) ∧ c.n ≤ 9223372036854775807 ∧ c.n = c.L.length ∧ 0 ≤ v ∧ (c.n = 0 ∨ v < c.n)) (fun _ => .bool (shutV c v.toNat)) := ⟨fun _ w hp => by
  obtain ⟨h1, h2, h3, h5, h4⟩ := hp
  have h1 := R.Own.rdIn (R.Own.start [] w) h1
  refine R.calls_of_WC (fn := Try.f67) Try.func67 rfl Try.ntmps67 (Nat.le_of_ble_eq_true rfl) ?_
  by_cases h0 : 0 < c.n
  · have h4 : v < c.n := by omega
    (refine R.stepH ?_; (repeat' (first | (with_reducible refine And.intro ?_ ?_) | (with_reducible intro _))); all_goals refine R.Lft.mk ?_)
    exact ⟨by simp [shutV, h0], rfl⟩
  · (refine R.stepH ?_; (repeat' (first | (with_reducible refine And.intro ?_ ?_) | (with_reducible intro _))); all_goals refine R.Lft.mk ?_)
    exact ⟨by simp [shutV, h0], rfl⟩⟩
section
variable (g : Gph) (s : R.Sl Item) (c : R.Sl Bool) (w : World) (hG : GGph w g) (hs : R.GSl cItem 2 GItem w s) (hc : R.GSl R.cB 1 GB w c) (hm : MayS g s c) (h40 : g.st.n ≤ 41) (h300 : g.hd.n ≤ 300)
include hG hs hc hm h40 h300
set_option maxHeartbeats 8000000 in
theorem rall_any {D P : List Int} {S : List Nat} (hL : Least (insG g s c) D P S) : Calls Try.prog 34 #[.agg (cGph g).toArray, .slice s.A s.n s.c, .slice c.A c.n c.c] w fun e w' => ∃ A1 c1, e = .returned (.slice A1 D.length c1) ∧ R.Gives w w' A1 D.length c1 3 1 (D.flatMap R.cI) := by
  have hM := R.Own.start [] w
  have hI := insG_ok hm
  obtain ⟨hg, hs1000, hcn, hsk⟩ := hm
  have n1 := hg.n1
  have n4 := hg.n4
  obtain ⟨⟨hA, hal, hac, hag⟩, ⟨hB, hbl, hbc, hbg⟩, ⟨hC, hcl, hcc, hcg⟩⟩ := hG
  obtain ⟨hsI, hsl, hsc, hsg⟩ := hs
  obtain ⟨hcI, hcl2, hcc2, hcg2⟩ := hc
  obtain ⟨n, hn⟩ : ∃ n, g.st.n - 1 = n := ⟨_, rfl⟩
  have hIn : (insG g s c).n = n := hn
  have hgn : (g.st.n : Int) - 1 = (n : Nat) := by omega
  have hDn : D.length = n := by rw [hL.dl, hIn]
  rw [hDn]
  refine R.calls_of_WC (fn := Try.f34) Try.func34 rfl Try.ntmps34 (Nat.le_of_ble_eq_true rfl) ?_
  (refine R.stepH ?_; (repeat' (first | (with_reducible refine And.intro ?_ ?_) | (with_reducible intro _))); all_goals refine R.Lft.mk ?_)
  rename_i gb _ _ _ _ A1 _ hM
  have hgt : ((g.st.n : Int) - 1).toNat = n := by omega
  rw [hgt] at hM ⊢
  rw [hgn]
  refine R.WC_loop (fun i : Nat × List Int => [(1, .slice s.A s.n s.c), (2, .slice c.A c.n c.c), (3, .pointer (some ⟨gb, 0, none⟩)), (6, .slice none 0 0), (7, .int .i64 (n : Nat)), (8, .slice A1 n n), (9, .int .i64 (i.1 : Nat))])
    (fun i w1 => i.1 ≤ n ∧ i.2.length = n ∧ (∀ v, v < i.1 → nth i.2 v = 4611686018427387904) ∧ R.Own [] w w1 [.row A1 n n 3 1 (i.2.flatMap R.cI), .blk gb 24 (cGph g)]) (fun i => n - i.1)
    ⟨(0, List.replicate n 0), ⟨rfl, rfl, rfl, rfl, rfl, rfl, rfl, trivial⟩, Nat.zero_le _, by simp, fun v hv => absurd hv (Nat.not_lt_zero _), hM⟩ ?_
  clear hM
  rintro ⟨k, B⟩ f w3 ⟨hk, hBl, hall, hM⟩
  dsimp only at hk hBl hall hM ⊢
  by_cases hlt : k < n
  · (refine R.stepH ?_; (repeat' (first | (with_reducible refine And.intro ?_ ?_) | (with_reducible intro _))); all_goals refine R.Lft.mk ?_)
    refine ⟨(k + 1, B.set k 4611686018427387904), ⟨rfl, rfl, rfl, rfl, rfl, rfl, R.viaI rfl (by dsimp only; omega), trivial⟩, ⟨by dsimp only; omega, by dsimp only; rw [List.length_set]; exact hBl, fun v hv => ?_, R.ohm⟩, by dsimp only; omega⟩
    dsimp only at hv ⊢
    rw [nth_put (by omega)]
    split
    · rfl
    · exact hall v (by omega)
  obtain rfl : k = n := by omega
  have hBs : Bs (insG g s c) D B 0 := ⟨by rw [hBl, hIn], fun v hv => .inl (hall v (by rw [hIn] at hv; exact hv)), fun v hv => by
    have := hL.bd v hv
    have h4 := hI.n1
    rw [hall v (by rw [hIn] at hv; exact hv)]
    omega, fun q hq => by simp at hq⟩
  clear hall hlt hk hBl
  (refine R.stepH ?_; (repeat' (first | (with_reducible refine And.intro ?_ ?_) | (with_reducible intro _))); all_goals refine R.Lft.mk ?_)
  refine R.WC_loop (fun i : Nat × List Int => [(1, .slice s.A s.n s.c), (2, .slice c.A c.n c.c), (3, .pointer (some ⟨gb, 0, none⟩)), (6, .slice none 0 0), (7, .int .i64 (k : Nat)), (8, .slice A1 k k), (10, .int .i64 (i.1 : Nat))])
    (fun i w1 => i.1 ≤ s.n ∧ Bs (insG g s c) D i.2 i.1 ∧ R.Own [] w w1 [.row A1 k k 3 1 (i.2.flatMap R.cI), .blk gb 24 (cGph g)]) (fun i => s.n - i.1)
    ⟨(0, B), ⟨rfl, rfl, rfl, rfl, rfl, rfl, rfl, trivial⟩, Nat.zero_le _, hBs, R.ohm⟩ ?_
  clear hM hBs B
  rintro ⟨q, B⟩ f w4 ⟨hq, hBs, hM⟩
  dsimp only at hq hBs hM ⊢
  have hBl : B.length = k := by rw [hBs.bl, hIn]
  by_cases hlt : q < s.n
  · have hx := hsk _ (R.nth_mem (L := s.L) (i := q) (by omega))
    have hst := hBs.step hL hI (s := ((nth s.L q).at_.toNat, (nth s.L q).key)) (by
      show (s.L.map _)[q]? = _
      rw [List.getElem?_map, R.nth_some (by omega)]
      rfl)
    have hop : (insG g s c).op (nth s.L q).at_.toNat = !shutV c (nth s.L q).at_.toNat := rfl
    unfold rlx at hst
    rw [hop] at hst
    dsimp only at hst
    have hcv : c.n = 0 ∨ (nth s.L q).at_ < c.n := by
      rcases Nat.eq_zero_or_pos c.n with e | e
      · exact .inl e
      · have := hcn e
        omega
    (refine R.stepH ?_; (repeat' (first | (with_reducible refine And.intro ?_ ?_) | (with_reducible intro _))); all_goals refine R.Lft.mk ?_)
    refine R.WC_planO [(0, false), (1, false), (2, false), (3, true), (4, false), (5, false), (6, false), (7, false), (8, false), (9, false), (10, false), (11, false), (12, false), (13, false), (14, false)] R.mixed (by decide +kernel) R.ohm ?_
    (refine R.stepH ?_; (repeat' (first | (with_reducible refine And.intro ?_ ?_) | (with_reducible intro _))); all_goals refine R.Lft.mk ?_)
    · rename_i a1 a2 _ hM
      rw [if_pos ⟨a1, a2⟩] at hst
      exact ⟨(q + 1, _), ⟨rfl, rfl, rfl, rfl, rfl, rfl, R.viaI rfl (by dsimp only; omega), trivial⟩, ⟨by dsimp only; omega, hst, R.Own.tl hM⟩, by dsimp only; omega⟩
    · rename_i a1 a2
      rw [if_neg fun h => a2 h.2] at hst
      exact ⟨(q + 1, _), ⟨rfl, rfl, rfl, rfl, rfl, rfl, R.viaI rfl (by dsimp only; omega), trivial⟩, ⟨by dsimp only; omega, hst, R.Own.tl R.ohm⟩, by dsimp only; omega⟩
    · rename_i a1
      rw [if_neg fun h => by rw [a1] at h; cases h.1] at hst
      exact ⟨(q + 1, _), ⟨rfl, rfl, rfl, rfl, rfl, rfl, R.viaI rfl (by dsimp only; omega), trivial⟩, ⟨by dsimp only; omega, hst, R.Own.tl R.ohm⟩, by dsimp only; omega⟩
  obtain rfl : q = s.n := by omega
  have hml : (insG g s c).st.length = s.n := by show (s.L.map _).length = _; rw [List.length_map]; exact hsl.symm
  rw [← hml] at hBs
  have hBf := hBs.bf hL (j := (insG g s c).S 0)
  have hk40 : k ≤ 40 := by omega
  clear hlt hq hBs
  (refine R.stepH ?_; (repeat' (first | (with_reducible refine And.intro ?_ ?_) | (with_reducible intro _))); all_goals refine R.Lft.mk ?_)
  refine R.WC_loop (fun i : Nat × Nat × List Int => [(2, .slice c.A c.n c.c), (3, .pointer (some ⟨gb, 0, none⟩)), (6, .slice none 0 0), (7, .int .i64 (k : Nat)), (8, .slice A1 k k), (12, .int .i64 (i.1 : Nat))])
    (fun i w1 => i.1 ≤ k + 1 ∧ i.2.1 ≤ 12000 * i.1 ∧ Bf (insG g s c) D P S i.2.2 i.2.1 i.1 0 ((insG g s c).S 0) ∧ R.Own [] w w1 [.row A1 k k 3 1 (i.2.2.flatMap R.cI), .blk gb 24 (cGph g)]) (fun i => k + 1 - i.1)
    ⟨(0, 0, B), ⟨rfl, rfl, rfl, rfl, rfl, rfl, trivial⟩, Nat.zero_le _, Nat.zero_le _, hBf, R.ohm⟩ ?_
  clear hM hBf hBl B
  rintro ⟨r, t, B⟩ f w5 ⟨hr, ht, hBf, hM⟩
  dsimp only at hr ht hBf hM ⊢
  by_cases hrt : r < k + 1
  · (refine R.stepH ?_; (repeat' (first | (with_reducible refine And.intro ?_ ?_) | (with_reducible intro _))); all_goals refine R.Lft.mk ?_)
    refine R.WC_loop (fun i : Nat × Nat × List Int => [(2, .slice c.A c.n c.c), (3, .pointer (some ⟨gb, 0, none⟩)), (6, .slice none 0 0), (7, .int .i64 (k : Nat)), (8, .slice A1 k k), (12, .int .i64 (r : Nat)), (13, .int .i64 (i.1 : Nat))])
      (fun i w1 => i.1 ≤ k ∧ i.2.1 ≤ 12000 * r + 300 * i.1 ∧ Bf (insG g s c) D P S i.2.2 i.2.1 r i.1 ((insG g s c).S i.1) ∧ R.Own [] w w1 [.row A1 k k 3 1 (i.2.2.flatMap R.cI), .blk gb 24 (cGph g)]) (fun i => k - i.1)
      ⟨(0, t, B), ⟨rfl, rfl, rfl, rfl, rfl, rfl, rfl, trivial⟩, Nat.zero_le _, by dsimp only; omega, hBf, R.ohm⟩ ?_
    clear hM hBf B
    rintro ⟨v, t, B⟩ f w6 ⟨hv, ht, hBf, hM⟩
    dsimp only at hv ht hBf hM ⊢
    have hBl : B.length = k := by rw [hBf.bl, hIn]
    by_cases hlt : v < k
    · have hlo := hg.lo (v := v) (by omega)
      have hup := hg.up v (by omega)
      have hhi := hg.hi (v := v + 1) (by omega)
      have hSv : (insG g s c).S v = (nth g.st.L v).toNat := rfl
      have hSv1 : (insG g s c).S (v + 1) = (nth g.st.L (v + 1)).toNat := rfl
      have ek : ((v : Int) + 1).toNat = v + 1 := by omega
      by_cases hinf : nth B v = 4611686018427387904
      · have hnx := hBf.skip hL (by rw [hIn]; exact hlt) (by omega) (Nat.le_refl _)
        (refine R.stepH ?_; (repeat' (first | (with_reducible refine And.intro ?_ ?_) | (with_reducible intro _))); all_goals refine R.Lft.mk ?_)
        exact ⟨(v + 1, t, B), ⟨rfl, rfl, rfl, rfl, rfl, rfl, R.viaI rfl (by dsimp only; omega), trivial⟩, ⟨by dsimp only; omega, by dsimp only; omega, hnx, R.ohm⟩, by dsimp only; omega⟩
      have hbf := hBf.bd v (by rw [hIn]; exact hlt)
      (refine R.stepH ?_; (repeat' (first | (with_reducible refine And.intro ?_ ?_) | (with_reducible intro _))); all_goals refine R.Lft.mk ?_)
      refine R.WC_loop (fun i : Nat × Nat × List Int => [(2, .slice c.A c.n c.c), (3, .pointer (some ⟨gb, 0, none⟩)), (6, .slice none 0 0), (7, .int .i64 (k : Nat)), (8, .slice A1 k k), (12, .int .i64 (r : Nat)), (13, .int .i64 (v : Nat)), (14, .int .i64 (i.1 : Nat))])
        (fun i w1 => (insG g s c).S v ≤ i.1 ∧ i.1 ≤ (insG g s c).S (v + 1) ∧ i.2.1 + (insG g s c).S v ≤ 12000 * r + 300 * v + i.1 ∧ Bf (insG g s c) D P S i.2.2 i.2.1 r v i.1 ∧ nth i.2.2 v = nth B v ∧ R.Own [] w w1 [.row A1 k k 3 1 (i.2.2.flatMap R.cI), .blk gb 24 (cGph g)]) (fun i => (insG g s c).S (v + 1) - i.1)
        ⟨((insG g s c).S v, t, B), ⟨rfl, rfl, rfl, rfl, rfl, rfl, rfl, R.viaI rfl (by dsimp only; omega), trivial⟩, Nat.le_refl _, by dsimp only; omega, by dsimp only; omega, hBf, rfl, R.ohm⟩ ?_
      clear hM hBf hBl
      obtain ⟨x, hx⟩ : ∃ x, nth B v = x := ⟨_, rfl⟩
      rw [hx] at hinf hbf ⊢
      clear hx B
      rintro ⟨j, t2, B⟩ f w7 ⟨hj1, hj2, ht2, hBf, hBv, hM⟩
      dsimp only at hj1 hj2 ht2 hBf hBv hM ⊢
      have hBl : B.length = k := by rw [hBf.bl, hIn]
      by_cases hjl : j < (insG g s c).S (v + 1)
      · have hjt : ((j : Nat) : Int) < nth g.st.L ((v : Int) + 1).toNat := by rw [ek]; omega
        have ha := hg.arc v j (by omega) (by omega) (by omega)
        obtain ⟨a1, a2, a3, a4, _⟩ := ha
        have hrel := hBf.relax hL hI (by rw [hIn]; exact hlt) (by omega) hj1 hjl
        rw [hBv] at hrel
        have hH : (insG g s c).H j = (nth g.hd.L j).toNat := rfl
        have hW : (insG g s c).W j = nth g.wt.L j := rfl
        have hop : (insG g s c).op (nth g.hd.L j).toNat = !shutV c (nth g.hd.L j).toNat := rfl
        rw [hH, hW] at hrel
        unfold rlx at hrel
        rw [hop] at hrel
        have hcv : c.n = 0 ∨ nth g.hd.L j < c.n := by
          rcases Nat.eq_zero_or_pos c.n with e | e
          · exact .inl e
          · have := hcn e
            omega
        (refine R.stepH ?_; (repeat' (first | (with_reducible refine And.intro ?_ ?_) | (with_reducible intro _))); all_goals refine R.Lft.mk ?_)
        refine R.WC_planO [(0, false), (1, false), (2, true), (3, false), (4, false), (5, false), (6, false), (7, false), (8, false), (9, false), (10, false), (11, false), (12, false), (13, false), (14, false), (15, false), (16, false), (17, false), (18, false), (19, false), (20, false)] R.mixed (by decide +kernel) R.ohm ?_
        (refine R.stepH ?_; (repeat' (first | (with_reducible refine And.intro ?_ ?_) | (with_reducible intro _))); all_goals refine R.Lft.mk ?_)
        · rename_i b1 b2 _ _ _ hM
          rw [hBv] at b2 hM
          rw [if_pos ⟨b1, b2⟩] at hrel
          exact ⟨(j + 1, t2 + 1, _), ⟨rfl, rfl, rfl, rfl, rfl, rfl, rfl, R.viaI rfl (by dsimp only; omega), trivial⟩, ⟨by dsimp only; omega, by dsimp only; omega, by dsimp only; omega, hrel.1, hrel.2, hM⟩, by dsimp only; omega⟩
        · rename_i b1 b2
          rw [hBv] at b2
          rw [if_neg fun h => b2 h.2] at hrel
          exact ⟨(j + 1, t2 + 1, _), ⟨rfl, rfl, rfl, rfl, rfl, rfl, rfl, R.viaI rfl (by dsimp only; omega), trivial⟩, ⟨by dsimp only; omega, by dsimp only; omega, by dsimp only; omega, hrel.1, hrel.2, R.ohm⟩, by dsimp only; omega⟩
        · rename_i b1
          rw [if_neg fun h => by rw [b1] at h; cases h.1] at hrel
          exact ⟨(j + 1, t2 + 1, _), ⟨rfl, rfl, rfl, rfl, rfl, rfl, rfl, R.viaI rfl (by dsimp only; omega), trivial⟩, ⟨by dsimp only; omega, by dsimp only; omega, by dsimp only; omega, hrel.1, hrel.2, R.ohm⟩, by dsimp only; omega⟩
      · have hjt : ¬ ((j : Nat) : Int) < nth g.st.L ((v : Int) + 1).toNat := by rw [ek]; omega
        have hnx := hBf.next (by omega) (Nat.le_refl _)
        (refine R.stepH ?_; (repeat' (first | (with_reducible refine And.intro ?_ ?_) | (with_reducible intro _))); all_goals refine R.Lft.mk ?_)
        exact ⟨(v + 1, t2, B), ⟨rfl, rfl, rfl, rfl, rfl, rfl, R.viaI rfl (by dsimp only; omega), trivial⟩, ⟨by dsimp only; omega, by dsimp only; omega, hnx, R.ohm⟩, by dsimp only; omega⟩
    · obtain rfl : v = k := by omega
      have hnx := Bf.round (I := insG g s c) (by rw [hIn]; exact hBf) hL (Nat.le_refl _)
      (refine R.stepH ?_; (repeat' (first | (with_reducible refine And.intro ?_ ?_) | (with_reducible intro _))); all_goals refine R.Lft.mk ?_)
      exact ⟨(r + 1, t, B), ⟨rfl, rfl, rfl, rfl, rfl, R.viaI rfl (by dsimp only; omega), trivial⟩, ⟨by dsimp only; omega, by dsimp only; omega, hnx, R.ohm⟩, by dsimp only; omega⟩
  · have hBD := hBf.done hL (by omega) (by omega)
    rw [hBD] at hM
    (refine R.stepH ?_; (repeat' (first | (with_reducible refine And.intro ?_ ?_) | (with_reducible intro _))); all_goals refine R.Lft.mk ?_)
    refine ⟨A1, k, rfl, ?_⟩
    exact R.Own.gives R.ohm
end
end Go.Proofs.Ytegbidklcaccjaa
