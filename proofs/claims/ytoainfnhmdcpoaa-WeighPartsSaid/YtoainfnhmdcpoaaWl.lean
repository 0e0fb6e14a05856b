/- Package weigh and snicketref14: the walks. -/
import Derived.Test.YtoainfnhmdcpoaaWp
import Derived.Test.YtoainfnhmdcpoaaCf
namespace Go.Proofs.Ytoainfnhmdcpoaa
open Go.RowKit
open R (In64 InU64 lo64 nth)

theorem all_ok {L : List Int} (h : ∀ i, i < L.length → okW (nth L i) = true) : L.all okW = true := by
  rw [List.all_eq_true]
  intro x hx
  obtain ⟨i, hi, rfl⟩ := List.getElem_of_mem hx
  rw [← R.nth_eq hi]
  exact h i hi
theorem not_ok {L : List Int} {i : Nat} (hi : i < L.length) (h : okW (nth L i) = false) : L.all okW = false := by
  refine Bool.eq_false_iff.2 fun g => ?_
  have := List.all_eq_true.1 g _ (R.nth_mem hi)
  rw [h] at this
  cases this
theorem join_any (A : Option Addr) (n c : Nat) (L : List Int) (w : World) (hA : R.Inp [] w A n 1 (L.flatMap R.cI)) (hn : n = L.length) (hb : n ≤ 9223372036854775807) : Calls Try.prog 22 #[.slice A n c] w fun e w' => e = .returned (.tuple #[.int .i64 (joinS L), .bool (joinB L)]) ∧ Below w.heap.size w w' := by
  have hM := R.Own.start [] w
  by_cases hl : n ≤ 2000
  · refine R.calls_of_WC (fn := Try.f22) Try.func22 rfl Try.ntmps22 (Nat.le_of_ble_eq_true rfl) ?_
    (refine R.stepV ?_; (repeat' (first | (with_reducible refine And.intro ?_ ?_) | (with_reducible intro _))); all_goals refine R.Lft.mk ?_)
    refine R.WC_loop (fun k : Nat => [(2, .int .i64 0), (3, .bool false), (4, .int .i64 (L.take k).sum), (10, .slice A n c), (11, .int .i64 (n : Nat)), (12, .int .i64 (k : Nat))])
      (fun k w2 => k ≤ n ∧ (∀ i, i < k → okW (nth L i) = true) ∧ 0 ≤ (L.take k).sum ∧ (L.take k).sum ≤ 2147483648 * k ∧ R.Own [] w w2 []) (fun k => n - k) ⟨0, ⟨rfl, rfl, rfl, rfl, rfl, rfl, trivial⟩, by omega, fun i hi => absurd hi (Nat.not_lt_zero _), by simp, by simp, hM⟩ ?_
    clear hM
    rintro k f w2 ⟨hk, hall, h0, h1, hM⟩
    by_cases hlt : k < n
    · have es : (L.take (k + 1)).sum = (L.take k).sum + nth L k := by rw [take_snoc (by omega), sum_snoc]
      by_cases ho : okW (nth L k) = true
      · have hr := okW_of ho
        (refine R.stepV ?_; (repeat' (first | (with_reducible refine And.intro ?_ ?_) | (with_reducible intro _))); all_goals refine R.Lft.mk ?_)
        · rename_i h
          rw [ho] at h
          cases h
        · refine ⟨k + 1, ⟨rfl, rfl, R.viaI rfl es.symm, rfl, rfl, R.viaI rfl (by omega), trivial⟩, ⟨by omega, fun i hi => ?_, by omega, by omega, by assumption⟩, by omega⟩
          rcases Nat.lt_or_ge i k with h | h
          · exact hall i h
          · obtain rfl : i = k := by omega
            exact ho
      · have hf : joinB L = false := by unfold joinB; rw [not_ok (i := k) (by omega) (by simpa using ho)]; simp
        rw [show joinS L = 0 by unfold joinS; rw [hf]; rfl, hf]
        (refine R.stepV ?_; (repeat' (first | (with_reducible refine And.intro ?_ ?_) | (with_reducible intro _))); all_goals refine R.Lft.mk ?_)
        · exact ⟨rfl, R.Own.below (by assumption)⟩
        · rename_i h
          exact absurd (by simpa using h) ho
    · obtain rfl : k = n := by omega
      have hf : joinB L = true := by unfold joinB; rw [all_ok (by rw [← hn]; exact hall), decide_eq_true (by omega)]; rfl
      rw [show joinS L = L.sum by unfold joinS; rw [hf]; rfl, hf]
      rw [hn, List.take_length] at h0 h1 ⊢
      (refine R.stepV ?_; (repeat' (first | (with_reducible refine And.intro ?_ ?_) | (with_reducible intro _))); all_goals refine R.Lft.mk ?_; (all_goals (try (exact ⟨rfl, R.Own.below (by assumption)⟩))))
  · have hf : joinB L = false := by unfold joinB; rw [decide_eq_false (by omega)]; rfl
    rw [show joinS L = 0 by unfold joinS; rw [hf]; rfl, hf]
    refine R.calls_of_WC (fn := Try.f22) Try.func22 rfl Try.ntmps22 (Nat.le_of_ble_eq_true rfl) ?_
    (refine R.stepV ?_; (repeat' (first | (with_reducible refine And.intro ?_ ?_) | (with_reducible intro _))); all_goals refine R.Lft.mk ?_; (all_goals (try (exact ⟨rfl, R.Own.below (by assumption)⟩))))
instance con_join (A : Option Addr) (n c : Nat) : R.ConB Try.prog 22 #[.slice A n c] (List Int) (fun L w => R.Inp [] w A n 1 (L.flatMap R.cI) ∧ n = L.length ∧ n ≤ 9223372036854775807) (fun L => .tuple #[.int .i64 (joinS L), .bool (joinB L)]) := ⟨fun L w h => join_any A n c L w h.1 h.2.1 h.2.2⟩
theorem cut_next {L : List P2} {k : Nat} (h : ∀ i, i < k → cutP L i) (hk : cutP L k) : ∀ i, i < k + 1 → cutP L i := fun i hi => by
  rcases Nat.lt_or_ge i k with h1 | h1
  · exact h i h1
  · obtain rfl : i = k := by omega
    exact hk
set_option maxHeartbeats 2000000 in
theorem may14_any (A : Option Addr) (n c : Nat) (L : List P2) (w : World) (hA : R.Inp [] w A n 2 (L.flatMap cP2)) (hn : n = L.length) (hb : n ≤ 9223372036854775807) (hG : ∀ x ∈ L, In64 x.a ∧ In64 x.b) : Calls Try.prog 89 #[.slice A n c] w fun e w' => e = .returned (.bool (cutsB L)) ∧ Below w.heap.size w w' := by
  have hM := R.Own.start [] w
  by_cases hl : 2 ≤ n ∧ n ≤ 2000
  · obtain ⟨l1, l2⟩ := hl
    refine R.calls_of_WC (fn := Try.f89) Try.func89 rfl Try.ntmps89 (Nat.le_of_ble_eq_true rfl) ?_
    (refine R.stepV ?_; (repeat' (first | (with_reducible refine And.intro ?_ ?_) | (with_reducible intro _))); all_goals refine R.Lft.mk ?_)
    refine R.WC_loop (fun k : Nat => [(0, .slice A n c), (2, .bool false), (14, .slice A n c), (15, .int .i64 (n : Nat)), (16, .int .i64 (k : Nat))])
      (fun k w2 => k ≤ n ∧ (∀ i, i < k → cutP L i) ∧ R.Own [] w w2 []) (fun k => n - k) ⟨0, ⟨rfl, rfl, rfl, rfl, rfl, trivial⟩, by omega, fun i hi => absurd hi (Nat.not_lt_zero _), hM⟩ ?_
    clear hM
    rintro k f w2 ⟨hk, hall, hM⟩
    by_cases hlt : k < n
    · have e : (((k : Nat) : Int) - 1).toNat = k - 1 := by omega
      have q2 := (hG _ (R.nth_mem (L := L) (i := k) (by omega))).2
      by_cases ho : okP (nth L k) = true
      · have hp : 0 < k → okP (nth L (((k : Nat) : Int) - 1).toNat) = true := fun h => by rw [e]; exact (hall (k - 1) (by omega)).1
        have hq : 0 < k → In64 (nth L (((k : Nat) : Int) - 1).toNat).b := fun h => by rw [e]; exact (hG _ (R.nth_mem (L := L) (i := k - 1) (by omega))).2
        rcases Nat.eq_zero_or_pos k with h0 | h0
        · clear hp hq
          (refine R.stepU ?_; (repeat' (first | (with_reducible refine And.intro ?_ ?_) | (with_reducible intro _))); all_goals refine R.Lft.mk ?_)
          refine R.WC_planO [(0, false), (1, true), (2, false), (3, false), (4, false), (5, false), (6, false), (7, false), (8, false), (9, false), (10, false), (11, false), (12, false), (13, true), (14, false), (15, false)] R.mixed (by decide +kernel) R.ohm ?_
          (refine R.stepU ?_; (repeat' (first | (with_reducible refine And.intro ?_ ?_) | (with_reducible intro _))); all_goals refine R.Lft.mk ?_)
          all_goals first
            | (exfalso; omega)
            | (have h : (!okP (nth L k)) = true := by assumption
               rw [ho] at h
               cases h)
            | (have hc : (nth L k).a * (nth L (((k : Nat) : Int) - 1).toNat).b < (nth L (((k : Nat) : Int) - 1).toNat).a * (nth L k).b := by assumption
               rw [e] at hc
               rw [cutsB_f (fun g => by
                 have := (g.2.2.1 k (by omega)).2 (by omega)
                 rw [show fallsB (nth L (k - 1)) (nth L k) = true from decide_eq_true hc] at this
                 cases this)]
               exact ⟨rfl, R.Own.below (by assumption)⟩)
            | (have hc : ¬ (nth L k).a * (nth L (((k : Nat) : Int) - 1).toNat).b < (nth L (((k : Nat) : Int) - 1).toNat).a * (nth L k).b := by assumption
               rw [e] at hc
               exact ⟨k + 1, ⟨rfl, rfl, rfl, rfl, R.viaI rfl (by omega), trivial⟩, ⟨by omega, cut_next hall ⟨ho, fun _ => decide_eq_false hc⟩, R.Own.nul (by assumption)⟩, by omega⟩)
            | exact ⟨k + 1, ⟨rfl, rfl, rfl, rfl, R.viaI rfl (by omega), trivial⟩, ⟨by omega, cut_next hall ⟨ho, fun g => absurd g (by omega)⟩, R.Own.nul (by assumption)⟩, by omega⟩
        · have hp := hp h0
          have hq := hq h0
          (refine R.stepU ?_; (repeat' (first | (with_reducible refine And.intro ?_ ?_) | (with_reducible intro _))); all_goals refine R.Lft.mk ?_)
          refine R.WC_planO [(0, false), (1, true), (2, false), (3, false), (4, false), (5, false), (6, false), (7, false), (8, false), (9, false), (10, false), (11, false), (12, false), (13, true), (14, false), (15, false)] R.mixed (by decide +kernel) R.ohm ?_
          (refine R.stepU ?_; (repeat' (first | (with_reducible refine And.intro ?_ ?_) | (with_reducible intro _))); all_goals refine R.Lft.mk ?_)
          all_goals first
            | (exfalso; omega)
            | (have h : (!okP (nth L k)) = true := by assumption
               rw [ho] at h
               cases h)
            | (have hc : (nth L k).a * (nth L (((k : Nat) : Int) - 1).toNat).b < (nth L (((k : Nat) : Int) - 1).toNat).a * (nth L k).b := by assumption
               rw [e] at hc
               rw [cutsB_f (fun g => by
                 have := (g.2.2.1 k (by omega)).2 (by omega)
                 rw [show fallsB (nth L (k - 1)) (nth L k) = true from decide_eq_true hc] at this
                 cases this)]
               exact ⟨rfl, R.Own.below (by assumption)⟩)
            | (have hc : ¬ (nth L k).a * (nth L (((k : Nat) : Int) - 1).toNat).b < (nth L (((k : Nat) : Int) - 1).toNat).a * (nth L k).b := by assumption
               rw [e] at hc
               exact ⟨k + 1, ⟨rfl, rfl, rfl, rfl, R.viaI rfl (by omega), trivial⟩, ⟨by omega, cut_next hall ⟨ho, fun _ => decide_eq_false hc⟩, R.Own.nul (by assumption)⟩, by omega⟩)
            | exact ⟨k + 1, ⟨rfl, rfl, rfl, rfl, R.viaI rfl (by omega), trivial⟩, ⟨by omega, cut_next hall ⟨ho, fun g => absurd g (by omega)⟩, R.Own.nul (by assumption)⟩, by omega⟩
      · rw [cutsB_f (fun g => ho (g.2.2.1 k (by omega)).1)]
        (refine R.stepU ?_; (repeat' (first | (with_reducible refine And.intro ?_ ?_) | (with_reducible intro _))); all_goals refine R.Lft.mk ?_)
        refine R.WC_planO [(0, false), (1, true), (2, false), (3, false), (4, false), (5, false), (6, false), (7, false), (8, false), (9, false), (10, false), (11, false), (12, false), (13, true), (14, false), (15, false)] R.mixed (by decide +kernel) R.ohm ?_
        (refine R.stepU ?_; (repeat' (first | (with_reducible refine And.intro ?_ ?_) | (with_reducible intro _))); all_goals refine R.Lft.mk ?_)
        all_goals first
          | exact ⟨rfl, R.Own.below (by assumption)⟩
          | (have h : (!okP (nth L k)) = false := by assumption
             exact absurd (by simpa using h) ho)
    · obtain rfl : k = n := by omega
      have e : (((k : Nat) : Int) - 1).toNat = k - 1 := by omega
      (refine R.stepU ?_; (repeat' (first | (with_reducible refine And.intro ?_ ?_) | (with_reducible intro _))); all_goals refine R.Lft.mk ?_)
      · rename_i h0
        refine ⟨?_, R.Own.below (by assumption)⟩
        rw [e]
        by_cases hx : (nth L (k - 1)).a = (nth L (k - 1)).b
        · rw [decide_eq_true hx, cutsB_t ⟨by omega, by omega, fun i hi => hall i (by omega), h0, by rw [← hn]; exact hx⟩]
        · rw [decide_eq_false hx, cutsB_f (fun g => hx (by have := g.2.2.2.2; rwa [← hn] at this))]
      · have h0 : ¬ (nth L (Int.toNat 0)).a = 0 := by assumption
        rw [cutsB_f (fun g => h0 g.2.2.2.1)]
        exact ⟨rfl, R.Own.below (by assumption)⟩
  · rw [cutsB_f (fun g => hl ⟨by rw [hn]; exact g.1, by rw [hn]; exact g.2.1⟩)]
    refine R.calls_of_WC (fn := Try.f89) Try.func89 rfl Try.ntmps89 (Nat.le_of_ble_eq_true rfl) ?_
    (refine R.stepV ?_; (repeat' (first | (with_reducible refine And.intro ?_ ?_) | (with_reducible intro _))); all_goals refine R.Lft.mk ?_; (all_goals (try (exact ⟨rfl, R.Own.below (by assumption)⟩))))
    all_goals (exfalso; omega)
instance con_may14 (A : Option Addr) (n c : Nat) : R.ConB Try.prog 89 #[.slice A n c] (List P2) (fun L w => R.Inp [] w A n 2 (L.flatMap cP2) ∧ n = L.length ∧ n ≤ 9223372036854775807 ∧ ∀ x ∈ L, In64 x.a ∧ In64 x.b) (fun L => .bool (cutsB L)) := ⟨fun L w h => may14_any A n c L w h.1 h.2.1 h.2.2.1 h.2.2.2⟩
/-- What the pieces weigh, and what is told. -/
noncomputable def partsL (v : Int) (L : List P2) : List Int := if okW v && cutsB L then piecesW v L else []
noncomputable def partsE (v : Int) (L : List P2) : Int := if okW v then (if cutsB L then 0 else 1) else 10
theorem pieces_take (v : Int) (L : List P2) (k : Nat) : (List.range (k + 1)).map (pieceW v L) = (List.range k).map (pieceW v L) ++ [pieceW v L k] := by
  rw [List.range_succ, List.map_append, List.map_singleton]
theorem partQ_ok {v : Int} {p : P2} (hv : 0 ≤ v) (h : okP p = true) : partQ v p.a p.b = uptoW v p := by
  obtain ⟨h1, h2, h3⟩ := okP_of h
  unfold partQ
  rw [if_neg (by unfold badP; omega)]
  rfl
set_option maxHeartbeats 2000000 in
theorem parts14_any (v : Int) (hv : In64 v) (A : Option Addr) (n c : Nat) (L : List P2) (w : World) (hA : R.Inp [] w A n 2 (L.flatMap cP2)) (hn : n = L.length) (hb : n ≤ c) (hb2 : n ≤ 9223372036854775807) (hG : ∀ x ∈ L, In64 x.a ∧ In64 x.b) : Calls Try.prog 17 #[.int .i64 v, .slice A n c] w fun e w' => ∃ A1 c1, e = .returned (.tuple #[.slice A1 (partsL v L).length c1, .int .i64 (partsE v L)]) ∧ R.Gives w w' A1 (partsL v L).length c1 3 1 ((partsL v L).flatMap R.cI) := by
  have hM := R.Own.start [] w
  by_cases ho : okW v = true
  · by_cases hc : cutsB L = true
    · rw [show partsL v L = piecesW v L by unfold partsL; rw [ho, hc]; rfl, show partsE v L = 0 by unfold partsE; rw [if_pos ho, if_pos hc]]
      have hP := cutsB_of hc
      have hvr := okW_of ho
      have hl1 := hP.1
      have hl2 := hP.2.1
      have hI := hA.cutA (lo := 1) (m := c) (by omega) hb
      have hdr : (L.flatMap cP2).drop (1 * 2) = (L.drop 1).flatMap cP2 := by
        cases L with
        | nil => rfl
        | cons x L => rfl
      rw [hdr] at hI
      have hnth : ∀ i, nth (L.drop 1) i = nth L (i + 1) := fun i => by
        unfold nth
        rw [List.getD_eq_getElem?_getD, List.getD_eq_getElem?_getD, List.getElem?_drop, Nat.add_comm]
      refine R.calls_of_WC (fn := Try.f17) Try.func17 rfl Try.ntmps17 (Nat.le_of_ble_eq_true rfl) ?_
      (refine R.stepV ?_; (repeat' (first | (with_reducible refine And.intro ?_ ?_) | (with_reducible intro _))); all_goals refine R.Lft.mk ?_)
      · rename_i h
        rw [ho] at h
        cases h
      · rename_i h
        rw [hc] at h
        cases h
      refine R.WC_loop (fun s : Nat × Option Addr × Nat => [(0, .int .i64 v), (4, .slice none 0 0), (5, .int .i64 0), (6, .slice s.2.1 s.1 s.2.2), (7, .int .i64 (uptoW v (nth L s.1))), (21, .slice (R.cutA A c 1 2) (n - 1) (c - 1)), (22, .int .i64 ((n - 1 : Nat) : Int)), (23, .int .i64 (s.1 : Nat))])
        (fun s w2 => s.1 ≤ n - 1 ∧ R.Own [] w w2 [.row s.2.1 s.1 s.2.2 3 1 (((List.range s.1).map (pieceW v L)).flatMap R.cI)]) (fun s => n - 1 - s.1) ⟨(0, none, 0), ⟨rfl, rfl, rfl, rfl, R.viaI rfl (upto_first hP).symm, rfl, rfl, rfl, trivial⟩, by dsimp only; omega, R.Own.nil R.ohm _ _⟩ ?_
      clear hM
      rintro ⟨k, A1, c1⟩ f w2 ⟨hk, hM⟩
      dsimp only at hk hM ⊢
      by_cases hlt : k < n - 1
      · have m1 := (hP.2.2.1 (k + 1) (by omega)).1
        have eq1 : (if okW v then partQ v (nth (L.drop 1) k).a (nth (L.drop 1) k).b else 0) = uptoW v (nth L (k + 1)) := by rw [if_pos ho, hnth, partQ_ok hvr.1 m1]
        have b1 := upto_in hvr.1 m1
        have b2 := upto_in hvr.1 (hP.2.2.1 k (by omega)).1
        have g1 : In64 (nth (L.drop 1) k).a ∧ In64 (nth (L.drop 1) k).b := by rw [hnth]; exact hG _ (R.nth_mem (by omega))
        obtain ⟨g2, g3⟩ := g1
        (refine R.stepV ?_; (repeat' (first | (with_reducible refine And.intro ?_ ?_) | (with_reducible intro _))); all_goals refine R.Lft.mk ?_)
        rename_i hM
        rw [eq1, show uptoW v (nth L (k + 1)) - uptoW v (nth L k) = pieceW v L k from rfl, ← pieces_take] at hM
        exact ⟨(k + 1, _, _), ⟨rfl, rfl, rfl, rfl, R.viaI rfl eq1, rfl, rfl, R.viaI rfl (by omega), trivial⟩, ⟨by dsimp only; omega, hM.tl⟩, by dsimp only; omega⟩
      · obtain rfl : k = n - 1 := by omega
        have hl : (piecesW v L).length = n - 1 := by unfold piecesW; rw [List.length_map, List.length_range, hn]
        have hg : ((List.range (n - 1)).map (pieceW v L)) = piecesW v L := by unfold piecesW; rw [hn]
        rw [hg] at hM
        (refine R.stepV ?_; (repeat' (first | (with_reducible refine And.intro ?_ ?_) | (with_reducible intro _))); all_goals refine R.Lft.mk ?_)
        exact ⟨A1, c1, by rw [hl], by rw [hl]; exact hM.gives⟩
    · have hc : cutsB L = false := by simpa using hc
      rw [show partsL v L = [] by unfold partsL; rw [ho, hc]; rfl, show partsE v L = 1 by unfold partsE; rw [if_pos ho, hc]; rfl]
      refine R.calls_of_WC (fn := Try.f17) Try.func17 rfl Try.ntmps17 (Nat.le_of_ble_eq_true rfl) ?_
      (refine R.stepV ?_; (repeat' (first | (with_reducible refine And.intro ?_ ?_) | (with_reducible intro _))); all_goals refine R.Lft.mk ?_)
      · rename_i h
        rw [ho] at h
        cases h
      · rename_i hM _
        exact ⟨none, 0, rfl, (R.Own.nil R.ohm _ _).gives⟩
      · rename_i h
        rw [hc] at h
        cases h
  · have ho : okW v = false := by simpa using ho
    rw [show partsL v L = [] by unfold partsL; rw [ho]; rfl, show partsE v L = 10 by unfold partsE; rw [ho]; rfl]
    refine R.calls_of_WC (fn := Try.f17) Try.func17 rfl Try.ntmps17 (Nat.le_of_ble_eq_true rfl) ?_
    (refine R.stepV ?_; (repeat' (first | (with_reducible refine And.intro ?_ ?_) | (with_reducible intro _))); all_goals refine R.Lft.mk ?_)
    all_goals first
      | exact ⟨none, 0, rfl, (R.Own.nil R.ohm _ _).gives⟩
      | (have h : (!okW v) = false := by assumption
         rw [ho] at h
         cases h)
theorem same_next {L M : List Int} {k : Nat} (h : ∀ i, i < k → nth L i = nth M i) (hk : nth L k = nth M k) : ∀ i, i < k + 1 → nth L i = nth M i := fun i hi => by
  rcases Nat.lt_or_ge i k with h1 | h1
  · exact h i h1
  · obtain rfl : i = k := by omega
    exact hk
theorem same_list {L M : List Int} (hl : L.length = M.length) (h : ∀ i, i < L.length → nth L i = nth M i) : L = M :=
  List.ext_getElem hl fun i h1 h2 => by rw [← R.nth_eq h1, ← R.nth_eq h2]; exact h i h1
/-- Are lists of numbers the same? -/
theorem same01 (A B : Option Addr) (n c m d : Nat) (L M : List Int) (w : World) (hA : R.Inp [] w A n 1 (L.flatMap R.cI)) (hn : n = L.length) (hnb : n ≤ 9223372036854775807) (hB : R.Inp [] w B m 1 (M.flatMap R.cI)) (hm : m = M.length) : Calls Try.prog 23 #[.slice A n c, .slice B m d] w fun e w' => e = .returned (.bool (decide (L = M))) ∧ Below w.heap.size w w' := by
  have hM := R.Own.start [] w
  by_cases hl : n = m
  · refine R.calls_of_WC (fn := Try.f23) Try.func23 rfl Try.ntmps23 (Nat.le_of_ble_eq_true rfl) ?_
    (refine R.stepV ?_; (repeat' (first | (with_reducible refine And.intro ?_ ?_) | (with_reducible intro _))); all_goals refine R.Lft.mk ?_)
    refine R.WC_loop (fun k : Nat => [(0, .slice A n c), (1, .slice B m d), (4, .bool false), (5, .int .i64 (k : Nat))])
      (fun k w2 => k ≤ n ∧ R.Own [] w w2 [] ∧ ∀ i, i < k → nth L i = nth M i) (fun k => n - k) ⟨0, ⟨rfl, rfl, rfl, rfl, trivial⟩, by omega, hM, fun i hi => absurd hi (Nat.not_lt_zero _)⟩ ?_
    clear hM
    rintro k f w2 ⟨hk, hM, hall⟩
    by_cases hlt : k < n
    · (refine R.stepV ?_; (repeat' (first | (with_reducible refine And.intro ?_ ?_) | (with_reducible intro _))); all_goals refine R.Lft.mk ?_)
      · have h : nth L k ≠ nth M k := by assumption
        rw [decide_eq_false (fun g : L = M => h (by rw [g]))]
        exact ⟨rfl, R.Own.below (by assumption)⟩
      · have h : ¬ nth L k ≠ nth M k := by assumption
        exact ⟨k + 1, ⟨rfl, rfl, rfl, R.viaI rfl (by omega), trivial⟩, ⟨by omega, by assumption, same_next hall (by simpa using h)⟩, by omega⟩
    · obtain rfl : k = n := by omega
      (refine R.stepV ?_; (repeat' (first | (with_reducible refine And.intro ?_ ?_) | (with_reducible intro _))); all_goals refine R.Lft.mk ?_)
      rw [decide_eq_true (same_list (by omega) (by rw [← hn]; exact hall))]
      exact ⟨rfl, R.Own.below (by assumption)⟩
  · rw [decide_eq_false (fun g : L = M => hl (by rw [hn, hm, g]))]
    refine R.calls_of_WC (fn := Try.f23) Try.func23 rfl Try.ntmps23 (Nat.le_of_ble_eq_true rfl) ?_
    (refine R.stepV ?_; (repeat' (first | (with_reducible refine And.intro ?_ ?_) | (with_reducible intro _))); all_goals refine R.Lft.mk ?_)
    all_goals first
      | exact ⟨rfl, R.Own.below (by assumption)⟩
      | (exfalso; omega)
end Go.Proofs.Ytoainfnhmdcpoaa
