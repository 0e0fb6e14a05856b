/- The law WeighParts. -/
import Derived.Test.YtoainfnhmdcpoaaWk
import Derived.Test.YtoainfnhmdcpoaaWj
namespace Go.Proofs.Ytoainfnhmdcpoaa
open Go.ChangeShapes Go.WideShapes Go.ChangeAt Go.RowKit
open R (In64 InU64 lo64 nth)

theorem piece_pos {v : Int} {L : List P2} (hv : 0 ≤ v) (h : cutsP L) {i : Nat} (hi : i + 1 < L.length) : 0 ≤ nth (piecesW v L) i := by
  have e : nth (piecesW v L) i = pieceW v L i := by
    unfold piecesW nth
    simp [List.getD, show i < L.length - 1 by omega]
  rw [e]
  exact (piece_in hv h hi).1
set_option maxHeartbeats 4000000 in
theorem weighParts_t (v : Int) (hv : In64 v) (A : Option Addr) (n c : Nat) (L : List P2) (w : World) (hA : R.Inp [] w A n 2 (L.flatMap cP2)) (hn : n = L.length) (hb : n ≤ c) (hb2 : n ≤ 9223372036854775807) (hG : ∀ x ∈ L, In64 x.a ∧ In64 x.b) (hl : n ≤ 100) (ho : okW v = true) : Calls Try.prog 3 #[.int .i64 v, .slice A n c] w fun e w' => e = .returned (.bool true) ∧ Below w.heap.size w w' := by
  have hM := R.Own.start [] w
  refine R.calls_of_WC (fn := Try.f3) Try.func3 rfl Try.ntmps3 (Nat.le_of_ble_eq_true rfl) ?_
  (refine R.stepV ?_; (repeat' (first | (with_reducible refine And.intro ?_ ?_) | (with_reducible intro _))); all_goals refine R.Lft.mk ?_)
  refine R.WO_call2 rfl rfl R.vv R.vv ?_
  refine (parts14_any v hv A n c L _ ((R.ohm : R.Own [] w _ []).inpIn hA) hn hb hb2 hG).mono ?_
  rintro _ w2 ⟨A1, c1, rfl, hG1⟩
  have hM := R.Own.give (R.ohm : R.Own [] w _ []) hG1
  refine ⟨_, rfl, ?_⟩
  have hvr := okW_of ho
  (refine R.stepV ?_; (repeat' (first | (with_reducible refine And.intro ?_ ?_) | (with_reducible intro _))); all_goals refine R.Lft.mk ?_)
  refine R.WC_loop (fun k : Nat => [(0, .int .i64 v), (1, .slice A n c), (4, .bool false), (5, .slice A1 (partsL v L).length c1), (6, .int .i64 (partsE v L)), (7, .bool true), (8, .int .i64 (k : Nat))])
    (fun k w3 => k ≤ n ∧ R.Own [] w w3 [.row A1 (partsL v L).length c1 3 1 ((partsL v L).flatMap R.cI)]) (fun k => n - k) ⟨0, ⟨rfl, rfl, rfl, rfl, rfl, R.viaB rfl (by simp <;> omega), rfl, trivial⟩, by omega, R.ohm⟩ ?_
  clear hM hG1
  rintro k f w3 ⟨hk, hM⟩
  by_cases hlt : k < n
  · obtain ⟨q1, q2⟩ := hG _ (R.nth_mem (L := L) (i := k) (by omega))
    have hAs : ∃ a, A = some a := (R.Own.rdIn hM hA).some_ (by omega) (by decide)
    by_cases hp : okP (nth L k) = true
    · have g1 := okP_of hp
      have nb : ¬ badP v (nth L k).a (nth L k).b := by unfold badP; omega
      have E : (if okW v then partE v (nth L k).a (nth L k).b else 10) = 0 := by rw [if_pos ho]; exact if_neg nb
      have Q : (if okW v then partQ v (nth L k).a (nth L k).b else 0) = v * (nth L k).a / (nth L k).b := by rw [if_pos ho]; exact if_neg nb
      (refine R.stepU ?_; (repeat' (first | (with_reducible refine And.intro ?_ ?_) | (with_reducible intro _))); all_goals refine R.Lft.mk ?_)
      refine R.WC_planO [(0, false), (1, false), (2, false), (3, false), (4, false), (5, false), (6, false), (7, false), (8, false), (9, false), (10, false), (11, true), (12, false), (13, false), (14, false), (15, false), (16, false)] R.mixed (by decide +kernel) R.ohm ?_
      (refine R.stepU ?_; (repeat' (first | (with_reducible refine And.intro ?_ ?_) | (with_reducible intro _))); all_goals refine R.Lft.mk ?_)
      · have h : (!okP (nth L k)) = true := by assumption
        rw [hp] at h
        cases h
      · rw [E, Q]
        refine R.WC_planO [(0, false), (1, false), (2, false), (3, false), (4, false), (5, false), (6, false), (7, false), (8, false), (9, false), (10, false), (11, false), (12, false), (13, false), (14, false), (15, false), (16, false), (17, false), (18, false), (19, false), (20, false), (21, false), (22, false), (23, false), (24, false), (25, false), (26, false), (27, true), (28, false), (29, false), (30, false)] R.mixed (by decide +kernel) R.ohm ?_
        (refine R.stepU ?_; (repeat' (first | (with_reducible refine And.intro ?_ ?_) | (with_reducible intro _))); all_goals refine R.Lft.mk ?_)
        exact ⟨k + 1, ⟨rfl, rfl, rfl, rfl, rfl, rfl, R.viaI rfl (by omega), trivial⟩, ⟨by omega, by assumption⟩, by omega⟩
    · have bd : badP v (nth L k).a (nth L k).b := okP_f (by simpa using hp)
      have E : (if okW v then partE v (nth L k).a (nth L k).b else 10) = 1 := by rw [if_pos ho]; exact if_pos bd
      have Q : (if okW v then partQ v (nth L k).a (nth L k).b else 0) = 0 := by rw [if_pos ho]; exact if_pos bd
      (refine R.stepU ?_; (repeat' (first | (with_reducible refine And.intro ?_ ?_) | (with_reducible intro _))); all_goals refine R.Lft.mk ?_)
      refine R.WC_planO [(0, false), (1, false), (2, false), (3, false), (4, false), (5, false), (6, false), (7, false), (8, false), (9, false), (10, false), (11, true), (12, false), (13, false), (14, false), (15, false), (16, false)] R.mixed (by decide +kernel) R.ohm ?_
      (refine R.stepU ?_; (repeat' (first | (with_reducible refine And.intro ?_ ?_) | (with_reducible intro _))); all_goals refine R.Lft.mk ?_)
      · rw [E, Q]
        refine R.WC_planO [(0, false), (1, false), (2, false), (3, false), (4, false), (5, false), (6, false), (7, false), (8, false), (9, false), (10, false), (11, false), (12, false), (13, false), (14, false), (15, false), (16, false), (17, false), (18, false), (19, false), (20, false), (21, false), (22, false), (23, false), (24, false), (25, false), (26, false), (27, true), (28, false), (29, false), (30, false)] R.mixed (by decide +kernel) R.ohm ?_
        (refine R.stepU ?_; (repeat' (first | (with_reducible refine And.intro ?_ ?_) | (with_reducible intro _))); all_goals refine R.Lft.mk ?_)
        exact ⟨k + 1, ⟨rfl, rfl, rfl, rfl, rfl, rfl, R.viaI rfl (by omega), trivial⟩, ⟨by omega, by assumption⟩, by omega⟩
      · have h : (!okP (nth L k)) = false := by assumption
        exact absurd (by simpa using h) hp
  · obtain rfl : k = n := by omega
    clear hlt
    by_cases hc : cutsB L = true
    · have hP := cutsB_of hc
      have hE : partsE v L = 0 := by unfold partsE; rw [ho, hc]; rfl
      have hL : partsL v L = piecesW v L := by unfold partsL; rw [ho, hc]; rfl
      obtain ⟨hj, hs⟩ := pieces_join ho hP
      have hlen : (piecesW v L).length ≤ 100 := by unfold piecesW; rw [List.length_map, List.length_range]; omega
      rw [hL] at hM
      rw [hE, hL]
      (refine R.stepU ?_; (repeat' (first | (with_reducible refine And.intro ?_ ?_) | (with_reducible intro _))); all_goals refine R.Lft.mk ?_)
      · have h : (!cutsB L) = true := by assumption
        rw [hc] at h
        cases h
      rw [hj, hs]
      (refine R.stepU ?_; (repeat' (first | (with_reducible refine And.intro ?_ ?_) | (with_reducible intro _))); all_goals refine R.Lft.mk ?_)
      rename_i hM
      refine R.WC_loop (fun j : Nat => [(0, .int .i64 v), (1, .slice A k c), (4, .bool false), (5, .slice A1 (piecesW v L).length c1), (6, .int .i64 0), (12, .int .i64 v), (13, .bool true), (14, .int .i64 (j : Nat))])
        (fun j w4 => j ≤ (piecesW v L).length ∧ R.Own [] w w4 [.row A1 (piecesW v L).length c1 3 1 ((piecesW v L).flatMap R.cI)]) (fun j => (piecesW v L).length - j) ⟨0, ⟨rfl, rfl, rfl, rfl, rfl, rfl, rfl, rfl, trivial⟩, by omega, hM⟩ ?_
      clear hM
      rintro j g w4 ⟨hj2, hM⟩
      by_cases hlt : j < (piecesW v L).length
      · have hpos : 0 ≤ nth (piecesW v L) j := piece_pos hvr.1 hP (by unfold piecesW at hlt; rw [List.length_map, List.length_range] at hlt; omega)
        (refine R.stepU ?_; (repeat' (first | (with_reducible refine And.intro ?_ ?_) | (with_reducible intro _))); all_goals refine R.Lft.mk ?_)
        all_goals first
          | exact ⟨j + 1, ⟨rfl, rfl, rfl, rfl, rfl, rfl, rfl, R.viaI rfl (by omega), trivial⟩, ⟨by omega, by assumption⟩, by omega⟩
          | (exfalso; omega)
      · obtain rfl : j = (piecesW v L).length := by omega
        (refine R.stepU ?_; (repeat' (first | (with_reducible refine And.intro ?_ ?_) | (with_reducible intro _))); all_goals refine R.Lft.mk ?_)
        refine R.WO_call2 rfl rfl R.vv R.vv ?_
        refine (partsR14_any v hv ho A k c L _ (hM.inpIn hA) hn hG hP).mono ?_
        rintro _ w5 ⟨A2, c2, rfl, hG2⟩
        have hM := R.Own.give hM hG2
        refine ⟨_, rfl, ?_⟩
        (refine R.stepU ?_; (repeat' (first | (with_reducible refine And.intro ?_ ?_) | (with_reducible intro _))); all_goals refine R.Lft.mk ?_)
        rename_i hM
        refine R.WO_call2 rfl rfl R.vv R.vv ?_
        refine (same01 A1 A2 _ c1 _ c2 (piecesW v L) (piecesW v L) _ (R.Own.inp hM (.tail _ (.head _))) rfl (by omega) (R.Own.inp hM (.head _)) rfl).mono ?_
        rintro _ w6 ⟨rfl, hB⟩
        have hM := hM.call hB
        refine ⟨_, rfl, ?_⟩
        rw [decide_eq_true (rfl : piecesW v L = piecesW v L)]
        (refine R.stepU ?_; (repeat' (first | (with_reducible refine And.intro ?_ ?_) | (with_reducible intro _))); all_goals refine R.Lft.mk ?_)
        all_goals exact ⟨rfl, R.Own.below (by assumption)⟩
    · have hc : cutsB L = false := by simpa using hc
      have hE : partsE v L = 1 := by unfold partsE; rw [ho, hc]; rfl
      have hL : partsL v L = [] := by unfold partsL; rw [ho, hc]; rfl
      rw [hL] at hM
      rw [hE, hL]
      (refine R.stepU ?_; (repeat' (first | (with_reducible refine And.intro ?_ ?_) | (with_reducible intro _))); all_goals refine R.Lft.mk ?_)
      · exact ⟨rfl, R.Own.below (by assumption)⟩
      · have h : (!cutsB L) = false := by assumption
        rw [hc] at h
        cases h
set_option maxHeartbeats 4000000 in
theorem weighParts_f (v : Int) (hv : In64 v) (A : Option Addr) (n c : Nat) (L : List P2) (w : World) (hA : R.Inp [] w A n 2 (L.flatMap cP2)) (hn : n = L.length) (hb : n ≤ c) (hb2 : n ≤ 9223372036854775807) (hG : ∀ x ∈ L, In64 x.a ∧ In64 x.b) (hl : n ≤ 100) (ho : okW v = false) (hd : v < 0 ∨ (0 ≤ v ∧ 2147483648 < v)) : Calls Try.prog 3 #[.int .i64 v, .slice A n c] w fun e w' => e = .returned (.bool true) ∧ Below w.heap.size w w' := by
  have hM := R.Own.start [] w
  refine R.calls_of_WC (fn := Try.f3) Try.func3 rfl Try.ntmps3 (Nat.le_of_ble_eq_true rfl) ?_
  (refine R.stepV ?_; (repeat' (first | (with_reducible refine And.intro ?_ ?_) | (with_reducible intro _))); all_goals refine R.Lft.mk ?_)
  refine R.WO_call2 rfl rfl R.vv R.vv ?_
  refine (parts14_any v hv A n c L _ ((R.ohm : R.Own [] w _ []).inpIn hA) hn hb hb2 hG).mono ?_
  rintro _ w2 ⟨A1, c1, rfl, hG1⟩
  have hM := R.Own.give (R.ohm : R.Own [] w _ []) hG1
  refine ⟨_, rfl, ?_⟩
  rcases hd with hd | hd
  all_goals
    (refine R.stepV ?_; (repeat' (first | (with_reducible refine And.intro ?_ ?_) | (with_reducible intro _))); all_goals refine R.Lft.mk ?_)
    refine R.WC_loop (fun k : Nat => [(0, .int .i64 v), (1, .slice A n c), (4, .bool false), (5, .slice A1 (partsL v L).length c1), (6, .int .i64 (partsE v L)), (7, .bool false), (8, .int .i64 (k : Nat))])
      (fun k w3 => k ≤ n ∧ R.Own [] w w3 [.row A1 (partsL v L).length c1 3 1 ((partsL v L).flatMap R.cI)]) (fun k => n - k) ⟨0, ⟨rfl, rfl, rfl, rfl, rfl, R.viaB rfl (by simp <;> omega), rfl, trivial⟩, by omega, R.ohm⟩ ?_
    clear hM hG1
    rintro k f w3 ⟨hk, hM⟩
    by_cases hlt : k < n
    · obtain ⟨q1, q2⟩ := hG _ (R.nth_mem (L := L) (i := k) (by omega))
      have hAs : ∃ a, A = some a := (R.Own.rdIn hM hA).some_ (by omega) (by decide)
      have E : (if okW v then partE v (nth L k).a (nth L k).b else 10) = 10 := if_neg (by rw [ho]; decide)
      have Q : (if okW v then partQ v (nth L k).a (nth L k).b else 0) = 0 := if_neg (by rw [ho]; decide)
      (refine R.stepU ?_; (repeat' (first | (with_reducible refine And.intro ?_ ?_) | (with_reducible intro _))); all_goals refine R.Lft.mk ?_)
      refine R.WC_planO [(0, false), (1, false), (2, false), (3, false), (4, false), (5, false), (6, false), (7, false), (8, false), (9, false), (10, false), (11, true), (12, false), (13, false), (14, false), (15, false), (16, false)] R.mixed (by decide +kernel) R.ohm ?_
      (refine R.stepU ?_; (repeat' (first | (with_reducible refine And.intro ?_ ?_) | (with_reducible intro _))); all_goals refine R.Lft.mk ?_)
      rw [E, Q]
      refine R.WC_planO [(0, false), (1, false), (2, false), (3, false), (4, false), (5, false), (6, false), (7, false), (8, false), (9, false), (10, false), (11, false), (12, false), (13, false), (14, false), (15, false), (16, false), (17, false), (18, false), (19, false), (20, false), (21, false), (22, false), (23, false), (24, false), (25, false), (26, false), (27, true), (28, false), (29, false), (30, false)] R.mixed (by decide +kernel) R.ohm ?_
      (refine R.stepU ?_; (repeat' (first | (with_reducible refine And.intro ?_ ?_) | (with_reducible intro _))); all_goals refine R.Lft.mk ?_)
      exact ⟨k + 1, ⟨rfl, rfl, rfl, rfl, rfl, rfl, R.viaI rfl (by omega), trivial⟩, ⟨by omega, by assumption⟩, by omega⟩
    · obtain rfl : k = n := by omega
      clear hlt
      have hE : partsE v L = 10 := by unfold partsE; rw [ho]; rfl
      have hL : partsL v L = [] := by unfold partsL; rw [ho]; rfl
      rw [hL] at hM
      rw [hE, hL]
      (refine R.stepV ?_; (repeat' (first | (with_reducible refine And.intro ?_ ?_) | (with_reducible intro _))); all_goals refine R.Lft.mk ?_; (all_goals (try (exact ⟨rfl, R.Own.below (by assumption)⟩))))
theorem weighParts_any (v : Int) (hv : In64 v) (A : Option Addr) (n c : Nat) (L : List P2) (w : World) (hA : R.Inp [] w A n 2 (L.flatMap cP2)) (hn : n = L.length) (hb : n ≤ c) (hb2 : n ≤ 9223372036854775807) (hG : ∀ x ∈ L, In64 x.a ∧ In64 x.b) : Calls Try.prog 3 #[.int .i64 v, .slice A n c] w fun e w' => e = .returned (.bool true) ∧ Below w.heap.size w w' := by
  by_cases hl : n ≤ 100
  · by_cases ho : okW v = true
    · exact weighParts_t v hv A n c L w hA hn hb hb2 hG hl ho
    · have ho2 : okW v = false := by simpa using ho
      refine weighParts_f v hv A n c L w hA hn hb hb2 hG hl ho2 ?_
      unfold okW at ho2
      simp at ho2
      omega
  · have hM := R.Own.start [] w
    refine R.calls_of_WC (fn := Try.f3) Try.func3 rfl Try.ntmps3 (Nat.le_of_ble_eq_true rfl) ?_
    (refine R.stepV ?_; (repeat' (first | (with_reducible refine And.intro ?_ ?_) | (with_reducible intro _))); all_goals refine R.Lft.mk ?_; (all_goals (try (exact ⟨rfl, R.Own.below (by assumption)⟩))))
set_option maxRecDepth 100000 in
theorem walk_WeighParts {H : Type} {enc : TypeId × Value → H} (W : World) (base : Nat) (args : Array Value) (ds : List (DataW H)) (ps : List MemPlace) (hA : DataW.TrodAll enc Try.prog W 0 (fun _ => true) true [3, 22] args.toList ds ps)
    (hval : ∀ (j : Nat) t v, #[3, 22][j]? = some t → args[j]? = some v → Value.okWide Try.prog W .any base t v) :
    Calls Try.prog 3 args W fun e W' => e = .returned (.bool true) ∧ Below W.heap.size W W' := by
  obtain ⟨v0, v1, d0, d1, p0, p1, rfl, rfl, rfl, h0, h1⟩ := trodAll_two hA
  obtain ⟨b, rfl, rfl, rfl, wb⟩ := open_int (k := .i64) (by kernel_rfl) (hval 0 3 v0 rfl rfl) h0
  obtain ⟨z1, q1, ⟨g1, g2, g3, g4⟩, a1, b1⟩ := R.open_arg (hval 1 22 v1 rfl rfl) h1
  obtain rfl := b1 (by kernel_rfl) _ rfl
  exact weighParts_any b (by have := bounds_i64 wb; unfold In64; omega) z1.A z1.n z1.c z1.L W g1 g2 (by omega) (by omega) (fun x hx => g4 x hx)
end Go.Proofs.Ytoainfnhmdcpoaa
