/- The law RankNeeds. -/
import Derived.Test.YtmmfndmfibbhcaaRank3
import Derived.Test.YtmmfndmfibbhcaaOpnB
namespace Go.Proofs.Ytmmfndmfibbhcaa
open Go.ChangeShapes Go.WideShapes Go.ChangeAt Go.RowKit
open R (In64 InU64 lo64 nth)

theorem asks2 (a b c : Int) (w : World) : Calls Try.prog 20 #[.int .i64 a, .int .i64 b, .int .i64 c] w fun e w' => e = .returned (.bool true) ∧ w = w' := by
  refine R.calls_of_WC (fn := Try.f20) Try.func20 rfl Try.ntmps20 (Nat.le_of_ble_eq_true rfl) ?_
  (refine R.step ?_; (repeat' (first | (with_reducible refine And.intro ?_ ?_) | (with_reducible intro _))); all_goals refine R.Lft.mk ?_)
  exact ⟨rfl, rfl⟩
theorem keep_none : ∀ (l pre : List Link), keepFrom (fun _ _ => true) pre l = []
  | [], _ => rfl
  | x :: l, pre => by simp [keepFrom, keep_none l]
instance con_awake23 : R.ConB Try.prog 17 #[] Unit (fun _ _ => True) (fun _ => .bool true) := ⟨fun _ w _ => awake23 w⟩
set_option maxHeartbeats 4000000 in
theorem rankNeeds_any (v : Int) (I O : R.Sl Item) (T : R.Sl Bool) (w : World) (hI : R.Inp [] w I.A I.n 2 (I.L.flatMap cItem)) (hIn : I.n = I.L.length) (hO : R.Inp [] w O.A O.n 2 (O.L.flatMap cItem)) (hOn : O.n = O.L.length)
    (hT : R.Inp [] w T.A T.n 1 (T.L.flatMap R.cB)) (hTn : T.n = T.L.length) :
    Calls Try.prog 3 #[.int .i64 v, .agg #[.slice I.A I.n I.c, .slice O.A O.n O.c], .slice T.A T.n T.c] w fun e w' => e = .returned (.bool true) ∧ Below w.heap.size w w' := by
  have hM := R.Own.start [] w
  refine R.calls_of_WC (fn := Try.f3) Try.func3 rfl Try.ntmps3 (Nat.le_of_ble_eq_true rfl) ?_
  (refine R.step ?_; (repeat' (first | (with_reducible refine And.intro ?_ ?_) | (with_reducible intro _))); all_goals refine R.Lft.mk ?_; (all_goals (try (exact ⟨rfl, R.Own.below (by assumption)⟩))))
  rename_i g3 w1 h1 g4 w2 h2 g5 w3 h3 c1 c2 c3 A0 c0 w4 h4 g7 w5 h5 w6 hM
  have hM : R.Own [] w w6 [.blk g4 24 [.slice I.A I.n I.c, .slice O.A O.n O.c], .blk g7 _ [.slice A0 0 c0], .row A0 0 c0 30 4 [], .blk g3 _ [.int .i64 v], .blk g5 _ [.slice T.A T.n T.c]] :=
    R.pk (r := .blk g4 _ _) (R.pk (r := .blk g7 _ _) (R.pk (r := .row A0 _ _ _ _ _) (R.pk (r := .blk g3 _ _) (R.pk (r := .blk g5 _ _) hM))))
  clear h1 h2 h3 h4 h5
  by_cases hmay : mayI I.L = true ∧ mayI O.L = true
  · obtain ⟨hm1, hm2⟩ := hmay
    have hlen := pairsOf_len v O.L I.L
    have hlen2 : (pairsOf v I.L O.L).length ≤ 900 := by
      have : I.L.length * O.L.length ≤ 30 * 30 := Nat.mul_le_mul (by omega) (by omega)
      omega
    have hmid : ∀ x ∈ pairsOf v I.L O.L, x.mid = v := by
      intro x hx
      unfold pairsOf pairs1 at hx
      obtain ⟨a, _, hx⟩ := List.mem_flatMap.1 hx
      obtain ⟨b, _, rfl⟩ := List.mem_map.1 hx
      rfl
    refine R.WO_call4 rfl rfl (by first | exact R.eI rfl | exact R.eB rfl | exact R.eS rfl | exact R.eA rfl | exact R.eP rfl | exact R.eStr rfl | exact R.eT rfl | exact R.eM rfl | exact R.eF rfl | exact R.eF0 rfl | exact R.eP0 rfl | exact R.eQ rfl) (by first | exact R.eI rfl | exact R.eB rfl | exact R.eS rfl | exact R.eA rfl | exact R.eP rfl | exact R.eStr rfl | exact R.eT rfl | exact R.eM rfl | exact R.eF rfl | exact R.eF0 rfl | exact R.eP0 rfl | exact R.eQ rfl) (by first | exact R.eI rfl | exact R.eB rfl | exact R.eS rfl | exact R.eA rfl | exact R.eP rfl | exact R.eStr rfl | exact R.eT rfl | exact R.eM rfl | exact R.eF rfl | exact R.eF0 rfl | exact R.eP0 rfl | exact R.eQ rfl) (by first | exact R.eI rfl | exact R.eB rfl | exact R.eS rfl | exact R.eA rfl | exact R.eP rfl | exact R.eStr rfl | exact R.eT rfl | exact R.eM rfl | exact R.eF rfl | exact R.eF0 rfl | exact R.eP0 rfl | exact R.eQ rfl) ?_
    refine (needed_yes v I.A O.A I.n O.n I.c O.c I.L O.L 19 [.pointer (some ⟨g7, 0, none⟩), .pointer (some ⟨g3, 0, none⟩), .pointer (some ⟨g5, 0, none⟩)] (told1 T.L) (RA g7 g3 g5 _ _ v T) _ w6
      (R.Own.inpInF (l := [_]) hM hI) hIn (R.Own.inpInF (l := [_]) hM hO) hOn hm1 hm2 (asks g7 g3 g5 _ _ v T _ w6 _ (R.Own.inpInF (l := [_]) hM hT) hTn (by omega) (by omega) hmid) ⟨A0, c0, rfl⟩ (R.Own.has (l := [_]) hM)).mono ?_
    rintro e w7 ⟨A1, k1, l1, rfl, ⟨A2, k2, rfl⟩, hO1⟩
    have hM : R.Own [] w w7 [_, _, _, _, _, _] := R.Own.callF (l := [_]) hM hO1
    refine ⟨_, rfl, ?_⟩
    have hkl := keep_len (told1 T.L) (pairsOf v I.L O.L) []
    generalize hkeep : keepFrom (told1 T.L) [] (pairsOf v I.L O.L) = keep at *
    generalize hall : pairsOf v I.L O.L = all at *
    (refine R.step ?_; (repeat' (first | (with_reducible refine And.intro ?_ ?_) | (with_reducible intro _))); all_goals refine R.Lft.mk ?_; (all_goals (try (exact ⟨rfl, R.Own.below (by assumption)⟩))))
    refine R.WO_call4 rfl rfl (by first | exact R.eI rfl | exact R.eB rfl | exact R.eS rfl | exact R.eA rfl | exact R.eP rfl | exact R.eStr rfl | exact R.eT rfl | exact R.eM rfl | exact R.eF rfl | exact R.eF0 rfl | exact R.eP0 rfl | exact R.eQ rfl) (by first | exact R.eI rfl | exact R.eB rfl | exact R.eS rfl | exact R.eA rfl | exact R.eP rfl | exact R.eStr rfl | exact R.eT rfl | exact R.eM rfl | exact R.eF rfl | exact R.eF0 rfl | exact R.eP0 rfl | exact R.eQ rfl) (by first | exact R.eI rfl | exact R.eB rfl | exact R.eS rfl | exact R.eA rfl | exact R.eP rfl | exact R.eStr rfl | exact R.eT rfl | exact R.eM rfl | exact R.eF rfl | exact R.eF0 rfl | exact R.eP0 rfl | exact R.eQ rfl) (by first | exact R.eI rfl | exact R.eB rfl | exact R.eS rfl | exact R.eA rfl | exact R.eP rfl | exact R.eStr rfl | exact R.eT rfl | exact R.eM rfl | exact R.eF rfl | exact R.eF0 rfl | exact R.eP0 rfl | exact R.eQ rfl) ?_
    refine (needed_yes v I.A O.A I.n O.n I.c O.c I.L O.L 20 [] (fun _ _ => true) (fun _ lc => lc = []) [] w7
      (hM.inpIn hI) hIn (hM.inpIn hO) hOn hm1 hm2 (fun pre x suf lc w3 _ hlc _ => (asks2 _ _ _ w3).mono fun e w4 ⟨he, hw⟩ => ⟨he, [], rfl, by subst hw hlc; exact R.Own.start _ _⟩) rfl ⟨by simp, by simp [R.keysOf]⟩).mono ?_
    rintro e w8 ⟨A3, k3, l3, rfl, rfl, hO2⟩
    rw [keep_none] at hO2 ⊢
    have hM := hM.give hO2.gives
    refine ⟨_, rfl, ?_⟩
    have hmI := fun w1 hb => refMay_any I.A I.n I.c I.L w1 hb hIn (by omega)
    have hmO := fun w1 hb => refMay_any O.A O.n O.c O.L w1 hb hOn (by omega)
    rw [hm1] at hmI
    rw [hm2] at hmO
    (refine R.step ?_; (repeat' (first | (with_reducible refine And.intro ?_ ?_) | (with_reducible intro _))); all_goals refine R.Lft.mk ?_; (all_goals (try (exact ⟨rfl, R.Own.below (by assumption)⟩))))
    refine R.WO_call1 rfl rfl (by first | exact R.eI rfl | exact R.eB rfl | exact R.eS rfl | exact R.eA rfl | exact R.eP rfl | exact R.eStr rfl | exact R.eT rfl | exact R.eM rfl | exact R.eF rfl | exact R.eF0 rfl | exact R.eP0 rfl | exact R.eQ rfl) ?_
    refine (hmI _ (hM.inpIn hI)).mono ?_
    rintro e w' ⟨rfl, rfl⟩
    refine ⟨_, rfl, ?_⟩
    (refine R.step ?_; (repeat' (first | (with_reducible refine And.intro ?_ ?_) | (with_reducible intro _))); all_goals refine R.Lft.mk ?_; (all_goals (try (exact ⟨rfl, R.Own.below (by assumption)⟩))))
    refine R.WO_call1 rfl rfl (by first | exact R.eI rfl | exact R.eB rfl | exact R.eS rfl | exact R.eA rfl | exact R.eP rfl | exact R.eStr rfl | exact R.eT rfl | exact R.eM rfl | exact R.eF rfl | exact R.eF0 rfl | exact R.eP0 rfl | exact R.eQ rfl) ?_
    refine (hmO _ (hM.inpIn hO)).mono ?_
    rintro e w' ⟨rfl, rfl⟩
    refine ⟨_, rfl, ?_⟩
    (refine R.step ?_; (repeat' (first | (with_reducible refine And.intro ?_ ?_) | (with_reducible intro _))); all_goals refine R.Lft.mk ?_; (all_goals (try (exact ⟨rfl, R.Own.below (by assumption)⟩))))
    refine R.WO_call3 rfl rfl (by first | exact R.eI rfl | exact R.eB rfl | exact R.eS rfl | exact R.eA rfl | exact R.eP rfl | exact R.eStr rfl | exact R.eT rfl | exact R.eM rfl | exact R.eF rfl | exact R.eF0 rfl | exact R.eP0 rfl | exact R.eQ rfl) (by first | exact R.eI rfl | exact R.eB rfl | exact R.eS rfl | exact R.eA rfl | exact R.eP rfl | exact R.eStr rfl | exact R.eT rfl | exact R.eM rfl | exact R.eF rfl | exact R.eF0 rfl | exact R.eP0 rfl | exact R.eQ rfl) (by first | exact R.eI rfl | exact R.eB rfl | exact R.eS rfl | exact R.eA rfl | exact R.eP rfl | exact R.eStr rfl | exact R.eT rfl | exact R.eM rfl | exact R.eF rfl | exact R.eF0 rfl | exact R.eP0 rfl | exact R.eQ rfl) ?_
    refine (pairs23_any v I.A O.A I.n O.n I.c O.c I.L O.L _ (hM.inpIn hI) hIn (hM.inpIn hO) hOn hm1 hm2).mono ?_
    rintro e w9 ⟨A4, k4, rfl, hG⟩
    have hM := hM.give hG
    refine ⟨_, rfl, ?_⟩
    rw [hall] at hM ⊢
    (refine R.step ?_; (repeat' (first | (with_reducible refine And.intro ?_ ?_) | (with_reducible intro _))); all_goals refine R.Lft.mk ?_; (all_goals (try (exact ⟨rfl, R.Own.below (by assumption)⟩))))
    rename_i A5 k5 w10 hM
    refine R.WC_loop (fun (i : Nat × Option Addr × Nat) => [(3, .pointer (some ⟨g3, 0, none⟩)), (4, .pointer (some ⟨g4, 0, none⟩)), (5, .pointer (some ⟨g5, 0, none⟩)), (6, .bool false), (7, .pointer (some ⟨g7, 0, none⟩)), (8, .slice A1 keep.length k1), (9, .slice A3 0 k3), (10, .slice A4 all.length k4), (11, .slice i.2.1 (keepFrom (told1 T.L) [] (all.take i.1)).length i.2.2), (12, .int .i64 (i.1 : Nat))])
      (fun i w1 => i.1 ≤ all.length ∧ R.Own [] w w1 [.row i.2.1 (keepFrom (told1 T.L) [] (all.take i.1)).length i.2.2 30 4 ((keepFrom (told1 T.L) [] (all.take i.1)).flatMap cLink), .row A4 all.length k4 30 4 (all.flatMap cLink), .row A3 0 k3 30 4 [],
        .blk g4 24 [.slice I.A I.n I.c, .slice O.A O.n O.c], .row A1 keep.length k1 30 4 (keep.flatMap cLink), .blk g7 _ [.slice A2 all.length k2], .row A2 all.length k2 30 4 (all.flatMap cLink), .blk g3 _ [.int .i64 v], .blk g5 _ [.slice T.A T.n T.c]]) (fun i => all.length - i.1)
      ⟨(0, A5, k5), ⟨rfl, rfl, rfl, rfl, rfl, rfl, rfl, rfl, rfl, rfl, trivial⟩, by omega, hM⟩ ?_
    rintro ⟨i, A6, k6⟩ f w11 ⟨hi, hM⟩
    simp only at hi hM ⊢
    by_cases hlt : i < all.length
    · have hks := keep_snoc (told1 T.L) (all.take i) [] (nth all i)
      rw [← take_snoc hlt, List.nil_append] at hks
      have hk6 := keep_len (told1 T.L) (all.take i) []
      have hti : (all.take i).length = i := by rw [List.length_take]; omega
      have htold : told1 T.L (all.take i) (nth all i) = (decide (i < T.L.length) && nth T.L i) := by unfold told1; rw [hti]
      rw [htold] at hks
      (refine R.step ?_; (repeat' (first | (with_reducible refine And.intro ?_ ?_) | (with_reducible intro _))); all_goals refine R.Lft.mk ?_; (all_goals (try (exact ⟨rfl, R.Own.below (by assumption)⟩))))
      · rename_i hge _ _ _ _ A7 k7 w12 hM
        have hno : (decide (i < T.L.length) && nth T.L i) = false := by rw [decide_eq_false (by omega)]; rfl
        rw [hno] at hks
        simp only [Bool.false_eq_true, if_false] at hks
        exact ⟨(i + 1, A7, k7), ⟨rfl, rfl, rfl, rfl, rfl, rfl, rfl, rfl, R.viaS rfl (by rw [hks]; simp), R.viaI rfl (by omega), trivial⟩, ⟨by simp only; omega, by simp only; rw [hks]; simpa using hM⟩, by simp only; omega⟩
      · rename_i hlt2 hnot _ _ _ _ A7 k7 w12 hM
        have hno : (decide (i < T.L.length) && nth T.L i) = false := by rw [show nth T.L i = false by simpa using hnot]; simp
        rw [hno] at hks
        simp only [Bool.false_eq_true, if_false] at hks
        exact ⟨(i + 1, A7, k7), ⟨rfl, rfl, rfl, rfl, rfl, rfl, rfl, rfl, R.viaS rfl (by rw [hks]; simp), R.viaI rfl (by omega), trivial⟩, ⟨by simp only; omega, by simp only; rw [hks]; simpa using hM⟩, by simp only; omega⟩
      · rename_i hlt2 hnot
        have hno : (decide (i < T.L.length) && nth T.L i) = true := by rw [show nth T.L i = true by simpa using hnot, decide_eq_true (by omega)]; rfl
        rw [hno] at hks
        simp only [if_true, List.append_nil] at hks
        exact ⟨(i + 1, A6, k6), ⟨rfl, rfl, rfl, rfl, rfl, rfl, rfl, rfl, R.viaS rfl (by rw [hks]), R.viaI rfl (by omega), trivial⟩, ⟨by simp only; omega, by simp only; rw [hks]; exact hM⟩, by simp only; omega⟩
    · obtain rfl : i = all.length := by omega
      rw [List.take_length, hkeep] at hM
      rw [List.take_length, hkeep]
      (refine R.step ?_; (repeat' (first | (with_reducible refine And.intro ?_ ?_) | (with_reducible intro _))); all_goals refine R.Lft.mk ?_; (all_goals (try (exact ⟨rfl, R.Own.below (by assumption)⟩))))
      refine R.WO_call2 rfl rfl (by first | exact R.eI rfl | exact R.eB rfl | exact R.eS rfl | exact R.eA rfl | exact R.eP rfl | exact R.eStr rfl | exact R.eT rfl | exact R.eM rfl | exact R.eF rfl | exact R.eF0 rfl | exact R.eP0 rfl | exact R.eQ rfl) (by first | exact R.eI rfl | exact R.eB rfl | exact R.eS rfl | exact R.eA rfl | exact R.eP rfl | exact R.eStr rfl | exact R.eT rfl | exact R.eM rfl | exact R.eF rfl | exact R.eF0 rfl | exact R.eP0 rfl | exact R.eQ rfl) ?_
      refine (same23_any A2 A4 all.length all.length k2 k4 all all _ (hM.inp R.memb) rfl (hM.inp R.memb) rfl (by omega)).mono ?_
      rintro e w12 ⟨rfl, hb⟩
      have hM := hM.call hb
      refine ⟨_, rfl, ?_⟩
      rw [decide_eq_true rfl]
      (refine R.step ?_; (repeat' (first | (with_reducible refine And.intro ?_ ?_) | (with_reducible intro _))); all_goals refine R.Lft.mk ?_; (all_goals (try (exact ⟨rfl, R.Own.below (by assumption)⟩))))
      refine R.WO_call2 rfl rfl (by first | exact R.eI rfl | exact R.eB rfl | exact R.eS rfl | exact R.eA rfl | exact R.eP rfl | exact R.eStr rfl | exact R.eT rfl | exact R.eM rfl | exact R.eF rfl | exact R.eF0 rfl | exact R.eP0 rfl | exact R.eQ rfl) (by first | exact R.eI rfl | exact R.eB rfl | exact R.eS rfl | exact R.eA rfl | exact R.eP rfl | exact R.eStr rfl | exact R.eT rfl | exact R.eM rfl | exact R.eF rfl | exact R.eF0 rfl | exact R.eP0 rfl | exact R.eQ rfl) ?_
      refine (same23_any A1 A6 keep.length keep.length k1 k6 keep keep _ (hM.inp R.memb) rfl (hM.inp R.memb) rfl (by omega)).mono ?_
      rintro e w13 ⟨rfl, hb⟩
      have hM := hM.call hb
      refine ⟨_, rfl, ?_⟩
      rw [decide_eq_true rfl]
      (refine R.step ?_; (repeat' (first | (with_reducible refine And.intro ?_ ?_) | (with_reducible intro _))); all_goals refine R.Lft.mk ?_; (all_goals (try (exact ⟨rfl, R.Own.below (by assumption)⟩))))
      refine R.WO_call4 rfl rfl (by first | exact R.eI rfl | exact R.eB rfl | exact R.eS rfl | exact R.eA rfl | exact R.eP rfl | exact R.eStr rfl | exact R.eT rfl | exact R.eM rfl | exact R.eF rfl | exact R.eF0 rfl | exact R.eP0 rfl | exact R.eQ rfl) (by first | exact R.eI rfl | exact R.eB rfl | exact R.eS rfl | exact R.eA rfl | exact R.eP rfl | exact R.eStr rfl | exact R.eT rfl | exact R.eM rfl | exact R.eF rfl | exact R.eF0 rfl | exact R.eP0 rfl | exact R.eQ rfl) (by first | exact R.eI rfl | exact R.eB rfl | exact R.eS rfl | exact R.eA rfl | exact R.eP rfl | exact R.eStr rfl | exact R.eT rfl | exact R.eM rfl | exact R.eF rfl | exact R.eF0 rfl | exact R.eP0 rfl | exact R.eQ rfl) (by first | exact R.eI rfl | exact R.eB rfl | exact R.eS rfl | exact R.eA rfl | exact R.eP rfl | exact R.eStr rfl | exact R.eT rfl | exact R.eM rfl | exact R.eF rfl | exact R.eF0 rfl | exact R.eP0 rfl | exact R.eQ rfl) ?_
      refine (needed_nil v I.A O.A I.n O.n I.c O.c _).mono ?_
      rintro e w14 ⟨rfl, rfl⟩
      refine ⟨_, rfl, ?_⟩
      (refine R.step ?_; (repeat' (first | (with_reducible refine And.intro ?_ ?_) | (with_reducible intro _))); all_goals refine R.Lft.mk ?_; (all_goals (try (exact ⟨rfl, R.Own.below (by assumption)⟩))))
  · have hno : (mayI I.L && mayI O.L) = false := by
      cases h1 : mayI I.L <;> cases h2 : mayI O.L <;> simp_all
    refine R.WO_call4 rfl rfl (by first | exact R.eI rfl | exact R.eB rfl | exact R.eS rfl | exact R.eA rfl | exact R.eP rfl | exact R.eStr rfl | exact R.eT rfl | exact R.eM rfl | exact R.eF rfl | exact R.eF0 rfl | exact R.eP0 rfl | exact R.eQ rfl) (by first | exact R.eI rfl | exact R.eB rfl | exact R.eS rfl | exact R.eA rfl | exact R.eP rfl | exact R.eStr rfl | exact R.eT rfl | exact R.eM rfl | exact R.eF rfl | exact R.eF0 rfl | exact R.eP0 rfl | exact R.eQ rfl) (by first | exact R.eI rfl | exact R.eB rfl | exact R.eS rfl | exact R.eA rfl | exact R.eP rfl | exact R.eStr rfl | exact R.eT rfl | exact R.eM rfl | exact R.eF rfl | exact R.eF0 rfl | exact R.eP0 rfl | exact R.eQ rfl) (by first | exact R.eI rfl | exact R.eB rfl | exact R.eS rfl | exact R.eA rfl | exact R.eP rfl | exact R.eStr rfl | exact R.eT rfl | exact R.eM rfl | exact R.eF rfl | exact R.eF0 rfl | exact R.eP0 rfl | exact R.eQ rfl) ?_
    refine (needed_no v I.A O.A I.n O.n I.c O.c I.L O.L _ [.pointer (some ⟨g7, 0, none⟩), .pointer (some ⟨g3, 0, none⟩), .pointer (some ⟨g5, 0, none⟩)] _ (hM.inpIn hI) hIn (hM.inpIn hO) hOn hno).mono ?_
    rintro e w7 ⟨rfl, hb⟩
    have hM := hM.call hb
    refine ⟨_, rfl, ?_⟩
    (refine R.step ?_; (repeat' (first | (with_reducible refine And.intro ?_ ?_) | (with_reducible intro _))); all_goals refine R.Lft.mk ?_; (all_goals (try (exact ⟨rfl, R.Own.below (by assumption)⟩))))
    refine R.WO_call4 rfl rfl (by first | exact R.eI rfl | exact R.eB rfl | exact R.eS rfl | exact R.eA rfl | exact R.eP rfl | exact R.eStr rfl | exact R.eT rfl | exact R.eM rfl | exact R.eF rfl | exact R.eF0 rfl | exact R.eP0 rfl | exact R.eQ rfl) (by first | exact R.eI rfl | exact R.eB rfl | exact R.eS rfl | exact R.eA rfl | exact R.eP rfl | exact R.eStr rfl | exact R.eT rfl | exact R.eM rfl | exact R.eF rfl | exact R.eF0 rfl | exact R.eP0 rfl | exact R.eQ rfl) (by first | exact R.eI rfl | exact R.eB rfl | exact R.eS rfl | exact R.eA rfl | exact R.eP rfl | exact R.eStr rfl | exact R.eT rfl | exact R.eM rfl | exact R.eF rfl | exact R.eF0 rfl | exact R.eP0 rfl | exact R.eQ rfl) (by first | exact R.eI rfl | exact R.eB rfl | exact R.eS rfl | exact R.eA rfl | exact R.eP rfl | exact R.eStr rfl | exact R.eT rfl | exact R.eM rfl | exact R.eF rfl | exact R.eF0 rfl | exact R.eP0 rfl | exact R.eQ rfl) ?_
    refine (needed_no v I.A O.A I.n O.n I.c O.c I.L O.L _ [] _ (hM.inpIn hI) hIn (hM.inpIn hO) hOn hno).mono ?_
    rintro e w8 ⟨rfl, hb⟩
    have hM := hM.call hb
    refine ⟨_, rfl, ?_⟩
    (refine R.step ?_; (repeat' (first | (with_reducible refine And.intro ?_ ?_) | (with_reducible intro _))); all_goals refine R.Lft.mk ?_; (all_goals (try (exact ⟨rfl, R.Own.below (by assumption)⟩))))
    have hmI := fun w1 hb => refMay_any I.A I.n I.c I.L w1 hb hIn (by omega)
    have hmO := fun w1 hb => refMay_any O.A O.n O.c O.L w1 hb hOn (by omega)
    cases h1 : mayI I.L
    · rw [h1] at hmI
      refine R.WO_call1 rfl rfl (by first | exact R.eI rfl | exact R.eB rfl | exact R.eS rfl | exact R.eA rfl | exact R.eP rfl | exact R.eStr rfl | exact R.eT rfl | exact R.eM rfl | exact R.eF rfl | exact R.eF0 rfl | exact R.eP0 rfl | exact R.eQ rfl) ?_
      refine (hmI _ (hM.inpIn hI)).mono ?_
      rintro e w' ⟨rfl, rfl⟩
      refine ⟨_, rfl, ?_⟩
      (refine R.step ?_; (repeat' (first | (with_reducible refine And.intro ?_ ?_) | (with_reducible intro _))); all_goals refine R.Lft.mk ?_; (all_goals (try (exact ⟨rfl, R.Own.below (by assumption)⟩))))
    · rw [h1] at hmI hno
      rw [show mayI O.L = false by simpa using hno] at hmO
      refine R.WO_call1 rfl rfl (by first | exact R.eI rfl | exact R.eB rfl | exact R.eS rfl | exact R.eA rfl | exact R.eP rfl | exact R.eStr rfl | exact R.eT rfl | exact R.eM rfl | exact R.eF rfl | exact R.eF0 rfl | exact R.eP0 rfl | exact R.eQ rfl) ?_
      refine (hmI _ (hM.inpIn hI)).mono ?_
      rintro e w' ⟨rfl, rfl⟩
      refine ⟨_, rfl, ?_⟩
      (refine R.step ?_; (repeat' (first | (with_reducible refine And.intro ?_ ?_) | (with_reducible intro _))); all_goals refine R.Lft.mk ?_; (all_goals (try (exact ⟨rfl, R.Own.below (by assumption)⟩))))
      refine R.WO_call1 rfl rfl (by first | exact R.eI rfl | exact R.eB rfl | exact R.eS rfl | exact R.eA rfl | exact R.eP rfl | exact R.eStr rfl | exact R.eT rfl | exact R.eM rfl | exact R.eF rfl | exact R.eF0 rfl | exact R.eP0 rfl | exact R.eQ rfl) ?_
      refine (hmO _ (hM.inpIn hO)).mono ?_
      rintro e w' ⟨rfl, rfl⟩
      refine ⟨_, rfl, ?_⟩
      (refine R.step ?_; (repeat' (first | (with_reducible refine And.intro ?_ ?_) | (with_reducible intro _))); all_goals refine R.Lft.mk ?_; (all_goals (try (exact ⟨rfl, R.Own.below (by assumption)⟩))))
set_option maxRecDepth 100000 in
theorem walk_RankNeeds {H : Type} {enc : TypeId × Value → H} (W : World) (base : Nat) (args : Array Value) (ds : List (DataW H)) (ps : List MemPlace) (hA : DataW.TrodAll enc Try.prog W 0 (fun _ => true) true [3, 24, 25] args.toList ds ps)
    (hval : ∀ (j : Nat) t v, #[3, 24, 25][j]? = some t → args[j]? = some v → Value.okWide Try.prog W .any base t v) :
    Calls Try.prog 3 args W fun e W' => e = .returned (.bool true) ∧ Below W.heap.size W W' := by
  obtain ⟨v0, v1, v2, d0, d1, d2, p0, p1, p2, rfl, rfl, rfl, h0, h1, h2⟩ := trodAll_three hA
  obtain ⟨z0, q0, g0, a0, b0⟩ := R.open_arg (hval 0 3 v0 rfl rfl) h0
  obtain ⟨z1, q1, g1, a1, b1⟩ := R.open_arg (hval 1 24 v1 rfl rfl) h1
  obtain ⟨z2, q2, g2, a2, b2⟩ := R.open_arg (hval 2 25 v2 rfl rfl) h2
  obtain rfl := b0 (by kernel_rfl) _ rfl
  obtain rfl := a1 (by kernel_rfl)
  obtain rfl := b2 (by kernel_rfl) _ rfl
  exact rankNeeds_any z0 z1.in_ z1.out z2 W g1.1.1 g1.1.2.1 g1.2.1 g1.2.2.1 g2.1 g2.2.1
end Go.Proofs.Ytmmfndmfibbhcaa
