/- turns.Path. turns.From, turns.Into. -/
import Derived.Test.YtgciglnkofoacaaGreatTr
namespace Go.Proofs.YtgciglnkofoacaaGreat
open Go.RowKit
open R (In64 InU64 lo64 nth)

/-- The first way that may not be gone along. -/
def badK (x : Nt) (r : Rl) (L : List Int) (k : Nat) : Bool := !wayB x (nth L k) || (decide (0 < k) && !takeB x r (nth L (k - 1)) (nth L k))
theorem first_bad (p : Nat → Bool) : ∀ n : Nat, ∃ k, k ≤ n ∧ (∀ i, i < k → p i = false) ∧ (k < n → p k = true)
  | 0 => ⟨0, Nat.le_refl _, fun i hi => absurd hi (Nat.not_lt_zero _), fun h => absurd h (Nat.not_lt_zero _)⟩
  | n + 1 => by
    obtain ⟨k, h1, h2, h3⟩ := first_bad p n
    by_cases h : k < n
    · exact ⟨k, by omega, h2, fun _ => h3 h⟩
    · obtain rfl : k = n := by omega
      cases hk : p k with
      | true => exact ⟨k, by omega, h2, fun _ => hk⟩
      | false =>
        refine ⟨k + 1, Nat.le_refl _, fun i hi => ?_, fun h => absurd h (Nat.lt_irrefl _)⟩
        rcases Nat.lt_or_ge i k with g | g
        · exact h2 i g
        · obtain rfl : i = k := by omega
          exact hk
theorem bad_way {x : Nt} {r : Rl} {L : List Int} {k : Nat} (h : wayB x (nth L k) = false) : badK x r L k = true := by unfold badK; rw [h]; rfl
theorem bad_not {x : Nt} {r : Rl} {L : List Int} {k : Nat} (h : badK x r L k = false) : wayB x (nth L k) = true ∧ (0 < k → takeB x r (nth L (k - 1)) (nth L k) = true) := by
  unfold badK at h
  simp at h
  exact h
theorem bad_of {x : Nt} {r : Rl} {L : List Int} {k : Nat} (h : badK x r L k = true) : wayB x (nth L k) = false ∨ (wayB x (nth L k) = true ∧ 0 < k ∧ takeB x r (nth L (k - 1)) (nth L k) = false) := by
  unfold badK at h
  cases hw : wayB x (nth L k) with
  | false => exact .inl rfl
  | true =>
    rw [hw] at h
    simp at h
    exact .inr ⟨rfl, h⟩
theorem take_in {x : Nt} {r : Rl} {v u : Int} (h : takeB x r v u = true) : folB x v u = true ∧ turnB x r v u = true := by
  unfold takeB at h
  rwa [Bool.and_eq_true] at h
attribute [local irreducible] wayB tailV headV inW dieB folB turnB takeB rulesB badK in
set_option maxHeartbeats 4000000 in
theorem path_any (x : Nt) (r : Rl) (A : Option Addr) (n c : Nat) (L : List Int) (w : World) (hG : GNt w x) (hR : GRl w r) (hA : R.Inp [] w A n 1 (L.flatMap R.cI)) (hn : n = L.length) (hb : n ≤ 9223372036854775807) (hv : ∀ y ∈ L, In64 y) (hr : rulesB x r = true) (k : Nat) (hk : k ≤ n) (hk1 : ∀ i, i < k → badK x r L i = false) (hk2 : k < n → badK x r L k = true) :
    Calls Tryz.prog 16 #[.agg (cNt x).toArray, .agg (cRl r).toArray, .slice A n c] w fun e w' => e = .returned (.tuple #[.int .i64 (if k < n then (k : Nat) else 0), .bool (decide (k = n))]) ∧ Below w.heap.size w w' := by
  have hM := R.Own.start [] w
  have hL := hG.lasts
  have hLR := hR.lasts
  refine R.calls_of_WC (fn := Tryz.f16) Tryz.func16 rfl Tryz.ntmps16 (Nat.le_of_ble_eq_true rfl) ?_
  (refine R.stepV ?_; (repeat' (first | (with_reducible refine And.intro ?_ ?_) | (with_reducible intro _))); all_goals refine R.Lft.mk ?_)
  · exact nbw_t hr (by assumption)
  rename_i g1 _ _ g2 _ _ _ hM _
  refine R.WC_loop (fun j : Nat => [(2, .slice A n c), (3, .pointer (some ⟨g1, 0, none⟩)), (4, .pointer (some ⟨g2, 0, none⟩)), (6, .int .i64 0), (7, .bool false), (17, .slice A n c), (18, .int .i64 (n : Nat)), (19, .int .i64 (j : Nat))])
    (fun j w2 => j ≤ k ∧ R.Own [] w w2 [.blk g2 29 (cRl r), .blk g1 26 (cNt x)]) (fun j => n - j) ⟨0, ⟨rfl, rfl, rfl, rfl, rfl, rfl, rfl, rfl, trivial⟩, by omega, hM⟩ ?_
  clear hM
  rintro j f w2 ⟨hj, hM⟩
  by_cases hlt : j < n
  · have hAs : ∃ a, A = some a := (R.Own.rdIn hM hA).some_ (by omega) (by decide)
    have e : (((j : Nat) : Int) - 1).toNat = j - 1 := by omega
    have v1 := hv _ (R.nth_mem (L := L) (i := j) (by omega))
    have v2 : In64 (nth L (((j : Nat) : Int) - 1).toNat) := by rw [e]; exact hv _ (R.nth_mem (by omega))
    by_cases hjk : j < k
    · obtain ⟨b1, b2⟩ := bad_not (hk1 j hjk)
      by_cases h0 : 0 < j
      · obtain ⟨t1, t2⟩ := take_in (b2 h0)
        rw [← e] at t1 t2
        have t3 := (fol_way t1).1
        (refine R.stepU ?_; (repeat' (first | (with_reducible refine And.intro ?_ ?_) | (with_reducible intro _))); all_goals refine R.Lft.mk ?_)
        refine R.WC_planO [(0, false), (1, false), (2, false), (3, false), (4, false), (5, false), (6, false), (7, false), (8, false), (9, false), (10, false), (11, false), (12, false), (13, true), (14, false), (15, false), (16, false), (17, false), (18, false), (19, false), (20, false), (21, false), (22, false), (23, false), (24, true), (25, false), (26, false), (27, false), (28, false)] R.mixed (by decide +kernel) R.ohm ?_
        (refine R.stepU ?_; (repeat' (first | (with_reducible refine And.intro ?_ ?_) | (with_reducible intro _))); all_goals refine R.Lft.mk ?_)
        all_goals first
          | exact nbw_t b1 (by assumption)
          | exact nbw_t t1 (by assumption)
          | exact nbw_t t2 (by assumption)
          | exact ⟨j + 1, ⟨rfl, rfl, rfl, rfl, rfl, rfl, rfl, R.viaI rfl (by omega), trivial⟩, ⟨by omega, by assumption⟩, by omega⟩
          | (exfalso; omega)
      · (refine R.stepU ?_; (repeat' (first | (with_reducible refine And.intro ?_ ?_) | (with_reducible intro _))); all_goals refine R.Lft.mk ?_)
        refine R.WC_planO [(0, false), (1, false), (2, false), (3, false), (4, false), (5, false), (6, false), (7, false), (8, false), (9, false), (10, false), (11, false), (12, false), (13, true), (14, false), (15, false), (16, false), (17, false), (18, false), (19, false), (20, false), (21, false), (22, false), (23, false), (24, true), (25, false), (26, false), (27, false), (28, false)] R.mixed (by decide +kernel) R.ohm ?_
        (refine R.stepU ?_; (repeat' (first | (with_reducible refine And.intro ?_ ?_) | (with_reducible intro _))); all_goals refine R.Lft.mk ?_)
        all_goals first
          | exact nbw_t b1 (by assumption)
          | exact ⟨j + 1, ⟨rfl, rfl, rfl, rfl, rfl, rfl, rfl, R.viaI rfl (by omega), trivial⟩, ⟨by omega, by assumption⟩, by omega⟩
          | (exfalso; omega)
    · obtain rfl : j = k := by omega
      rcases bad_of (hk2 hlt) with b1 | ⟨b1, b2, b3⟩
      · (refine R.stepU ?_; (repeat' (first | (with_reducible refine And.intro ?_ ?_) | (with_reducible intro _))); all_goals refine R.Lft.mk ?_)
        refine R.WC_planO [(0, false), (1, false), (2, false), (3, false), (4, false), (5, false), (6, false), (7, false), (8, false), (9, false), (10, false), (11, false), (12, false), (13, true), (14, false), (15, false), (16, false), (17, false), (18, false), (19, false), (20, false), (21, false), (22, false), (23, false), (24, true), (25, false), (26, false), (27, false), (28, false)] R.mixed (by decide +kernel) R.ohm ?_
        (refine R.stepU ?_; (repeat' (first | (with_reducible refine And.intro ?_ ?_) | (with_reducible intro _))); all_goals refine R.Lft.mk ?_)
        all_goals first
          | exact nbw_f b1 (by assumption)
          | (refine ⟨?_, R.Own.below (by assumption)⟩
             rw [if_pos hlt, decide_eq_false (by omega)])
      · cases hf : folB x (nth L (((j : Nat) : Int) - 1).toNat) (nth L j) with
        | false =>
          (refine R.stepU ?_; (repeat' (first | (with_reducible refine And.intro ?_ ?_) | (with_reducible intro _))); all_goals refine R.Lft.mk ?_)
          refine R.WC_planO [(0, false), (1, false), (2, false), (3, false), (4, false), (5, false), (6, false), (7, false), (8, false), (9, false), (10, false), (11, false), (12, false), (13, true), (14, false), (15, false), (16, false), (17, false), (18, false), (19, false), (20, false), (21, false), (22, false), (23, false), (24, true), (25, false), (26, false), (27, false), (28, false)] R.mixed (by decide +kernel) R.ohm ?_
          (refine R.stepU ?_; (repeat' (first | (with_reducible refine And.intro ?_ ?_) | (with_reducible intro _))); all_goals refine R.Lft.mk ?_)
          all_goals first
            | exact nbw_t b1 (by assumption)
            | exact nbw_f hf (by assumption)
            | (exfalso; omega)
            | (refine ⟨?_, R.Own.below (by assumption)⟩
               rw [if_pos hlt, decide_eq_false (by omega)])
        | true =>
          have t3 := (fol_way hf).1
          have t2 : turnB x r (nth L (((j : Nat) : Int) - 1).toNat) (nth L j) = false := by
            have := b3
            rw [← e, take_t hf] at this
            exact this
          (refine R.stepU ?_; (repeat' (first | (with_reducible refine And.intro ?_ ?_) | (with_reducible intro _))); all_goals refine R.Lft.mk ?_)
          refine R.WC_planO [(0, false), (1, false), (2, false), (3, false), (4, false), (5, false), (6, false), (7, false), (8, false), (9, false), (10, false), (11, false), (12, false), (13, true), (14, false), (15, false), (16, false), (17, false), (18, false), (19, false), (20, false), (21, false), (22, false), (23, false), (24, true), (25, false), (26, false), (27, false), (28, false)] R.mixed (by decide +kernel) R.ohm ?_
          (refine R.stepU ?_; (repeat' (first | (with_reducible refine And.intro ?_ ?_) | (with_reducible intro _))); all_goals refine R.Lft.mk ?_)
          all_goals first
            | exact nbw_t b1 (by assumption)
            | exact nbw_t hf (by assumption)
            | exact nbw_f t2 (by assumption)
            | (exfalso; omega)
            | (refine ⟨?_, R.Own.below (by assumption)⟩
               rw [if_pos hlt, decide_eq_false (by omega)])
  · obtain rfl : j = n := by omega
    obtain rfl : j = k := by omega
    (refine R.stepV ?_; (repeat' (first | (with_reducible refine And.intro ?_ ?_) | (with_reducible intro _))); all_goals refine R.Lft.mk ?_)
    refine ⟨?_, R.Own.below (by assumption)⟩
    rw [if_neg (Nat.lt_irrefl _), decide_eq_true rfl]
theorem path_no (x : Nt) (r : Rl) (A : Option Addr) (n c : Nat) (w : World) (hG : GNt w x) (hR : GRl w r) (hr : rulesB x r = false) : Calls Tryz.prog 16 #[.agg (cNt x).toArray, .agg (cRl r).toArray, .slice A n c] w fun e w' => e = .returned (.tuple #[.int .i64 0, .bool false]) ∧ Below w.heap.size w w' := by
  have hM := R.Own.start [] w
  have hL := hG.lasts
  have hLR := hR.lasts
  refine R.calls_of_WC (fn := Tryz.f16) Tryz.func16 rfl Tryz.ntmps16 (Nat.le_of_ble_eq_true rfl) ?_
  (refine R.stepV ?_; (repeat' (first | (with_reducible refine And.intro ?_ ?_) | (with_reducible intro _))); all_goals refine R.Lft.mk ?_)
  · exact ⟨rfl, R.Own.below (by assumption)⟩
  · exact nbw_f hr (by assumption)
end Go.Proofs.YtgciglnkofoacaaGreat
namespace Go.Proofs.YtgciglnkofoacaaGreat
open Go.RowKit
open R (In64 InU64 lo64 nth)

attribute [local irreducible] wayB tailV headV inW dieB folB turnB takeB in
theorem into1_any (N : List Nt) (V : List Int) (Q : List Rl) (hN : N.length = 1) (hV : V.length = 1) (hQ : Q.length = 1) (g1 g2 g3 : Nat) (u : Int) (w : World) (h1 : R.Inp [] w (some ⟨g1, 0, none⟩) 1 3 (N.flatMap cNt)) (h2 : R.Inp [] w (some ⟨g2, 0, none⟩) 1 1 (V.flatMap R.cI)) (h3 : R.Inp [] w (some ⟨g3, 0, none⟩) 1 2 (Q.flatMap cRl))
    (hG : GNt w (nth N 0)) (hR : GRl w (nth Q 0)) (hv : In64 (nth V 0)) (hu : In64 u) : Calls Tryz.prog 46 ([Value.int .i64 u] ++ [R.ptr (some ⟨g1, 0, none⟩) 0 3 0, R.ptr (some ⟨g2, 0, none⟩) 0 1 0, R.ptr (some ⟨g3, 0, none⟩) 0 2 0]).toArray w fun e w' => e = .returned (.bool (takeB (nth N 0) (nth Q 0) u (nth V 0))) ∧ Below w.heap.size w w' := by
  have hM := R.Own.start [] w
  have hL := hG.lasts
  have hLR := hR.lasts
  cases hf : folB (nth N 0) u (nth V 0) with
  | false =>
    rw [take_f hf]
    refine R.calls_of_WC (fn := Tryz.f46) Tryz.func46 rfl Tryz.ntmps46 (Nat.le_of_ble_eq_true rfl) ?_
    (refine R.stepV ?_; (repeat' (first | (with_reducible refine And.intro ?_ ?_) | (with_reducible intro _))); all_goals refine R.Lft.mk ?_)
    all_goals first
      | exact ⟨rfl, R.Own.below (by assumption)⟩
      | exact bbw_t (by assumption) hf
  | true =>
    rw [take_t hf]
    have hw := (fol_way hf).1
    refine R.calls_of_WC (fn := Tryz.f46) Tryz.func46 rfl Tryz.ntmps46 (Nat.le_of_ble_eq_true rfl) ?_
    (refine R.stepV ?_; (repeat' (first | (with_reducible refine And.intro ?_ ?_) | (with_reducible intro _))); all_goals refine R.Lft.mk ?_)
    all_goals first
      | exact ⟨rfl, R.Own.below (by assumption)⟩
      | exact bbw_t hf (by assumption)
theorem those_no {fid : FuncId} [R.HasBody Tryz.prog fid] (cap : List Value) (x : Nt) (r : Rl) (w : World) (hG : GNt w x) (hR : GRl w r) (hr : rulesB x r = false) : Calls Tryz.prog 44 #[.agg (cNt x).toArray, .agg (cRl r).toArray, .func (.func fid) #[] cap.toArray] w fun e w' => e = .returned (.slice none 0 0) ∧ Below w.heap.size w w' := by
  have hM := R.Own.start [] w
  have hL := hG.lasts
  have hLR := hR.lasts
  refine R.calls_of_WC (fn := Tryz.f44) Tryz.func44 rfl Tryz.ntmps44 (Nat.le_of_ble_eq_true rfl) ?_
  (refine R.stepV ?_; (repeat' (first | (with_reducible refine And.intro ?_ ?_) | (with_reducible intro _))); all_goals refine R.Lft.mk ?_)
  · exact ⟨rfl, R.Own.below (by assumption)⟩
  · exact nbw_f hr (by assumption)
theorem mayT_t {x : Nt} {r : Rl} (h : rulesB x r = true) (v u : Int) : mayT x r v u = takeB x r v u := by unfold mayT; rw [h]; rfl
theorem mayT_f {x : Nt} {r : Rl} (h : rulesB x r = false) (v u : Int) : mayT x r v u = false := by unfold mayT; rw [h]; rfl
theorem from_any (x : Nt) (r : Rl) (v : Int) (w : World) (hG : GNt w x) (hR : GRl w r) (hv : In64 v) : Calls Tryz.prog 18 #[.agg (cNt x).toArray, .agg (cRl r).toArray, .int .i64 v] w fun e w' => ∃ A c, e = .returned (.slice A (fromL x r v).length c) ∧ R.Gives w w' A (fromL x r v).length c 3 1 ((fromL x r v).flatMap R.cI) := by
  have hM := R.Own.start [] w
  have hL := hG.lasts
  have hLR := hR.lasts
  cases hr : rulesB x r with
  | false =>
    have he : fromL x r v = [] := upL_none _ fun u => mayT_f hr v u
    rw [he]
    refine R.calls_of_WC (fn := Tryz.f18) Tryz.func18 rfl Tryz.ntmps18 (Nat.le_of_ble_eq_true rfl) ?_
    (refine R.stepV ?_; (repeat' (first | (with_reducible refine And.intro ?_ ?_) | (with_reducible intro _))); all_goals refine R.Lft.mk ?_)
    rename_i hM
    refine R.WO_call3 rfl rfl R.vv R.vv R.vv ?_
    refine (those_no _ x r _ (R.lasts hL hM) (R.lasts hLR hM) hr).mono ?_
    rintro _ w2 ⟨rfl, hb2⟩
    have hM := hM.call hb2
    refine ⟨_, rfl, ?_⟩
    (refine R.stepV ?_; (repeat' (first | (with_reducible refine And.intro ?_ ?_) | (with_reducible intro _))); all_goals refine R.Lft.mk ?_)
    exact ⟨none, 0, rfl, (R.Own.nil hM.nul 3 1).gives⟩
  | true =>
    have he : fromL x r v = upL (2 * x.e.n) fun u => takeB x r v u := by
      unfold fromL
      congr 1
      funext u
      exact mayT_t hr v u
    rw [he]
    have hn := netB_e (rulesB_of hr).1
    refine R.calls_of_WC (fn := Tryz.f18) Tryz.func18 rfl Tryz.ntmps18 (Nat.le_of_ble_eq_true rfl) ?_
    (refine R.stepV ?_; (repeat' (first | (with_reducible refine And.intro ?_ ?_) | (with_reducible intro _))); all_goals refine R.Lft.mk ?_)
    rename_i g1 _ _ g2 _ _ g3 _ hM
    refine R.WO_call3 rfl rfl R.vv R.vv R.vv ?_
    refine (those_any [.pointer (some ⟨g1, 0, none⟩), .pointer (some ⟨g3, 0, none⟩), .pointer (some ⟨g2, 0, none⟩)] (fun u => takeB x r v u) x r _ (R.lasts hL hM) (R.lasts hLR hM) hr (fun k w1 hk hb1 => ?_)).mono ?_
    · have hM1 := hM.call hb1
      rw [cap_ptr g1 3, cap_ptr g2 2, cap_ptr g3 1]
      exact from1_any [x] [v] [r] rfl rfl rfl g1 g3 g2 _ w1 (cap_inp (enc := cNt) hM1 (.tail _ (.tail _ (.head _))) rfl) (cap_inp (enc := R.cI) (x := v) hM1 (.head _) rfl) (cap_inp (enc := cRl) hM1 (.tail _ (.head _)) rfl) (R.lasts hL hM1) (R.lasts hLR hM1) hv (by unfold In64; omega)
    rintro _ w2 ⟨A, c, rfl, hG2⟩
    have hM := R.Own.give hM hG2
    refine ⟨_, rfl, ?_⟩
    (refine R.stepV ?_; (repeat' (first | (with_reducible refine And.intro ?_ ?_) | (with_reducible intro _))); all_goals refine R.Lft.mk ?_)
    exact ⟨A, c, rfl, (R.Own.gives (by assumption))⟩
theorem into_any (x : Nt) (r : Rl) (v : Int) (w : World) (hG : GNt w x) (hR : GRl w r) (hv : In64 v) : Calls Tryz.prog 20 #[.agg (cNt x).toArray, .agg (cRl r).toArray, .int .i64 v] w fun e w' => ∃ A c, e = .returned (.slice A (intoL x r v).length c) ∧ R.Gives w w' A (intoL x r v).length c 3 1 ((intoL x r v).flatMap R.cI) := by
  have hM := R.Own.start [] w
  have hL := hG.lasts
  have hLR := hR.lasts
  cases hr : rulesB x r with
  | false =>
    have he : intoL x r v = [] := upL_none _ fun u => mayT_f hr u v
    rw [he]
    refine R.calls_of_WC (fn := Tryz.f20) Tryz.func20 rfl Tryz.ntmps20 (Nat.le_of_ble_eq_true rfl) ?_
    (refine R.stepV ?_; (repeat' (first | (with_reducible refine And.intro ?_ ?_) | (with_reducible intro _))); all_goals refine R.Lft.mk ?_)
    rename_i hM
    refine R.WO_call3 rfl rfl R.vv R.vv R.vv ?_
    refine (those_no _ x r _ (R.lasts hL hM) (R.lasts hLR hM) hr).mono ?_
    rintro _ w2 ⟨rfl, hb2⟩
    have hM := hM.call hb2
    refine ⟨_, rfl, ?_⟩
    (refine R.stepV ?_; (repeat' (first | (with_reducible refine And.intro ?_ ?_) | (with_reducible intro _))); all_goals refine R.Lft.mk ?_)
    exact ⟨none, 0, rfl, (R.Own.nil hM.nul 3 1).gives⟩
  | true =>
    have he : intoL x r v = upL (2 * x.e.n) fun u => takeB x r u v := by
      unfold intoL
      congr 1
      funext u
      exact mayT_t hr u v
    rw [he]
    have hn := netB_e (rulesB_of hr).1
    refine R.calls_of_WC (fn := Tryz.f20) Tryz.func20 rfl Tryz.ntmps20 (Nat.le_of_ble_eq_true rfl) ?_
    (refine R.stepV ?_; (repeat' (first | (with_reducible refine And.intro ?_ ?_) | (with_reducible intro _))); all_goals refine R.Lft.mk ?_)
    rename_i g1 _ _ g2 _ _ g3 _ hM
    refine R.WO_call3 rfl rfl R.vv R.vv R.vv ?_
    refine (those_any [.pointer (some ⟨g1, 0, none⟩), .pointer (some ⟨g3, 0, none⟩), .pointer (some ⟨g2, 0, none⟩)] (fun u => takeB x r u v) x r _ (R.lasts hL hM) (R.lasts hLR hM) hr (fun k w1 hk hb1 => ?_)).mono ?_
    · have hM1 := hM.call hb1
      rw [cap_ptr g1 3, cap_ptr g2 2, cap_ptr g3 1]
      exact into1_any [x] [v] [r] rfl rfl rfl g1 g3 g2 _ w1 (cap_inp (enc := cNt) hM1 (.tail _ (.tail _ (.head _))) rfl) (cap_inp (enc := R.cI) (x := v) hM1 (.head _) rfl) (cap_inp (enc := cRl) hM1 (.tail _ (.head _)) rfl) (R.lasts hL hM1) (R.lasts hLR hM1) hv (by unfold In64; omega)
    rintro _ w2 ⟨A, c, rfl, hG2⟩
    have hM := R.Own.give hM hG2
    refine ⟨_, rfl, ?_⟩
    (refine R.stepV ?_; (repeat' (first | (with_reducible refine And.intro ?_ ?_) | (with_reducible intro _))); all_goals refine R.Lft.mk ?_)
    exact ⟨A, c, rfl, (R.Own.gives (by assumption))⟩
end Go.Proofs.YtgciglnkofoacaaGreat
