/- The law TurnsFrom: its walk. The law TurnsFrom, out of its walk: for every input it returns true, and each argument reads behind the call as it read before. No condition. -/
import Derived.Test.YtgciglnkofoacaaGreatTw
import Derived.Test.YtgciglnkofoacaaGreatFrame
namespace Go.Proofs.YtgciglnkofoacaaGreat
open Go.ChangeShapes Go.WideShapes Go.ChangeAt Go.RowKit
open R (In64 InU64 lo64 nth)
theorem same_next {L M : List Int} {k : Nat} (h : ∀ i, i < k → nth L i = nth M i) (hk : nth L k = nth M k) : ∀ i, i < k + 1 → nth L i = nth M i := fun i hi => by
  rcases Nat.lt_or_ge i k with h1 | h1
  · exact h i h1
  · obtain rfl : i = k := by omega
    exact hk
theorem same_list {L M : List Int} (hl : L.length = M.length) (h : ∀ i, i < L.length → nth L i = nth M i) : L = M :=
  List.ext_getElem hl fun i h1 h2 => by rw [← R.nth_eq h1, ← R.nth_eq h2]; exact h i h1
/-- Are lists of numbers the same? -/
theorem same01 (A B : Option Addr) (n c m d : Nat) (L M : List Int) (w : World) (hA : R.Inp [] w A n 1 (L.flatMap R.cI)) (hn : n = L.length) (hnb : n ≤ 9223372036854775807) (hB : R.Inp [] w B m 1 (M.flatMap R.cI)) (hm : m = M.length) : Calls Tryz.prog 19 #[.slice A n c, .slice B m d] w fun e w' => e = .returned (.bool (decide (L = M))) ∧ Below w.heap.size w w' := by
  have hM := R.Own.start [] w
  by_cases hl : n = m
  · refine R.calls_of_WC (fn := Tryz.f19) Tryz.func19 rfl Tryz.ntmps19 (Nat.le_of_ble_eq_true rfl) ?_
    (refine R.stepV ?_; (repeat' (first | (with_reducible refine And.intro ?_ ?_) | (with_reducible intro _))); all_goals refine R.Lft.mk ?_)
    refine R.WC_loop (fun k : Nat => [(0, .slice A n c), (1, .slice B m d), (4, .bool false), (5, .int .i64 (k : Nat))])
      (fun k w2 => k ≤ n ∧ R.Own [] w w2 [] ∧ ∀ i, i < k → nth L i = nth M i) (fun k => n - k) ⟨0, ⟨rfl, rfl, rfl, rfl, trivial⟩, by omega, hM, fun i hi => absurd hi (Nat.not_lt_zero _)⟩ ?_
    clear hM
    rintro k f w2 ⟨hk, hM, hall⟩
    by_cases hlt : k < n
    · (refine R.stepV ?_; (repeat' (first | (with_reducible refine And.intro ?_ ?_) | (with_reducible intro _))); all_goals refine R.Lft.mk ?_)
      · have h : nth L k ≠ nth M k := by assumption
        rw [decide_eq_false (fun g : L = M => h (by rw [g]))]
        exact ⟨rfl, R.Own.below (by assumption)⟩
      · have h : ¬ nth L k ≠ nth M k := by assumption
        exact ⟨k + 1, ⟨rfl, rfl, rfl, R.viaI rfl (by omega), trivial⟩, ⟨by omega, by assumption, same_next hall (by simpa using h)⟩, by omega⟩
    · obtain rfl : k = n := by omega
      (refine R.stepV ?_; (repeat' (first | (with_reducible refine And.intro ?_ ?_) | (with_reducible intro _))); all_goals refine R.Lft.mk ?_)
      rw [decide_eq_true (same_list (by omega) (by rw [← hn]; exact hall))]
      exact ⟨rfl, R.Own.below (by assumption)⟩
  · rw [decide_eq_false (fun g : L = M => hl (by rw [hn, hm, g]))]
    refine R.calls_of_WC (fn := Tryz.f19) Tryz.func19 rfl Tryz.ntmps19 (Nat.le_of_ble_eq_true rfl) ?_
    (refine R.stepV ?_; (repeat' (first | (with_reducible refine And.intro ?_ ?_) | (with_reducible intro _))); all_goals refine R.Lft.mk ?_)
    all_goals first
      | exact ⟨rfl, R.Own.below (by assumption)⟩
      | (exfalso; omega)
theorem row_formT {w : World} {A : Option Addr} {n c sz : Nat} {e : TypeId} {cs : List Value} (h : w.ownsRow 0 e sz (.slice A n c) n cs) (hn : 0 < n) : ∃ g, A = some ⟨g, 0, none⟩ := by
  rcases h.2 with ⟨hv, h0⟩ | ⟨g, cap, cur, hv, _, h1, h2, h3, h4, h5⟩
  · omega
  · injection hv with a1 a2 a3
    exact ⟨g, a1⟩
/-- Some of the first ways are this one. -/
def anyV (L : List Int) (v : Int) : Nat → Bool
  | 0 => false
  | k + 1 => anyV L v k || decide (nth L k = v)
theorem anyV_mem {L : List Int} {v : Int} (h : v ∈ L) : anyV L v L.length = true := by
  obtain ⟨q, hq, hqt⟩ := List.getElem_of_mem h
  rw [← R.nth_eq hq] at hqt
  have key : ∀ k, q < k → anyV L v k = true := fun k => by
    induction k with
    | zero => exact fun h => absurd h (Nat.not_lt_zero _)
    | succ k ih =>
      intro hk
      unfold anyV
      rcases Nat.lt_or_ge q k with g | g
      · rw [ih g]; rfl
      · obtain rfl : q = k := by omega
        rw [hqt]; simp
  exact key _ hq
/-- A way to which another one may turn is one from which it is turned to. -/
theorem from_into {x : Nt} {r : Rl} {v u : Int} (hr : rulesB x r = true) (h : u ∈ fromL x r v) : v ∈ intoL x r u := by
  unfold fromL at h
  unfold intoL
  obtain ⟨_, _, h3⟩ := upL_mem.1 h
  have h4 := h3
  rw [mayT_t hr] at h4
  obtain ⟨⟨g1, g2⟩, _⟩ := take_range h4
  exact upL_mem.2 ⟨g1, g2, h3⟩
theorem from_64 {x : Nt} {r : Rl} {v u : Int} (hn : x.e.n ≤ 200000) (h : u ∈ fromL x r v) : In64 u := by
  unfold fromL at h
  obtain ⟨h1, h2, _⟩ := upL_mem.1 h
  unfold In64
  omega
set_option maxHeartbeats 8000000 in
attribute [local irreducible] cS cR cSp cW folB wayB rulesB takeB turnB fromL intoL anyV in
theorem turnsFrom_t (x : Nt) (r : Rl) (v : Int) (w : World) (hG : GNt w x) (hR : GRl w r) (hv : In64 v) (hl : x.s.n ≤ 30 ∧ x.e.n ≤ 40 ∧ x.p.n ≤ 20 ∧ r.b.n ≤ 60) (hr : rulesB x r = true) : Calls Tryz.prog 5 #[.agg (cNt x).toArray, .agg (cRl r).toArray, .int .i64 v] w fun e w' => e = .returned (.bool true) ∧ Below w.heap.size w w' := by
  have hM := R.Own.start [] w
  have hL := hG.lasts
  have hLR := hR.lasts
  have hlt := decide_eq_true hl
  have hnb := (rulesB_of hr).1
  have hne := netB_e hnb
  have hfl : (fromL x r v).length ≤ 2 * x.e.n := by
    unfold fromL
    exact upL_len _ _
  have hil : ∀ u, (intoL x r u).length ≤ 2 * x.e.n := fun u => by
    unfold intoL
    exact upL_len _ _
  have hil1 := hil v
  have ef : fromL x r v = upL (2 * x.e.n) fun u => takeB x r v u := by
    unfold fromL
    congr 1
    funext u
    exact mayT_t hr v u
  have ei : intoL x r v = upL (2 * x.e.n) fun u => takeB x r u v := by
    unfold intoL
    congr 1
    funext u
    exact mayT_t hr u v
  refine R.calls_of_WC (fn := Tryz.f5) Tryz.func5 rfl Tryz.ntmps5 (Nat.le_of_ble_eq_true rfl) ?_
  (refine R.stepV ?_; (repeat' (first | (with_reducible refine And.intro ?_ ?_) | (with_reducible intro _))); all_goals refine R.Lft.mk ?_)
  · exact nbw_t hlt (by assumption)
  · rename_i g1 _ _ g2 _ _ _ _ _ A1 c1 _ _ A2 c2 _ _ _ hM _
    refine R.WC_loop (fun i : Nat × Option Addr × Nat × Option Addr × Nat => [(2, .int .i64 v), (3, .pointer (some ⟨g1, 0, none⟩)), (4, .pointer (some ⟨g2, 0, none⟩)), (6, .bool false), (7, .slice i.2.1 (upL i.1 (fun u => takeB x r v u)).length i.2.2.1), (8, .slice i.2.2.2.1 (upL i.1 (fun u => takeB x r u v)).length i.2.2.2.2), (9, .int .i64 (i.1 : Nat))])
      (fun i w2 => i.1 ≤ 2 * x.e.n ∧ R.Own [] w w2 [.row i.2.2.2.1 (upL i.1 (fun u => takeB x r u v)).length i.2.2.2.2 3 1 ((upL i.1 (fun u => takeB x r u v)).flatMap R.cI), .row i.2.1 (upL i.1 (fun u => takeB x r v u)).length i.2.2.1 3 1 ((upL i.1 (fun u => takeB x r v u)).flatMap R.cI), .blk g2 29 (cRl r), .blk g1 26 (cNt x)]) (fun i => 2 * x.e.n - i.1)
      ⟨(0, A1, c1, A2, c2), ⟨rfl, rfl, rfl, rfl, rfl, rfl, rfl, trivial⟩, Nat.zero_le _, hM⟩ ?_
    clear hM
    rintro ⟨k, A, c, B, d⟩ f w2 ⟨hk, hM⟩
    dsimp only at hk hM ⊢
    by_cases hlt2 : k < 2 * x.e.n
    · have hl1 := upL_len k (fun u => takeB x r v u)
      have hl2 := upL_len k (fun u => takeB x r u v)
      (refine R.stepV ?_; (repeat' (first | (with_reducible refine And.intro ?_ ?_) | (with_reducible intro _))); all_goals refine R.Lft.mk ?_)
      · have eF := upL_t (m := k) (p := fun u => takeB x r v u) (by assumption)
        have eI := upL_t (m := k) (p := fun u => takeB x r u v) (by assumption)
        rename_i A' c' _ _ _ _ _ _ _ _ _ B' d' _ hM
        exact ⟨(k + 1, A', c', B', d'), ⟨rfl, rfl, rfl, rfl, (by dsimp only; rw [eF, List.length_append]; rfl), (by dsimp only; rw [eI, List.length_append]; rfl), R.viaI rfl (by dsimp only; omega), trivial⟩, ⟨by dsimp only; omega, by dsimp only; rw [eF, eI, show (upL k (fun u => takeB x r v u) ++ [((k : Nat) : Int)]).length = (upL k (fun u => takeB x r v u)).length + 1 by rw [List.length_append]; rfl, show (upL k (fun u => takeB x r u v) ++ [((k : Nat) : Int)]).length = (upL k (fun u => takeB x r u v)).length + 1 by rw [List.length_append]; rfl]; exact hM⟩, by dsimp only; omega⟩
      · have eF := upL_t (m := k) (p := fun u => takeB x r v u) (by assumption)
        have eI := upL_f (m := k) (p := fun u => takeB x r u v) (by assumption)
        rename_i A' c' _ _ _ hM _
        exact ⟨(k + 1, A', c', B, d), ⟨rfl, rfl, rfl, rfl, (by dsimp only; rw [eF, List.length_append]; rfl), (by dsimp only; rw [eI]; rfl), R.viaI rfl (by dsimp only; omega), trivial⟩, ⟨by dsimp only; omega, by dsimp only; rw [eF, eI, show (upL k (fun u => takeB x r v u) ++ [((k : Nat) : Int)]).length = (upL k (fun u => takeB x r v u)).length + 1 by rw [List.length_append]; rfl]; exact hM⟩, by dsimp only; omega⟩
      · have eF := upL_f (m := k) (p := fun u => takeB x r v u) (by assumption)
        have eI := upL_t (m := k) (p := fun u => takeB x r u v) (by assumption)
        rename_i B' d' _ hM
        exact ⟨(k + 1, A, c, B', d'), ⟨rfl, rfl, rfl, rfl, (by dsimp only; rw [eF]; rfl), (by dsimp only; rw [eI, List.length_append]; rfl), R.viaI rfl (by dsimp only; omega), trivial⟩, ⟨by dsimp only; omega, by dsimp only; rw [eF, eI, show (upL k (fun u => takeB x r u v) ++ [((k : Nat) : Int)]).length = (upL k (fun u => takeB x r u v)).length + 1 by rw [List.length_append]; rfl]; exact hM⟩, by dsimp only; omega⟩
      · have eF := upL_f (m := k) (p := fun u => takeB x r v u) (by assumption)
        have eI := upL_f (m := k) (p := fun u => takeB x r u v) (by assumption)
        rename_i hM _
        exact ⟨(k + 1, A, c, B, d), ⟨rfl, rfl, rfl, rfl, (by dsimp only; rw [eF]; rfl), (by dsimp only; rw [eI]; rfl), R.viaI rfl (by dsimp only; omega), trivial⟩, ⟨by dsimp only; omega, by dsimp only; rw [eF, eI]; exact hM⟩, by dsimp only; omega⟩
    · obtain rfl : k = 2 * x.e.n := by omega
      (refine R.stepV ?_; (repeat' (first | (with_reducible refine And.intro ?_ ?_) | (with_reducible intro _))); all_goals refine R.Lft.mk ?_)
      rename_i hM
      refine R.WO_call3 rfl rfl R.vv R.vv R.vv ?_
      refine (from_any x r v _ (R.lasts hL hM) (R.lasts hLR hM) hv).mono ?_
      rintro _ w3 ⟨A3, c3, rfl, hG3⟩
      have hM := R.Own.give hM hG3
      refine ⟨_, rfl, ?_⟩
      (refine R.stepV ?_; (repeat' (first | (with_reducible refine And.intro ?_ ?_) | (with_reducible intro _))); all_goals refine R.Lft.mk ?_)
      rename_i hM
      refine R.WO_call2 rfl rfl R.vv R.vv ?_
      refine (same01 A3 A _ c3 _ c (fromL x r v) (upL (2 * x.e.n) fun u => takeB x r v u) _ (R.Own.inp hM (.head _)) rfl (by omega) (R.Own.inp hM (.tail _ (.tail _ (.head _)))) rfl).mono ?_
      rintro _ w4 ⟨rfl, hb4⟩
      have hM := hM.call hb4
      refine ⟨_, rfl, ?_⟩
      rw [decide_eq_true ef]
      (refine R.stepV ?_; (repeat' (first | (with_reducible refine And.intro ?_ ?_) | (with_reducible intro _))); all_goals refine R.Lft.mk ?_)
      rename_i hM
      refine R.WO_call3 rfl rfl R.vv R.vv R.vv ?_
      refine (into_any x r v _ (R.lasts hL hM) (R.lasts hLR hM) hv).mono ?_
      rintro _ w5 ⟨A5, c5, rfl, hG5⟩
      have hM := R.Own.give hM hG5
      refine ⟨_, rfl, ?_⟩
      (refine R.stepV ?_; (repeat' (first | (with_reducible refine And.intro ?_ ?_) | (with_reducible intro _))); all_goals refine R.Lft.mk ?_)
      rename_i hM
      refine R.WO_call2 rfl rfl R.vv R.vv ?_
      refine (same01 A5 B _ c5 _ d (intoL x r v) (upL (2 * x.e.n) fun u => takeB x r u v) _ (R.Own.inp hM (.head _)) rfl (by omega) (R.Own.inp hM (.tail _ (.tail _ (.head _)))) rfl).mono ?_
      rintro _ w6 ⟨rfl, hb6⟩
      have hM := hM.call hb6
      refine ⟨_, rfl, ?_⟩
      rw [decide_eq_true ei]
      (refine R.stepV ?_; (repeat' (first | (with_reducible refine And.intro ?_ ?_) | (with_reducible intro _))); all_goals refine R.Lft.mk ?_)
      rename_i hM
      refine R.WC_loop (fun i : Nat => [(2, .int .i64 v), (3, .pointer (some ⟨g1, 0, none⟩)), (4, .pointer (some ⟨g2, 0, none⟩)), (6, .bool false), (10, .slice A3 (fromL x r v).length c3), (11, .int .i64 (i : Nat))])
        (fun i w2 => i ≤ (fromL x r v).length ∧ R.Own [] w w2 [.row A3 (fromL x r v).length c3 3 1 ((fromL x r v).flatMap R.cI), .blk g2 29 (cRl r), .blk g1 26 (cNt x)]) (fun i => (fromL x r v).length - i)
        ⟨0, ⟨rfl, rfl, rfl, rfl, rfl, rfl, trivial⟩, Nat.zero_le _, hM.sub R.subl⟩ ?_
      clear hM
      rintro i f w7 ⟨hi, hM⟩
      by_cases hlt3 : i < (fromL x r v).length
      · by_cases h6 : i < 6
        · have hAs := row_formT (hM.ok _ (.head _) : w7.ownsRow 0 3 1 (.slice A3 (fromL x r v).length c3) (fromL x r v).length ((fromL x r v).flatMap R.cI)) (by omega)
          have hAs2 : ∃ a, A3 = some a := by
            obtain ⟨g, hg⟩ := hAs
            exact ⟨_, hg⟩
          have hmem := R.nth_mem (L := fromL x r v) (i := i) hlt3
          have hu := from_64 hne hmem
          have hthere := anyV_mem (from_into hr hmem)
          (refine R.stepU ?_; (repeat' (first | (with_reducible refine And.intro ?_ ?_) | (with_reducible intro _))); all_goals refine R.Lft.mk ?_)
          rename_i hM
          refine R.WO_call3 rfl rfl R.vv R.vv R.vv ?_
          refine (into_any x r (nth (fromL x r v) i) _ (R.lasts hL hM) (R.lasts hLR hM) hu).mono ?_
          rintro _ w8 ⟨A8, c8, rfl, hG8⟩
          have hM := R.Own.give hM hG8
          have hil8 := hil (nth (fromL x r v) i)
          refine ⟨_, rfl, ?_⟩
          (refine R.stepV ?_; (repeat' (first | (with_reducible refine And.intro ?_ ?_) | (with_reducible intro _))); all_goals refine R.Lft.mk ?_)
          rename_i hM
          refine R.WC_loop (fun j : Nat => [(2, .int .i64 v), (3, .pointer (some ⟨g1, 0, none⟩)), (4, .pointer (some ⟨g2, 0, none⟩)), (6, .bool false), (10, .slice A3 (fromL x r v).length c3), (11, .int .i64 (i : Nat)), (12, .slice A8 (intoL x r (nth (fromL x r v) i)).length c8), (13, .bool (anyV (intoL x r (nth (fromL x r v) i)) v j)), (14, .int .i64 (j : Nat))])
            (fun j w2 => j ≤ (intoL x r (nth (fromL x r v) i)).length ∧ R.Own [] w w2 [.row A8 (intoL x r (nth (fromL x r v) i)).length c8 3 1 ((intoL x r (nth (fromL x r v) i)).flatMap R.cI), .row A3 (fromL x r v).length c3 3 1 ((fromL x r v).flatMap R.cI), .blk g2 29 (cRl r), .blk g1 26 (cNt x)]) (fun j => (intoL x r (nth (fromL x r v) i)).length - j)
            ⟨0, ⟨rfl, rfl, rfl, rfl, rfl, rfl, rfl, R.viaB rfl (by unfold anyV; rfl), rfl, trivial⟩, Nat.zero_le _, hM.sub R.subl⟩ ?_
          clear hM
          rintro j f w9 ⟨hj, hM⟩
          by_cases hjl : j < (intoL x r (nth (fromL x r v) i)).length
          · have hstep : anyV (intoL x r (nth (fromL x r v) i)) v (j + 1) = (anyV (intoL x r (nth (fromL x r v) i)) v j || decide (nth (intoL x r (nth (fromL x r v) i)) j = v)) := by
              rw [anyV]
            (refine R.stepV ?_; (repeat' (first | (with_reducible refine And.intro ?_ ?_) | (with_reducible intro _))); all_goals refine R.Lft.mk ?_)
            all_goals first
              | exact ⟨j + 1, ⟨rfl, rfl, rfl, rfl, rfl, rfl, rfl, R.viaB rfl (by rw [hstep, show anyV (intoL x r (nth (fromL x r v) i)) v j = true by assumption, Bool.true_or]), R.viaI rfl (by omega), trivial⟩, ⟨by omega, by assumption⟩, by omega⟩
              | exact ⟨j + 1, ⟨rfl, rfl, rfl, rfl, rfl, rfl, rfl, R.viaB rfl (by rw [hstep, show anyV (intoL x r (nth (fromL x r v) i)) v j = false by assumption, Bool.false_or]), R.viaI rfl (by omega), trivial⟩, ⟨by omega, by assumption⟩, by omega⟩
          · obtain rfl : j = (intoL x r (nth (fromL x r v) i)).length := by omega
            rw [hthere]
            (refine R.stepV ?_; (repeat' (first | (with_reducible refine And.intro ?_ ?_) | (with_reducible intro _))); all_goals refine R.Lft.mk ?_)
            exact ⟨i + 1, ⟨rfl, rfl, rfl, rfl, rfl, R.viaI rfl (by omega), trivial⟩, ⟨by omega, R.Own.tl hM⟩, by omega⟩
        · (refine R.stepV ?_; (repeat' (first | (with_reducible refine And.intro ?_ ?_) | (with_reducible intro _))); all_goals refine R.Lft.mk ?_)
          all_goals first
            | exact ⟨rfl, R.Own.below (by assumption)⟩
            | (exfalso; omega)
      · obtain rfl : i = (fromL x r v).length := by omega
        (refine R.stepV ?_; (repeat' (first | (with_reducible refine And.intro ?_ ?_) | (with_reducible intro _))); all_goals refine R.Lft.mk ?_)
        all_goals first
          | exact ⟨rfl, R.Own.below (by assumption)⟩
          | (exfalso; omega)
  · exact bbw_t hr (by assumption)
set_option maxHeartbeats 8000000 in
attribute [local irreducible] cS cR cSp cW folB wayB rulesB takeB turnB fromL intoL anyV in
theorem turnsFrom_f (x : Nt) (r : Rl) (v : Int) (w : World) (hG : GNt w x) (hR : GRl w r) (hv : In64 v) (hl : x.s.n ≤ 30 ∧ x.e.n ≤ 40 ∧ x.p.n ≤ 20 ∧ r.b.n ≤ 60) (hr : rulesB x r = false) : Calls Tryz.prog 5 #[.agg (cNt x).toArray, .agg (cRl r).toArray, .int .i64 v] w fun e w' => e = .returned (.bool true) ∧ Below w.heap.size w w' := by
  have hM := R.Own.start [] w
  have hL := hG.lasts
  have hLR := hR.lasts
  have hlt := decide_eq_true hl
  have ef : fromL x r v = [] := by
    unfold fromL
    exact upL_none _ fun u => mayT_f hr v u
  have ei : intoL x r v = [] := by
    unfold intoL
    exact upL_none _ fun u => mayT_f hr u v
  have hfl : (fromL x r v).length ≤ 0 := by rw [ef]; exact Nat.le_refl _
  have hil1 : (intoL x r v).length ≤ 0 := by rw [ei]; exact Nat.le_refl _
  refine R.calls_of_WC (fn := Tryz.f5) Tryz.func5 rfl Tryz.ntmps5 (Nat.le_of_ble_eq_true rfl) ?_
  (refine R.stepV ?_; (repeat' (first | (with_reducible refine And.intro ?_ ?_) | (with_reducible intro _))); all_goals refine R.Lft.mk ?_)
  · exact nbw_t hlt (by assumption)
  · exact bbw_t (by assumption) hr
  · rename_i g1 _ _ g2 _ _ _ _ _ A1 c1 _ _ A2 c2 _ _ _ hM _
    refine R.WO_call3 rfl rfl R.vv R.vv R.vv ?_
    refine (from_any x r v _ (R.lasts hL hM) (R.lasts hLR hM) hv).mono ?_
    rintro _ w3 ⟨A3, c3, rfl, hG3⟩
    have hM := R.Own.give hM hG3
    refine ⟨_, rfl, ?_⟩
    (refine R.stepV ?_; (repeat' (first | (with_reducible refine And.intro ?_ ?_) | (with_reducible intro _))); all_goals refine R.Lft.mk ?_)
    rename_i hM
    refine R.WO_call2 rfl rfl R.vv R.vv ?_
    refine (same01 A3 A1 _ c3 _ c1 (fromL x r v) [] _ (R.Own.inp hM (.head _)) rfl (by omega) (R.Own.inp hM (.tail _ (.tail _ (.head _)))) rfl).mono ?_
    rintro _ w4 ⟨rfl, hb4⟩
    have hM := hM.call hb4
    refine ⟨_, rfl, ?_⟩
    rw [decide_eq_true ef]
    (refine R.stepV ?_; (repeat' (first | (with_reducible refine And.intro ?_ ?_) | (with_reducible intro _))); all_goals refine R.Lft.mk ?_)
    rename_i hM
    refine R.WO_call3 rfl rfl R.vv R.vv R.vv ?_
    refine (into_any x r v _ (R.lasts hL hM) (R.lasts hLR hM) hv).mono ?_
    rintro _ w5 ⟨A5, c5, rfl, hG5⟩
    have hM := R.Own.give hM hG5
    refine ⟨_, rfl, ?_⟩
    (refine R.stepV ?_; (repeat' (first | (with_reducible refine And.intro ?_ ?_) | (with_reducible intro _))); all_goals refine R.Lft.mk ?_)
    rename_i hM
    refine R.WO_call2 rfl rfl R.vv R.vv ?_
    refine (same01 A5 A2 _ c5 _ c2 (intoL x r v) [] _ (R.Own.inp hM (.head _)) rfl (by omega) (R.Own.inp hM (.tail _ (.tail _ (.head _)))) rfl).mono ?_
    rintro _ w6 ⟨rfl, hb6⟩
    have hM := hM.call hb6
    refine ⟨_, rfl, ?_⟩
    rw [decide_eq_true ei]
    (refine R.stepV ?_; (repeat' (first | (with_reducible refine And.intro ?_ ?_) | (with_reducible intro _))); all_goals refine R.Lft.mk ?_)
    rename_i hM
    refine R.WC_loop (fun i : Nat => [(2, .int .i64 v), (3, .pointer (some ⟨g1, 0, none⟩)), (4, .pointer (some ⟨g2, 0, none⟩)), (6, .bool false), (10, .slice A3 (fromL x r v).length c3), (11, .int .i64 (i : Nat))])
      (fun i w2 => i ≤ (fromL x r v).length ∧ R.Own [] w w2 [.row A3 (fromL x r v).length c3 3 1 ((fromL x r v).flatMap R.cI), .blk g2 29 (cRl r), .blk g1 26 (cNt x)]) (fun i => (fromL x r v).length - i)
      ⟨0, ⟨rfl, rfl, rfl, rfl, rfl, rfl, trivial⟩, Nat.zero_le _, hM.sub R.subl⟩ ?_
    clear hM
    rintro i f w7 ⟨hi, hM⟩
    by_cases hlt3 : i < (fromL x r v).length
    · rw [ef] at hlt3
      exact absurd hlt3 (Nat.not_lt_zero _)
    · obtain rfl : i = (fromL x r v).length := by omega
      (refine R.stepV ?_; (repeat' (first | (with_reducible refine And.intro ?_ ?_) | (with_reducible intro _))); all_goals refine R.Lft.mk ?_)
      all_goals first
        | exact ⟨rfl, R.Own.below (by assumption)⟩
        | (exfalso; omega)
theorem turnsFrom_any (x : Nt) (r : Rl) (v : Int) (w : World) (hG : GNt w x) (hR : GRl w r) (hv : In64 v) : Calls Tryz.prog 5 #[.agg (cNt x).toArray, .agg (cRl r).toArray, .int .i64 v] w fun e w' => e = .returned (.bool true) ∧ Below w.heap.size w w' := by
  by_cases hl : x.s.n ≤ 30 ∧ x.e.n ≤ 40 ∧ x.p.n ≤ 20 ∧ r.b.n ≤ 60
  · cases hr : rulesB x r with
    | true => exact turnsFrom_t x r v w hG hR hv hl hr
    | false => exact turnsFrom_f x r v w hG hR hv hl hr
  · have hM := R.Own.start [] w
    have hlt := decide_eq_false hl
    refine R.calls_of_WC (fn := Tryz.f5) Tryz.func5 rfl Tryz.ntmps5 (Nat.le_of_ble_eq_true rfl) ?_
    (refine R.stepV ?_; (repeat' (first | (with_reducible refine And.intro ?_ ?_) | (with_reducible intro _))); all_goals refine R.Lft.mk ?_)
    all_goals first
      | exact ⟨rfl, R.Own.below (by assumption)⟩
      | exact nbw_f hlt (by assumption)
set_option maxRecDepth 100000 in
theorem walk_TurnsFrom {H : Type} {enc : TypeId × Value → H} (W : World) (base : Nat) (args : Array Value) (ds : List (DataW H)) (ps : List MemPlace) (hA : DataW.TrodAll enc Tryz.prog W 0 (fun _ => true) true [26, 29, 3] args.toList ds ps)
    (hval : ∀ (j : Nat) t v, #[26, 29, 3][j]? = some t → args[j]? = some v → Value.okWide Tryz.prog W .any base t v) :
    Calls Tryz.prog 5 args W fun e W' => e = .returned (.bool true) ∧ Below W.heap.size W W' := by
  obtain ⟨v0, v1, v2, d0, d1, d2, p0, p1, p2, rfl, rfl, rfl, h0, h1, h2⟩ := trodAll_three hA
  obtain ⟨z0, q0, g0, a0, b0⟩ := R.open_arg (hval 0 26 v0 rfl rfl) h0
  obtain ⟨z1, q1, g1, a1, b1⟩ := R.open_arg (hval 1 29 v1 rfl rfl) h1
  obtain ⟨z2, rfl, rfl, rfl, wb⟩ := open_int (k := .i64) (by kernel_rfl) (hval 2 3 v2 rfl rfl) h2
  obtain rfl := a0 (by kernel_rfl)
  obtain rfl := a1 (by kernel_rfl)
  exact turnsFrom_any z0 z1 z2 W g0 g1 (by have := bounds_i64 wb; unfold In64; omega)
end Go.Proofs.YtgciglnkofoacaaGreat
namespace Go.Proofs.YtgciglnkofoacaaGreat
open Go.ChangeShapes Go.WideShapes Go.ChangeAt Go.RowKit
set_option maxRecDepth 100000 in
theorem turnsFrom_lifted (os : Os) (started : os.Started) (H : Type) (enc : TypeId × Value → H) :
    ReturnsInHanded {} Tryz.checked os 5 .any (Rows.turnsFromSpec.pre6 enc Tryz.prog Tryz.f5 Rows.turnsFromRow.domain false) (Rows.turnsFromSpec.post enc Tryz.prog Tryz.f5 false true false false) := by
  refine returnsInHanded_of_change (C := Tryz.checked) ownKnob_none started (by kernel_rfl) Tryz.func5
    (ChangeSpec.witness6 (enc := enc) (C := Tryz.checked) false ⟨#[], #[.agg #[.slice none 0 0, .slice none 0 0, .slice none 0 0], .agg #[.slice none 0 0, .int .i64 0], .int .i64 0], []⟩ 8 (by kernel_rfl) (by kernel_rfl) (by kernel_rfl) (by kernel_rfl)) ?_
  intro W base args ds gs before hval0 hW _ _
  have hval : ∀ (j : Nat) t v, Tryz.f5.params[j]? = some t → args[j]? = some v → Value.okWide Tryz.prog W .any base t v := hval0
  have hW' := hW
  obtain ⟨p, q, hA0, hV, rfl, hfz, hnd⟩ := hW
  have hA : DataW.TrodAll enc Tryz.prog W 0 (fun _ => true) true Tryz.f5.params.toList args.toList ds p := hA0
  obtain ⟨rfl, rfl⟩ := trodVars_none hV
  have hA1 := hA
  rw [Tryz.params5] at hA1 hval
  simp only [List.append_nil] at hW'
  refine (walk_TurnsFrom W base args ds p hA1 hval).mono fun e W' ⟨he, hb⟩ => ?_
  subst he
  refine ⟨_, rfl, law_post rfl laidOut hW' hA (by kernel_rfl) rfl (by kernel_rfl) ?_ hb⟩
  clear hb hW' hA hfz hnd hV hval hval0 hA0
  obtain ⟨v0, vs0, d0, ds0, p0, q0, e0, rfl, g0, h0, r0⟩ := trodAll_cons hA1
  obtain ⟨v1, vs1, d1, ds1, p1, q1, e1, rfl, g1, h1, r1⟩ := trodAll_cons r0
  obtain ⟨v2, vs2, d2, ds2, p2, q2, e2, rfl, g2, h2, r2⟩ := trodAll_cons r1
  obtain ⟨_, rfl, _⟩ := trodAll_nil r2
  rfl

theorem turnsFrom_holds : Rows.TurnsFromSaid :=
  OpenClaim.holds_of_wide 5 Tryz.f5 rfl rfl rfl rfl rfl rfl rfl ⟨rfl, rfl, rfl, rfl, rfl⟩ rfl rfl rfl rfl rfl (by kernel_rfl) Tryz.func5 (by kernel_rfl)
    (of_decide_eq_true (by kernel_rfl)) (by unfold Func.isWrapper; first | (rw [if_pos (by decide +kernel)]; kernel_rfl) | (rw [if_neg (by decide +kernel)]; exact ⟨rfl, rfl⟩))
    (fun os started H enc _ => turnsFrom_lifted os started H enc)
#print axioms turnsFrom_holds
end Go.Proofs.YtgciglnkofoacaaGreat
