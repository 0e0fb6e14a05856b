/- snicketref17.Add and Drop. -/
import Derived.Test.YtgciglnkofoacaaGreatTd
import Derived.Test.YtgciglnkofoacaaGreatCx
namespace Go.Proofs.YtgciglnkofoacaaGreat
open Go.RowKit
open R (In64 InU64 lo64 nth)

theorem ltB_asym {a b : Bn} (h : ltB a b = true) : ltB b a = false := by
  cases g : ltB b a with
  | false => rfl
  | true =>
    have := ltB_trans h g
    rw [ltB_self] at this
    cases this
theorem place_ex {L : List Bn} (b : Bn) (hr : riseB L) : ∃ i, placeB L b i := by
  have key : ∀ n : Nat, n ≤ L.length → ∃ k, k ≤ n ∧ (∀ i, i < k → ltB (nth L i) b = true) ∧ (k < n → ltB (nth L k) b = false) := fun n => by
    induction n with
    | zero => exact fun _ => ⟨0, Nat.le_refl _, fun i hi => absurd hi (Nat.not_lt_zero _), fun h => absurd h (Nat.lt_irrefl _)⟩
    | succ n ih =>
      intro hn
      obtain ⟨k, h1, h2, h3⟩ := ih (by omega)
      by_cases h : k < n
      · exact ⟨k, by omega, h2, fun _ => h3 h⟩
      · obtain rfl : k = n := by omega
        cases hk : ltB (nth L k) b with
        | false => exact ⟨k, by omega, h2, fun _ => hk⟩
        | true =>
          refine ⟨k + 1, Nat.le_refl _, fun i hi => ?_, fun h => absurd h (Nat.lt_irrefl _)⟩
          rcases Nat.lt_or_ge i k with g | g
          · exact h2 i g
          · obtain rfl : i = k := by omega
            exact hk
  obtain ⟨k, h1, h2, h3⟩ := key L.length (Nat.le_refl _)
  refine ⟨k, h1, h2, fun j hj hjl => ?_⟩
  rcases Nat.eq_or_lt_of_le hj with rfl | g
  · exact h3 hjl
  · cases hc : ltB (nth L j) b with
    | false => rfl
    | true =>
      have := ltB_trans (hr k j g hjl) hc
      rw [h3 (by omega)] at this
      cases this
theorem place_one {L : List Bn} {b : Bn} {i j : Nat} (h : placeB L b i) (g : placeB L b j) : i = j := by
  rcases Nat.lt_trichotomy i j with q | q | q
  · have h1 := g.2.1 i q
    have := g.1
    rw [h.2.2 i (Nat.le_refl _) (by omega)] at h1
    cases h1
  · exact q
  · have h1 := h.2.1 j q
    have := h.1
    rw [g.2.2 j (Nat.le_refl _) (by omega)] at h1
    cases h1
/-- What is laid so far. -/
def outA (L : List Bn) (i : Nat) (b : Bn) (j : Nat) : List Bn := if j ≤ i then L.take j else L.take i ++ b :: (L.take j).drop i
theorem outA_lo {L : List Bn} {i j : Nat} {b : Bn} (h : j < i) (hj : j < L.length) : outA L i b (j + 1) = outA L i b j ++ [nth L j] := by
  unfold outA
  rw [if_pos (by omega), if_pos (by omega), take_snoc hj]
theorem outA_hi {L : List Bn} {i j : Nat} {b : Bn} (h : i < j) (hj : j < L.length) : outA L i b (j + 1) = outA L i b j ++ [nth L j] := by
  unfold outA
  rw [if_neg (by omega), if_neg (by omega), take_snoc hj, List.drop_append_of_le_length (by rw [List.length_take]; omega)]
  simp
theorem outA_at {L : List Bn} {i : Nat} {b : Bn} (hj : i < L.length) : outA L i b (i + 1) = (outA L i b i ++ [b]) ++ [nth L i] := by
  unfold outA
  rw [if_neg (by omega), if_pos (by omega), take_snoc hj, List.drop_append_of_le_length (by rw [List.length_take]; omega), List.drop_eq_nil_of_le (by rw [List.length_take]; omega)]
  simp
theorem outA_len {L : List Bn} {i j : Nat} {b : Bn} (hj : j ≤ L.length) : (outA L i b j).length = j + if j ≤ i then 0 else 1 := by
  unfold outA
  split
  · rw [List.length_take]; omega
  · rw [List.length_append, List.length_cons, List.length_take, List.length_drop, List.length_take]; omega
theorem outA_end {L : List Bn} {i : Nat} {b : Bn} (h : i < L.length) : outA L i b L.length = insAt L i b := by
  unfold outA insAt
  rw [if_neg (by omega), List.take_length]
theorem outA_end0 {L : List Bn} {b : Bn} : outA L L.length b L.length ++ [b] = insAt L L.length b := by
  unfold outA insAt
  rw [if_pos (Nat.le_refl _), List.take_length, List.drop_length]
/-- What is kept. -/
def outD (L : List Bn) (b : Bn) (j : Nat) : List Bn := (L.take j).filter fun y => decide (y ≠ b)
theorem outD_t {L : List Bn} {b : Bn} {j : Nat} (hj : j < L.length) (h : nth L j ≠ b) : outD L b (j + 1) = outD L b j ++ [nth L j] := by
  unfold outD
  rw [take_snoc hj, List.filter_append]
  simp [h]
theorem outD_f {L : List Bn} {b : Bn} {j : Nat} (hj : j < L.length) (h : nth L j = b) : outD L b (j + 1) = outD L b j := by
  unfold outD
  rw [take_snoc hj, List.filter_append]
  simp [h]
theorem outD_len (L : List Bn) (b : Bn) (j : Nat) : (outD L b j).length ≤ j := by
  unfold outD
  refine Nat.le_trans (List.length_filter_le _ _) ?_
  rw [List.length_take]
  omega
theorem outD_all {L : List Bn} {b : Bn} (h : b ∉ L) : outD L b L.length = L := by
  unfold outD
  rw [List.take_length, List.filter_eq_self]
  intro y hy
  exact decide_eq_true fun e => h (by rw [← e]; exact hy)
theorem outD_one {L : List Bn} {b : Bn} {i : Nat} (hr : riseB L) (hi : i < L.length) (hb : nth L i = b) : outD L b L.length = L.take i ++ L.drop (i + 1) := by
  have hne : ∀ j, j < L.length → j ≠ i → nth L j ≠ b := fun j hj hji e => by
    rcases Nat.lt_or_ge j i with g | g
    · have := hr j i g hi
      rw [e, hb, ltB_self] at this
      cases this
    · have := hr i j (by omega) hj
      rw [e, hb, ltB_self] at this
      cases this
  unfold outD
  rw [List.take_length]
  conv => lhs; rw [← List.take_append_drop i L]
  rw [List.filter_append]
  congr 1
  · rw [List.filter_eq_self]
    intro y hy
    obtain ⟨q, hq, rfl⟩ := List.getElem_of_mem hy
    rw [List.length_take] at hq
    have := hne q (by omega) (by omega)
    rw [R.nth_eq (by omega)] at this
    exact decide_eq_true (by rw [List.getElem_take]; exact this)
  · rw [List.drop_eq_getElem_cons hi, List.filter_cons_of_neg (by rw [← R.nth_eq hi, hb]; simp), List.filter_eq_self]
    intro y hy
    obtain ⟨q, hq, rfl⟩ := List.getElem_of_mem hy
    rw [List.length_drop] at hq
    have := hne (i + 1 + q) (by omega) (by omega)
    rw [R.nth_eq (by omega)] at this
    exact decide_eq_true (by rw [List.getElem_drop]; exact this)
section
variable (x : Nt) (r : Rl) (b : Bn) (w : World)
attribute [local irreducible] cS cR cSp cW folB ordB ltB wayB in
set_option maxHeartbeats 4000000 in
theorem rdrop_any (hG : GNt w x) (hR : GRl w r) : Calls Tryz.prog 32 #[.agg (cNt x).toArray, .agg (cRl r).toArray, .agg (cBn b).toArray] w fun e w' => ∃ A c, (dropE x r b = 0 → e = .returned (.tuple #[.agg #[.slice A (outD r.b.L b r.b.n).length c, .int .i64 r.p], .int .i64 0]) ∧ R.Gives w w' A (outD r.b.L b r.b.n).length c 50 3 ((outD r.b.L b r.b.n).flatMap cBn)) ∧ (dropE x r b ≠ 0 → e = .returned (.tuple #[.agg #[.slice none 0 0, .int .i64 0], .int .i64 (dropE x r b)]) ∧ Below w.heap.size w w') := by
  have hM := R.Own.start [] w
  have hL := hG.lasts
  have hLR := hR.lasts
  obtain ⟨⟨r1, r2, r3, -⟩, -⟩ := hR
  cases hr : rulesB x r with
  | false =>
    have e : dropE x r b = 1 := by unfold dropE; rw [hr]; rfl
    rw [e]
    refine R.calls_of_WC (fn := Tryz.f32) Tryz.func32 rfl Tryz.ntmps32 (Nat.le_of_ble_eq_true rfl) ?_
    (refine R.stepV ?_; (repeat' (first | (with_reducible refine And.intro ?_ ?_) | (with_reducible intro _))); all_goals refine R.Lft.mk ?_)
    all_goals first
      | exact ⟨none, 0, fun h => absurd h (by decide), fun _ => ⟨rfl, R.Own.below (by assumption)⟩⟩
      | exact nbw_f hr (by assumption)
  | true =>
    have hrp := rulesB_of hr
    have hrise := riseB_rules r2 hrp
    have hn2 := hrp.2.1
    refine R.calls_of_WC (fn := Tryz.f32) Tryz.func32 rfl Tryz.ntmps32 (Nat.le_of_ble_eq_true rfl) ?_
    (refine R.stepV ?_; (repeat' (first | (with_reducible refine And.intro ?_ ?_) | (with_reducible intro _))); all_goals refine R.Lft.mk ?_)
    · exact nbw_t hr (by assumption)
    rename_i g2 _ _ g3 _ _ g6 _ _ _ _ _ g8 _ _ _ hM
    have hM := R.Own.nil hM 50 3
    refine R.WC_loop (fun i : Nat × Option Addr × Nat => [(4, .pointer (some ⟨g2, 0, none⟩)), (5, .pointer (some ⟨g3, 0, none⟩)), (6, .pointer (some ⟨g6, 0, none⟩)), (7, .int .i64 0), (8, .pointer (some ⟨g8, 0, none⟩)), (9, .int .i64 (i.1 : Nat))])
      (fun i w2 => i.1 ≤ r.b.n ∧ R.Own [] w w2 [.row i.2.1 (outD r.b.L b i.1).length i.2.2 50 3 ((outD r.b.L b i.1).flatMap cBn), .blk g8 29 [.slice i.2.1 (outD r.b.L b i.1).length i.2.2, .int .i64 r.p], .blk g6 29 [.slice none 0 0, .int .i64 0], .blk g3 50 (cBn b), .blk g2 29 (cRl r)]) (fun i => r.b.n - i.1)
      ⟨(0, none, 0), ⟨rfl, rfl, rfl, rfl, rfl, rfl, trivial⟩, by simp, hM.sub R.subl⟩ ?_
    clear hM
    rintro ⟨k, A, c⟩ f w2 ⟨hk, hM⟩
    dsimp only at hk hM ⊢
    have hol := outD_len r.b.L b k
    by_cases hlt : k < r.b.n
    · have hAs : ∃ a, r.b.A = some a := (R.Own.rdIn hM r1).some_ (by omega) (by decide)
      (refine R.stepU ?_; (repeat' (first | (with_reducible refine And.intro ?_ ?_) | (with_reducible intro _))); all_goals refine R.Lft.mk ?_)
      · rename_i hne
        have hs := outD_t (j := k) (by omega) hne
        refine R.WC_planXD1 [(0, false), (1, false), (2, false), (3, false), (4, false), (5, false), (6, false), (7, true), (8, true), (9, false), (10, true)] R.mixed (by decide +kernel) R.ohm ?_
        (refine R.stepU ?_; (repeat' (first | (with_reducible refine And.intro ?_ ?_) | (with_reducible intro _))); all_goals refine R.Lft.mk ?_)
        rename_i A2 c2 _ _ _ hM
        rw [← hs] at hM
        have hl : (outD r.b.L b (k + 1)).length = (outD r.b.L b k).length + 1 := by rw [hs, List.length_append]; rfl
        rw [← hl] at hM
        exact ⟨(k + 1, A2, c2), ⟨rfl, rfl, rfl, rfl, rfl, R.viaI rfl (by dsimp only; omega), trivial⟩, ⟨by dsimp only; omega, hM⟩, by dsimp only; omega⟩
      · rename_i heq
        have hs := outD_f (j := k) (by omega) (Decidable.not_not.1 heq)
        exact ⟨(k + 1, A, c), ⟨rfl, rfl, rfl, rfl, rfl, R.viaI rfl (by dsimp only; omega), trivial⟩, ⟨by dsimp only; omega, by dsimp only; rw [hs]; assumption⟩, by dsimp only; omega⟩
    · obtain rfl : k = r.b.n := by omega
      by_cases hm : b ∈ r.b.L
      · have e : dropE x r b = 0 := by unfold dropE; rw [hr, if_pos rfl, if_pos hm]
        have hll : (outD r.b.L b r.b.n).length ≠ r.b.n := by
          obtain ⟨i, hi⟩ := place_ex b hrise
          obtain ⟨h1, h2⟩ := place_mem hrise hi hm
          rw [r2, outD_one hrise h1 h2, List.length_append, List.length_take, List.length_drop]
          omega
        rw [e]
        (refine R.stepU ?_; (repeat' (first | (with_reducible refine And.intro ?_ ?_) | (with_reducible intro _))); all_goals refine R.Lft.mk ?_)
        all_goals first
          | (exfalso; omega)
          | skip
        rename_i hM
        exact ⟨A, c, fun _ => ⟨rfl, hM.gives⟩, fun h => absurd rfl h⟩
      · have e : dropE x r b = 3 := by unfold dropE; rw [hr, if_pos rfl, if_neg hm]
        have hll : (outD r.b.L b r.b.n).length = r.b.n := by rw [r2, outD_all hm]
        rw [e]
        (refine R.stepU ?_; (repeat' (first | (with_reducible refine And.intro ?_ ?_) | (with_reducible intro _))); all_goals refine R.Lft.mk ?_)
        all_goals first
          | (exfalso; omega)
          | exact ⟨none, 0, fun h => absurd h (by decide), fun _ => ⟨rfl, R.Own.below (by assumption)⟩⟩
/-- What is laid when a ban is added. -/
def addL (r : Rl) (b : Bn) (i : Nat) : List Bn := insAt r.b.L i b
attribute [local irreducible] cS cR cSp cW folB ordB ltB wayB in
set_option maxHeartbeats 4000000 in
theorem radd_early (hG : GNt w x) (hR : GRl w r) (hb : GBn w b) (hE : (rulesB x r && folB x b.frm b.to) = false) : Calls Tryz.prog 31 #[.agg (cNt x).toArray, .agg (cRl r).toArray, .agg (cBn b).toArray] w fun e w' => e = .returned (.tuple #[.agg #[.slice none 0 0, .int .i64 0], .int .i64 1]) ∧ Below w.heap.size w w' := by
  have hM := R.Own.start [] w
  have hL := hG.lasts
  have hLR := hR.lasts
  obtain ⟨v1, v2⟩ := bn64 hb
  cases hr : rulesB x r with
  | false =>
    refine R.calls_of_WC (fn := Tryz.f31) Tryz.func31 rfl Tryz.ntmps31 (Nat.le_of_ble_eq_true rfl) ?_
    (refine R.stepV ?_; (repeat' (first | (with_reducible refine And.intro ?_ ?_) | (with_reducible intro _))); all_goals refine R.Lft.mk ?_)
    all_goals first
      | exact ⟨rfl, R.Own.below (by assumption)⟩
      | exact nbw_f hr (by assumption)
      | exact bbw_t (by assumption) hr
  | true =>
    rw [hr] at hE
    have hf : folB x b.frm b.to = false := hE
    have hne := netB_e (rulesB_of hr).1
    refine R.calls_of_WC (fn := Tryz.f31) Tryz.func31 rfl Tryz.ntmps31 (Nat.le_of_ble_eq_true rfl) ?_
    (refine R.stepV ?_; (repeat' (first | (with_reducible refine And.intro ?_ ?_) | (with_reducible intro _))); all_goals refine R.Lft.mk ?_)
    all_goals first
      | exact ⟨rfl, R.Own.below (by assumption)⟩
      | exact nbw_t hr (by assumption)
      | exact nbw_f hf (by assumption)
attribute [local irreducible] cS cR cSp cW folB ordB ltB wayB in
set_option maxHeartbeats 4000000 in
theorem radd_there (hG : GNt w x) (hR : GRl w r) (hb : GBn w b) (hr : rulesB x r = true) (hf : folB x b.frm b.to = true) (hm : b ∈ r.b.L) : Calls Tryz.prog 31 #[.agg (cNt x).toArray, .agg (cRl r).toArray, .agg (cBn b).toArray] w fun e w' => e = .returned (.tuple #[.agg #[.slice none 0 0, .int .i64 0], .int .i64 7]) ∧ Below w.heap.size w w' := by
  have hM := R.Own.start [] w
  have hL := hG.lasts
  have hLR := hR.lasts
  obtain ⟨v1, v2⟩ := bn64 hb
  obtain ⟨⟨r1, r2, r3, -⟩, -⟩ := hR
  have hrp := rulesB_of hr
  have hne := netB_e hrp.1
  have hrise := riseB_rules r2 hrp
  have hn2 := hrp.2.1
  obtain ⟨i0, hi0⟩ := place_ex b hrise
  obtain ⟨h1, h2⟩ := place_mem hrise hi0 hm
  refine R.calls_of_WC (fn := Tryz.f31) Tryz.func31 rfl Tryz.ntmps31 (Nat.le_of_ble_eq_true rfl) ?_
  (refine R.stepV ?_; (repeat' (first | (with_reducible refine And.intro ?_ ?_) | (with_reducible intro _))); all_goals refine R.Lft.mk ?_)
  · exact nbw_t hr (by assumption)
  · exact nbw_t hf (by assumption)
  rename_i g2 _ _ g3 _ _ g6 _ _ _ _ _ _ _ _ g8 _ _ _ hM
  have hM := R.Own.nil hM 50 3
  refine R.WC_loop (fun i : Nat × Option Addr × Nat => [(4, .pointer (some ⟨g2, 0, none⟩)), (5, .pointer (some ⟨g3, 0, none⟩)), (6, .pointer (some ⟨g6, 0, none⟩)), (7, .int .i64 0), (8, .pointer (some ⟨g8, 0, none⟩)), (9, .bool false), (10, .int .i64 (i.1 : Nat))])
    (fun i w2 => i.1 ≤ i0 ∧ R.Own [] w w2 [.row i.2.1 i.1 i.2.2 50 3 ((r.b.L.take i.1).flatMap cBn), .blk g8 29 [.slice i.2.1 i.1 i.2.2, .int .i64 r.p], .blk g6 29 [.slice none 0 0, .int .i64 0], .blk g3 50 (cBn b), .blk g2 29 (cRl r)]) (fun i => r.b.n - i.1)
    ⟨(0, none, 0), ⟨rfl, rfl, rfl, rfl, rfl, rfl, rfl, trivial⟩, by simp, hM.sub R.subl⟩ ?_
  clear hM
  rintro ⟨k, A, c⟩ f w2 ⟨hk, hM⟩
  dsimp only at hk hM ⊢
  by_cases hlt : k < i0
  · have hAs : ∃ a, r.b.A = some a := (R.Own.rdIn hM r1).some_ (by omega) (by decide)
    have hs := take_snoc (L := r.b.L) (k := k) (by omega)
    have hl : (r.b.L.take k).length = k := by rw [List.length_take]; omega
    have hlt2 : ltB b (nth r.b.L k) = false := ltB_asym (hi0.2.1 k hlt)
    have hne : nth r.b.L k ≠ b := fun e => by
      have := hi0.2.1 k hlt
      rw [e, ltB_self] at this
      cases this
    (refine R.stepU ?_; (repeat' (first | (with_reducible refine And.intro ?_ ?_) | (with_reducible intro _))); all_goals refine R.Lft.mk ?_)
    · exact bbw_t (by assumption) hlt2
    · refine R.WC_planXD1 [(0, false), (1, false), (2, false), (3, false), (4, false), (5, false), (6, false), (7, true), (8, true), (9, false), (10, true)] R.mixed (by decide +kernel) R.ohm ?_
      (refine R.stepU ?_; (repeat' (first | (with_reducible refine And.intro ?_ ?_) | (with_reducible intro _))); all_goals refine R.Lft.mk ?_)
      rename_i A2 c2 _ _ _ hM
      rw [← hs] at hM
      exact ⟨(k + 1, A2, c2), ⟨rfl, rfl, rfl, rfl, rfl, rfl, R.viaI rfl (by dsimp only; omega), trivial⟩, ⟨by dsimp only; omega, hM⟩, by dsimp only; omega⟩
  · obtain rfl : k = i0 := by omega
    (refine R.stepU ?_; (repeat' (first | (with_reducible refine And.intro ?_ ?_) | (with_reducible intro _))); all_goals refine R.Lft.mk ?_)
    exact ⟨rfl, R.Own.below (by assumption)⟩
attribute [local irreducible] cS cR cSp cW folB ordB ltB wayB in
set_option maxHeartbeats 4000000 in
theorem radd_new (hG : GNt w x) (hR : GRl w r) (hb : GBn w b) (hr : rulesB x r = true) (hf : folB x b.frm b.to = true) (hm : b ∉ r.b.L) : Calls Tryz.prog 31 #[.agg (cNt x).toArray, .agg (cRl r).toArray, .agg (cBn b).toArray] w fun e w' => ∃ i A c, placeB r.b.L b i ∧ (r.b.n ≠ 2000 → e = .returned (.tuple #[.agg #[.slice A (r.b.n + 1) c, .int .i64 r.p], .int .i64 0]) ∧ R.Gives w w' A (r.b.n + 1) c 50 3 ((insAt r.b.L i b).flatMap cBn)) ∧ (r.b.n = 2000 → e = .returned (.tuple #[.agg #[.slice none 0 0, .int .i64 0], .int .i64 4]) ∧ Below w.heap.size w w') := by
  have hM := R.Own.start [] w
  have hL := hG.lasts
  have hLR := hR.lasts
  obtain ⟨v1, v2⟩ := bn64 hb
  obtain ⟨⟨r1, r2, r3, -⟩, -⟩ := hR
  have hrp := rulesB_of hr
  have hne := netB_e hrp.1
  have hrise := riseB_rules r2 hrp
  have hn2 := hrp.2.1
  obtain ⟨i0, hi0⟩ := place_ex b hrise
  have hi1 := hi0.1
  refine R.calls_of_WC (fn := Tryz.f31) Tryz.func31 rfl Tryz.ntmps31 (Nat.le_of_ble_eq_true rfl) ?_
  (refine R.stepV ?_; (repeat' (first | (with_reducible refine And.intro ?_ ?_) | (with_reducible intro _))); all_goals refine R.Lft.mk ?_)
  · exact nbw_t hr (by assumption)
  · exact nbw_t hf (by assumption)
  rename_i g2 _ _ g3 _ _ g6 _ _ _ _ _ _ _ _ g8 _ _ _ hM
  have hM := R.Own.nil hM 50 3
  refine R.WC_loop (fun i : Nat × Bool × Option Addr × Nat => [(4, .pointer (some ⟨g2, 0, none⟩)), (5, .pointer (some ⟨g3, 0, none⟩)), (6, .pointer (some ⟨g6, 0, none⟩)), (7, .int .i64 0), (8, .pointer (some ⟨g8, 0, none⟩)), (9, .bool i.2.1), (10, .int .i64 (i.1 : Nat))])
    (fun i w2 => i.1 ≤ r.b.n ∧ i.2.1 = decide (i0 < i.1) ∧ R.Own [] w w2 [.row i.2.2.1 (outA r.b.L i0 b i.1).length i.2.2.2 50 3 ((outA r.b.L i0 b i.1).flatMap cBn), .blk g8 29 [.slice i.2.2.1 (outA r.b.L i0 b i.1).length i.2.2.2, .int .i64 r.p], .blk g6 29 [.slice none 0 0, .int .i64 0], .blk g3 50 (cBn b), .blk g2 29 (cRl r)]) (fun i => r.b.n - i.1)
    ⟨(0, false, none, 0), ⟨rfl, rfl, rfl, rfl, rfl, rfl, rfl, trivial⟩, by simp, (decide_eq_false (Nat.not_lt_zero _)).symm, hM.sub R.subl⟩ ?_
  clear hM
  rintro ⟨k, dn, A, c⟩ f w2 ⟨hk, hd, hM⟩
  dsimp only at hk hd hM ⊢
  have hol := outA_len (L := r.b.L) (i := i0) (j := k) (b := b) (by omega)
  by_cases hlt : k < r.b.n
  · have hAs : ∃ a, r.b.A = some a := (R.Own.rdIn hM r1).some_ (by omega) (by decide)
    have hne : nth r.b.L k ≠ b := fun e => hm (by rw [← e]; exact R.nth_mem (by omega))
    rcases Nat.lt_trichotomy k i0 with q | q | q
    · rw [decide_eq_false (by omega)] at hd
      subst hd
      have hs := outA_lo (L := r.b.L) (b := b) q (by omega)
      rw [if_pos (by omega), Nat.add_zero] at hol
      have hlt2 : ltB b (nth r.b.L k) = false := ltB_asym (hi0.2.1 k q)
      (refine R.stepU ?_; (repeat' (first | (with_reducible refine And.intro ?_ ?_) | (with_reducible intro _))); all_goals refine R.Lft.mk ?_)
      · exact bbw_t (by assumption) hlt2
      · refine R.WC_planXD1 [(0, false), (1, false), (2, false), (3, false), (4, false), (5, false), (6, false), (7, true), (8, true), (9, false), (10, true)] R.mixed (by decide +kernel) R.ohm ?_
        (refine R.stepU ?_; (repeat' (first | (with_reducible refine And.intro ?_ ?_) | (with_reducible intro _))); all_goals refine R.Lft.mk ?_)
        rename_i A2 c2 _ _ _ hM
        rw [← hs] at hM
        have hl : (outA r.b.L i0 b (k + 1)).length = (outA r.b.L i0 b k).length + 1 := by rw [hs, List.length_append]; rfl
        rw [← hl] at hM
        exact ⟨(k + 1, false, A2, c2), ⟨rfl, rfl, rfl, rfl, rfl, rfl, R.viaI rfl (by dsimp only; omega), trivial⟩, ⟨by dsimp only; omega, (decide_eq_false (by dsimp only; omega)).symm, hM⟩, by dsimp only; omega⟩
    · obtain rfl := q
      rw [decide_eq_false (by omega)] at hd
      subst hd
      have hs := outA_at (L := r.b.L) (i := k) (b := b) (by omega)
      rw [if_pos (by omega), Nat.add_zero] at hol
      have hlt2 : ltB b (nth r.b.L k) = true := by
        rcases ltB_tri (hi0.2.2 k (Nat.le_refl _) (by omega)) with h | h
        · exact absurd h hne
        · exact h
      (refine R.stepU ?_; (repeat' (first | (with_reducible refine And.intro ?_ ?_) | (with_reducible intro _))); all_goals refine R.Lft.mk ?_)
      · refine R.WC_planXD1 [(0, false), (1, false), (2, false), (3, false), (4, false), (5, false), (6, false), (7, true), (8, true), (9, false), (10, true)] R.mixed (by decide +kernel) R.ohm ?_
        (refine R.stepU ?_; (repeat' (first | (with_reducible refine And.intro ?_ ?_) | (with_reducible intro _))); all_goals refine R.Lft.mk ?_)
        rename_i A2 c2 _ _ _ hM
        have hl : (outA r.b.L k b (k + 1)).length = (outA r.b.L k b k).length + 1 + 1 := by rw [hs, List.length_append, List.length_append]; rfl
        rw [← hs, ← hl] at hM
        exact ⟨(k + 1, true, A2, c2), ⟨rfl, rfl, rfl, rfl, rfl, rfl, R.viaI rfl (by dsimp only; omega), trivial⟩, ⟨by dsimp only; omega, (decide_eq_true (by dsimp only; omega)).symm, hM⟩, by dsimp only; omega⟩
      · exact bbw_t hlt2 (by assumption)
    · rw [decide_eq_true q] at hd
      subst hd
      have hs := outA_hi (L := r.b.L) (b := b) q (by omega)
      rw [if_neg (by omega)] at hol
      (refine R.stepU ?_; (repeat' (first | (with_reducible refine And.intro ?_ ?_) | (with_reducible intro _))); all_goals refine R.Lft.mk ?_)
      refine R.WC_planXD1 [(0, false), (1, false), (2, false), (3, false), (4, false), (5, false), (6, false), (7, true), (8, true), (9, false), (10, true)] R.mixed (by decide +kernel) R.ohm ?_
      (refine R.stepU ?_; (repeat' (first | (with_reducible refine And.intro ?_ ?_) | (with_reducible intro _))); all_goals refine R.Lft.mk ?_)
      rename_i A2 c2 _ _ _ hM
      have hl : (outA r.b.L i0 b (k + 1)).length = (outA r.b.L i0 b k).length + 1 := by rw [hs, List.length_append]; rfl
      rw [← hs, ← hl] at hM
      exact ⟨(k + 1, true, A2, c2), ⟨rfl, rfl, rfl, rfl, rfl, rfl, R.viaI rfl (by dsimp only; omega), trivial⟩, ⟨by dsimp only; omega, (decide_eq_true (by dsimp only; omega)).symm, hM⟩, by dsimp only; omega⟩
  · obtain rfl : k = r.b.n := by omega
    by_cases hin : i0 < r.b.n
    · rw [decide_eq_true hin] at hd
      subst hd
      have hs := outA_end (b := b) (show i0 < r.b.L.length by omega)
      rw [← r2] at hs
      rw [if_neg (by omega)] at hol
      by_cases h2 : r.b.n = 2000
      · (refine R.stepU ?_; (repeat' (first | (with_reducible refine And.intro ?_ ?_) | (with_reducible intro _))); all_goals refine R.Lft.mk ?_)
        exact ⟨i0, none, 0, hi0, fun h => absurd h2 h, fun _ => ⟨rfl, R.Own.below (by assumption)⟩⟩
      · (refine R.stepU ?_; (repeat' (first | (with_reducible refine And.intro ?_ ?_) | (with_reducible intro _))); all_goals refine R.Lft.mk ?_)
        rename_i hM
        have hl : (outA r.b.L i0 b r.b.n).length = r.b.n + 1 := hol
        rw [hl, hs] at hM
        exact ⟨i0, A, c, hi0, fun _ => ⟨by rw [hl], hM.gives⟩, fun h => absurd h h2⟩
    · obtain rfl : i0 = r.b.n := by omega
      rw [decide_eq_false (by omega)] at hd
      subst hd
      rw [if_pos (by omega)] at hol
      have hl : (outA r.b.L r.b.n b r.b.n).length = r.b.n := hol
      have hs : outA r.b.L r.b.n b r.b.n ++ [b] = insAt r.b.L r.b.n b := by
        have := outA_end0 (L := r.b.L) (b := b)
        rw [← r2] at this
        exact this
      by_cases h2 : r.b.n = 2000
      · (refine R.stepU ?_; (repeat' (first | (with_reducible refine And.intro ?_ ?_) | (with_reducible intro _))); all_goals refine R.Lft.mk ?_)
        exact ⟨r.b.n, none, 0, hi0, fun h => absurd h2 h, fun _ => ⟨rfl, R.Own.below (by assumption)⟩⟩
      · (refine R.stepU ?_; (repeat' (first | (with_reducible refine And.intro ?_ ?_) | (with_reducible intro _))); all_goals refine R.Lft.mk ?_)
        rename_i A2 c2 _ _ _ _ _ hM
        rw [hl, hs] at hM
        exact ⟨r.b.n, A2, c2, hi0, fun _ => ⟨by rw [hl]; rfl, hM.gives⟩, fun h => absurd h h2⟩
end
end Go.Proofs.YtgciglnkofoacaaGreat
