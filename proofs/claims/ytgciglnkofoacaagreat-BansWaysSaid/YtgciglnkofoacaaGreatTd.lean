/- slices.BinarySearchFunc on bans. bans.Add and bans.Drop; a ban laid in and taken out again; snicketref17.Same. -/
import Derived.Test.YtgciglnkofoacaaGreatTb
import Derived.Test.YtgciglnkofoacaaGreatTi
namespace Go.Proofs.YtgciglnkofoacaaGreat
open Go.RowKit
open R (In64 InU64 lo64 nth)

theorem ltB_trans {a b c : Bn} (h : ltB a b = true) (g : ltB b c = true) : ltB a c = true := by
  rw [ltB_iff] at h g ⊢
  rcases h with h | ⟨h, h2 | ⟨h2, h3, h4⟩⟩
  · rcases g with g | ⟨g, _⟩ <;> exact .inl (by omega)
  · rcases g with g | ⟨g, g2 | ⟨g2, _⟩⟩
    · exact .inl (by omega)
    · exact .inr ⟨by omega, .inl (by omega)⟩
    · exact .inr ⟨by omega, .inl (by omega)⟩
  · rcases g with g | ⟨g, g2 | ⟨g2, g3, _⟩⟩
    · exact .inl (by omega)
    · exact .inr ⟨by omega, .inl (by omega)⟩
    · rw [h4] at g3
      cases g3
theorem ltB_self (a : Bn) : ltB a a = false := by
  cases h : ltB a a with
  | false => rfl
  | true =>
    rw [ltB_iff] at h
    rcases h with h | ⟨_, h | ⟨_, h, g⟩⟩
    · omega
    · omega
    · rw [h] at g
      cases g
theorem ltB_tri {a b : Bn} (h : ltB a b = false) : a = b ∨ ltB b a = true := by
  by_cases e : a = b
  · exact .inl e
  · refine .inr ?_
    rw [ltB_iff]
    have h : ¬ ltB a b = true := by rw [h]; decide
    rw [ltB_iff] at h
    have k : a.frm = b.frm → a.to = b.to → a.only ≠ b.only := fun h1 h2 h3 => e (by cases a; cases b; simp_all)
    cases ha : a.only <;> cases hb : b.only <;> rw [ha, hb] at h k <;> simp at h k ⊢ <;> omega
/-- A row of bans that rises. -/
def riseB (L : List Bn) : Prop := ∀ i j, i < j → j < L.length → ltB (nth L i) (nth L j) = true
theorem riseB_of {L : List Bn} (h : ∀ i, i + 1 < L.length → ltB (nth L i) (nth L (i + 1)) = true) : riseB L := fun i j hij hj => by
  induction j with
  | zero => exact absurd hij (Nat.not_lt_zero _)
  | succ j ih =>
    have h1 := h j hj
    rcases Nat.lt_succ_iff_lt_or_eq.1 hij with h2 | rfl
    · exact ltB_trans (ih h2 (by omega)) h1
    · exact h1
/-- The place of a ban. -/
def placeB (L : List Bn) (t : Bn) (i : Nat) : Prop := i ≤ L.length ∧ (∀ j, j < i → ltB (nth L j) t = true) ∧ ∀ j, i ≤ j → j < L.length → ltB (nth L j) t = false
set_option maxHeartbeats 1000000 in
attribute [local irreducible] ordB ltB in
theorem searchB (A : Option Addr) (n c : Nat) (L : List Bn) (t : Bn) (w : World) (hA : R.Inp [] w A n 3 (L.flatMap cBn)) (hn : n = L.length) (hb : n ≤ 1000000000) (hr : riseB L) :
    Calls Tryz.prog 50 #[.slice A n c, .agg (cBn t).toArray, .func (.func 51) #[] #[]] w fun e w' => (∃ i : Nat, placeB L t i ∧ e = .returned (.tuple #[.int .i64 (i : Nat), .bool (decide (t ∈ L))])) ∧ Below w.heap.size w w' := by
  have hM := R.Own.start [] w
  refine R.calls_of_WC (fn := Tryz.f50) Tryz.func50 rfl Tryz.ntmps50 (Nat.le_of_ble_eq_true rfl) ?_
  (refine R.stepV ?_; (repeat' (first | (with_reducible refine And.intro ?_ ?_) | (with_reducible intro _))); all_goals refine R.Lft.mk ?_)
  rename_i g w1 hM
  refine R.WC_loop (fun (i : Nat × Nat) => [(0, .slice A n c), (2, .func (.func 51) #[] #[]), (4, .pointer (some ⟨g, 0, none⟩)), (6, .int .i64 0), (7, .bool false), (8, .int .i64 (n : Nat)), (9, .int .i64 (i.1 : Nat)), (10, .int .i64 (i.2 : Nat))])
    (fun i w1 => i.1 ≤ i.2 ∧ i.2 ≤ n ∧ R.Own [] w w1 [.blk g 50 (cBn t)] ∧ (∀ j, j < i.1 → ltB (nth L j) t = true) ∧ (∀ j, i.2 ≤ j → j < L.length → ltB (nth L j) t = false)) (fun i => i.2 - i.1)
    ⟨(0, n), ⟨rfl, rfl, rfl, rfl, rfl, rfl, rfl, rfl, trivial⟩, by simp, by simp, hM, by simp, by intro j h1 h2; simp at h1; omega⟩ ?_
  clear hM
  rintro ⟨i, j⟩ f w1 ⟨hij, hj, hM, h1, h2⟩
  simp only at hij hj hM h1 h2 ⊢
  by_cases hlt : i < j
  · obtain ⟨h, hh⟩ : ∃ h : Nat, ((i : Int) + j) / 2 = h := ⟨(i + j) / 2, by omega⟩
    have hh1 : i ≤ h := by omega
    have hh2 : h < j := by omega
    have hth : ((h : Nat) : Int).toNat = h := Int.toNat_natCast h
    (refine R.stepV ?_; (repeat' (first | (with_reducible refine And.intro ?_ ?_) | (with_reducible intro _))); all_goals refine R.Lft.mk ?_)
    · rename_i hx
      rw [hh, hth] at hx
      have hx := ordB_lt.1 hx
      exact ⟨(h + 1, j), ⟨rfl, rfl, rfl, rfl, rfl, rfl, R.viaI rfl (by simp only; omega), rfl, trivial⟩, ⟨by simp only; omega, hj, R.ohm, fun q hq => by
        simp only at hq
        rcases Nat.lt_or_ge q h with g | g
        · exact ltB_trans (hr q h g (by omega)) hx
        · obtain rfl : q = h := by omega
          exact hx, h2⟩, by simp only; omega⟩
    · rename_i hx
      rw [hh, hth] at hx
      have hx : ¬ ltB (nth L h) t = true := fun g => hx (ordB_lt.2 g)
      exact ⟨(i, h), ⟨rfl, rfl, rfl, rfl, rfl, rfl, rfl, R.viaI rfl (by simp only; omega), trivial⟩, ⟨by simp only; omega, by simp only; omega, R.ohm, h1, fun q hq hq2 => by
        simp only at hq
        cases hc : ltB (nth L q) t with
        | false => rfl
        | true =>
          rcases Nat.lt_or_ge h q with g | g
          · exact absurd (ltB_trans (hr h q g hq2) hc) hx
          · obtain rfl : q = h := by omega
            exact absurd hc hx⟩, by simp only; omega⟩
  · obtain rfl : i = j := by omega
    have hp : placeB L t i := ⟨by omega, h1, h2⟩
    have hmem : t ∈ L ↔ i < n ∧ nth L i = t := by
      constructor
      · intro hm
        obtain ⟨q, hq, hqt⟩ := List.getElem_of_mem hm
        rw [← R.nth_eq hq] at hqt
        have c1 : ¬ q < i := fun hqi => by
          have := h1 q hqi
          rw [hqt, ltB_self] at this
          cases this
        have c2 : ¬ i < q := fun hqi => by
          have g1 := hr i q hqi hq
          have g2 := h2 i (Nat.le_refl _) (by omega)
          rw [hqt, g2] at g1
          cases g1
        obtain rfl : q = i := by omega
        exact ⟨by omega, hqt⟩
      · rintro ⟨hi, hit⟩
        rw [← hit]
        exact R.nth_mem (by omega)
    by_cases hin : i < n
    · have he : decide (ordB (nth L i) t = 0) = decide (t ∈ L) := decide_eq_decide.2 ⟨fun g => hmem.2 ⟨hin, ordB_eq.1 g⟩, fun g => ordB_eq.2 (hmem.1 g).2⟩
      (refine R.stepU ?_; (repeat' (first | (with_reducible refine And.intro ?_ ?_) | (with_reducible intro _))); all_goals refine R.Lft.mk ?_)
      refine R.WC_planO [(0, false), (1, false), (2, false), (3, false), (4, false), (5, false), (6, false), (7, false), (8, false), (9, false), (10, false), (11, true), (12, false), (13, false), (14, false), (15, false)] R.mixed (by decide +kernel) R.ohm ?_
      (refine R.stepU ?_; (repeat' (first | (with_reducible refine And.intro ?_ ?_) | (with_reducible intro _))); all_goals refine R.Lft.mk ?_)
      all_goals first
        | (exfalso; omega)
        | exact ⟨⟨i, hp, by rw [he]⟩, R.Own.below (by assumption)⟩
    · have he := decide_eq_false (fun hm => hin (hmem.1 hm).1)
      (refine R.stepU ?_; (repeat' (first | (with_reducible refine And.intro ?_ ?_) | (with_reducible intro _))); all_goals refine R.Lft.mk ?_)
      refine R.WC_planO [(0, false), (1, false), (2, false), (3, false), (4, false), (5, false), (6, false), (7, false), (8, false), (9, false), (10, false), (11, true), (12, false), (13, false), (14, false), (15, false)] R.mixed (by decide +kernel) R.ohm ?_
      (refine R.stepU ?_; (repeat' (first | (with_reducible refine And.intro ?_ ?_) | (with_reducible intro _))); all_goals refine R.Lft.mk ?_)
      all_goals first
        | (exfalso; omega)
        | exact ⟨⟨i, hp, by rw [he]⟩, R.Own.below (by assumption)⟩
end Go.Proofs.YtgciglnkofoacaaGreat
namespace Go.Proofs.YtgciglnkofoacaaGreat
open Go.RowKit
open R (In64 InU64 lo64 nth)

theorem riseB_rules {x : Nt} {r : Rl} (hl : r.b.n = r.b.L.length) (h : rulesP x r) : riseB r.b.L := riseB_of fun i hi => (h.2.2.2.2 (i + 1) (by omega)).2 (by omega)
/-- What is told when a ban is added, or dropped. -/
noncomputable def addE (x : Nt) (r : Rl) (b : Bn) : Int := if rulesB x r && folB x b.frm b.to then (if b ∈ r.b.L then 7 else if r.b.n = 2000 then 4 else 0) else 1
noncomputable def dropE (x : Nt) (r : Rl) (b : Bn) : Int := if rulesB x r then (if b ∈ r.b.L then 0 else 3) else 1
section
variable (x : Nt) (r : Rl) (b : Bn) (w : World)
attribute [local irreducible] cS cR cSp cW folB ordB ltB wayB in
set_option maxHeartbeats 4000000 in
theorem badd_no (hG : GNt w x) (hR : GRl w r) (hb : GBn w b) (hE : addE x r b ≠ 0) : Calls Tryz.prog 29 #[.agg (cNt x).toArray, .agg (cRl r).toArray, .agg (cBn b).toArray] w fun e w' => e = .returned (.tuple #[.agg #[.slice none 0 0, .int .i64 0], .int .i64 (addE x r b)]) ∧ Below w.heap.size w w' := by
  have hM := R.Own.start [] w
  have hL := hG.lasts
  have hLR := hR.lasts
  obtain ⟨v1, v2⟩ := bn64 hb
  cases hr : rulesB x r with
  | false =>
    have e : addE x r b = 1 := by unfold addE; rw [hr]; rfl
    rw [e]
    refine R.calls_of_WC (fn := Tryz.f29) Tryz.func29 rfl Tryz.ntmps29 (Nat.le_of_ble_eq_true rfl) ?_
    (refine R.stepV ?_; (repeat' (first | (with_reducible refine And.intro ?_ ?_) | (with_reducible intro _))); all_goals refine R.Lft.mk ?_)
    all_goals first
      | exact ⟨rfl, R.Own.below (by assumption)⟩
      | exact nbw_f hr (by assumption)
  | true =>
    cases hf : folB x b.frm b.to with
    | false =>
      have e : addE x r b = 1 := by unfold addE; rw [hr, hf]; rfl
      rw [e]
      refine R.calls_of_WC (fn := Tryz.f29) Tryz.func29 rfl Tryz.ntmps29 (Nat.le_of_ble_eq_true rfl) ?_
      (refine R.stepV ?_; (repeat' (first | (with_reducible refine And.intro ?_ ?_) | (with_reducible intro _))); all_goals refine R.Lft.mk ?_)
      all_goals first
        | exact ⟨rfl, R.Own.below (by assumption)⟩
        | exact nbw_f hf (by assumption)
        | exact nbw_t hr (by assumption)
    | true =>
      have hrp := rulesB_of hr
      have hrise := riseB_rules hR.1.2.1 hrp
      have hn2 := hrp.2.1
      refine R.calls_of_WC (fn := Tryz.f29) Tryz.func29 rfl Tryz.ntmps29 (Nat.le_of_ble_eq_true rfl) ?_
      (refine R.stepV ?_; (repeat' (first | (with_reducible refine And.intro ?_ ?_) | (with_reducible intro _))); all_goals refine R.Lft.mk ?_)
      · exact nbw_t hr (by assumption)
      · exact nbw_t hf (by assumption)
      rename_i hM _
      refine R.WO_call3 rfl rfl R.vv R.vv R.vv ?_
      refine (searchB r.b.A r.b.n r.b.c r.b.L b _ (hM.inpIn hR.1.1) hR.1.2.1 (by omega) hrise).mono ?_
      rintro _ w2 ⟨⟨i, hi, rfl⟩, hb2⟩
      have hM := hM.call hb2
      refine ⟨_, rfl, ?_⟩
      by_cases hm : b ∈ r.b.L
      · have e : addE x r b = 7 := by unfold addE; rw [hr, hf, if_pos hm]; rfl
        rw [e, decide_eq_true hm]
        (refine R.stepV ?_; (repeat' (first | (with_reducible refine And.intro ?_ ?_) | (with_reducible intro _))); all_goals refine R.Lft.mk ?_; (all_goals (try (exact ⟨rfl, R.Own.below (by assumption)⟩))))
      · rw [decide_eq_false hm]
        by_cases h2 : r.b.n = 2000
        · have e : addE x r b = 4 := by unfold addE; rw [hr, hf, if_neg hm, if_pos h2]; rfl
          rw [e]
          (refine R.stepV ?_; (repeat' (first | (with_reducible refine And.intro ?_ ?_) | (with_reducible intro _))); all_goals refine R.Lft.mk ?_)
          all_goals first
            | exact ⟨rfl, R.Own.below (by assumption)⟩
            | (exfalso; omega)
        · exact absurd (by unfold addE; rw [hr, hf, if_neg hm, if_neg h2]; rfl) hE
theorem addE_0 (h : addE x r b = 0) : rulesB x r = true ∧ folB x b.frm b.to = true ∧ b ∉ r.b.L ∧ r.b.n ≠ 2000 := by
  unfold addE at h
  cases h1 : rulesB x r with
  | false => rw [h1] at h; cases h
  | true =>
    cases h2 : folB x b.frm b.to with
    | false => rw [h1, h2] at h; cases h
    | true =>
      rw [h1, h2, if_pos (show (true && true) = true from rfl)] at h
      by_cases h3 : b ∈ r.b.L
      · rw [if_pos h3] at h; cases h
      · rw [if_neg h3] at h
        by_cases h4 : r.b.n = 2000
        · rw [if_pos h4] at h; cases h
        · exact ⟨rfl, rfl, h3, h4⟩
attribute [local irreducible] cS cR cSp cW folB ordB ltB wayB in
set_option maxHeartbeats 4000000 in
theorem badd_ok (hG : GNt w x) (hR : GRl w r) (hb : GBn w b) (hE : addE x r b = 0) : Calls Tryz.prog 29 #[.agg (cNt x).toArray, .agg (cRl r).toArray, .agg (cBn b).toArray] w fun e w' => ∃ i A c, placeB r.b.L b i ∧ e = .returned (.tuple #[.agg #[.slice A (r.b.n + 1) c, .int .i64 r.p], .int .i64 0]) ∧ R.Gives w w' A (r.b.n + 1) c 50 3 ((r.b.L.take i ++ b :: r.b.L.drop i).flatMap cBn) := by
  have hM := R.Own.start [] w
  have hL := hG.lasts
  have hLR := hR.lasts
  obtain ⟨v1, v2⟩ := bn64 hb
  obtain ⟨hr, hf, hm, h2⟩ := addE_0 x r b hE
  have hrp := rulesB_of hr
  have hrise := riseB_rules hR.1.2.1 hrp
  have hn2 := hrp.2.1
  refine R.calls_of_WC (fn := Tryz.f29) Tryz.func29 rfl Tryz.ntmps29 (Nat.le_of_ble_eq_true rfl) ?_
  (refine R.stepV ?_; (repeat' (first | (with_reducible refine And.intro ?_ ?_) | (with_reducible intro _))); all_goals refine R.Lft.mk ?_)
  · exact nbw_t hr (by assumption)
  · exact nbw_t hf (by assumption)
  rename_i hM _
  refine R.WO_call3 rfl rfl R.vv R.vv R.vv ?_
  refine (searchB r.b.A r.b.n r.b.c r.b.L b _ (hM.inpIn hR.1.1) hR.1.2.1 (by omega) hrise).mono ?_
  rintro _ w2 ⟨⟨i, hi, rfl⟩, hb2⟩
  have hM := hM.call hb2
  refine ⟨_, rfl, ?_⟩
  rw [decide_eq_false hm]
  (refine R.stepU ?_; (repeat' (first | (with_reducible refine And.intro ?_ ?_) | (with_reducible intro _))); all_goals refine R.Lft.mk ?_)
  refine R.WC_planF (.q 0 (.q 1 (.q 3 (.q 4 (.q 7 (.q 8 (.f 2 5 (.e 5 (.e 6 (.q 9 (.e 10 (.q 11 .nil))))) (.e 2 (.e 6 (.q 9 (.e 10 (.q 11 .nil)))))))))))) R.mixed (by decide +kernel) R.ohm ?_
  (refine R.stepU ?_; (repeat' (first | (with_reducible refine And.intro ?_ ?_) | (with_reducible intro _))); all_goals refine R.Lft.mk ?_)
  · rename_i hM
    refine R.WO_call1 rfl rfl R.vv ?_
    refine (clone_Bn r.b.A r.b.n r.b.c r.b.L _ (hM.inpIn hR.1.1) hR.1.2.1 (by omega)).mono ?_
    rintro _ w3 ⟨A1, c1, rfl, hG1⟩
    have hM := R.Own.give hM hG1
    refine ⟨_, rfl, ?_⟩
    (refine R.stepU ?_; (repeat' (first | (with_reducible refine And.intro ?_ ?_) | (with_reducible intro _))); all_goals refine R.Lft.mk ?_)
    rename_i hM
    refine R.WO_call3 rfl rfl R.vv R.vv R.vv ?_
    refine (insertB_any (by omega) hR.1.2.1 (by have := hi.1; have := hR.1.2.1; omega) hM).mono ?_
    rintro _ w4 ⟨A2, c2, rfl, hM⟩
    refine ⟨_, rfl, ?_⟩
    (refine R.stepU ?_; (repeat' (first | (with_reducible refine And.intro ?_ ?_) | (with_reducible intro _))); all_goals refine R.Lft.mk ?_)
    rename_i hM
    exact ⟨i, A2, c2, hi, rfl, (R.pk (r := .row A2 _ c2 _ _ _) hM).gives⟩
  · rename_i hM
    refine R.WO_call1 rfl rfl R.vv ?_
    refine (clone_Bn r.b.A r.b.n r.b.c r.b.L _ (hM.inpIn hR.1.1) hR.1.2.1 (by omega)).mono ?_
    rintro _ w3 ⟨A1, c1, rfl, hG1⟩
    have hM := R.Own.give hM hG1
    refine ⟨_, rfl, ?_⟩
    (refine R.stepU ?_; (repeat' (first | (with_reducible refine And.intro ?_ ?_) | (with_reducible intro _))); all_goals refine R.Lft.mk ?_)
    refine R.WO_call3 rfl rfl R.vv R.vv R.vv ?_
    refine (insertB_any (by omega) hR.1.2.1 (by have := hi.1; have := hR.1.2.1; omega) hM.swap).mono ?_
    rintro _ w4 ⟨A2, c2, rfl, hM⟩
    refine ⟨_, rfl, ?_⟩
    (refine R.stepU ?_; (repeat' (first | (with_reducible refine And.intro ?_ ?_) | (with_reducible intro _))); all_goals refine R.Lft.mk ?_)
    rename_i hM
    exact ⟨i, A2, c2, hi, rfl, (R.pk (r := .row A2 _ c2 _ _ _) hM).gives⟩
end

theorem place_mem {L : List Bn} {t : Bn} {i : Nat} (hr : riseB L) (hp : placeB L t i) (hm : t ∈ L) : i < L.length ∧ nth L i = t := by
  obtain ⟨q, hq, hqt⟩ := List.getElem_of_mem hm
  rw [← R.nth_eq hq] at hqt
  have c1 : ¬ q < i := fun hqi => by
    have := hp.2.1 q hqi
    rw [hqt, ltB_self] at this
    cases this
  have c2 : ¬ i < q := fun hqi => by
    have g1 := hr i q hqi hq
    have g2 := hp.2.2 i (Nat.le_refl _) (by omega)
    rw [hqt, g2] at g1
    cases g1
  obtain rfl : q = i := by omega
  exact ⟨hq, hqt⟩
/-- A ban laid in at a place. -/
def insAt (L : List Bn) (i : Nat) (b : Bn) : List Bn := L.take i ++ b :: L.drop i
theorem insAt_len {L : List Bn} {i : Nat} {b : Bn} (h : i ≤ L.length) : (insAt L i b).length = L.length + 1 := by
  unfold insAt
  rw [List.length_append, List.length_cons, List.length_take, List.length_drop]
  omega
theorem insAt_lo {L : List Bn} {i j : Nat} {b : Bn} (h : i ≤ L.length) (hj : j < i) : nth (insAt L i b) j = nth L j := by
  rw [R.nth_eq (by rw [insAt_len h]; omega), R.nth_eq (by omega)]
  unfold insAt
  rw [List.getElem_append_left (by rw [List.length_take]; omega), List.getElem_take]
theorem insAt_at {L : List Bn} {i : Nat} {b : Bn} (h : i ≤ L.length) : nth (insAt L i b) i = b := by
  rw [R.nth_eq (by rw [insAt_len h]; omega)]
  unfold insAt
  rw [List.getElem_append_right (by rw [List.length_take]; omega)]
  simp [List.length_take, Nat.min_eq_left h]
theorem insAt_hi {L : List Bn} {i j : Nat} {b : Bn} (h : i ≤ L.length) (hj : i < j) (hl : j ≤ L.length) : nth (insAt L i b) j = nth L (j - 1) := by
  rw [R.nth_eq (by rw [insAt_len h]; omega), R.nth_eq (by omega)]
  unfold insAt
  rw [List.getElem_append_right (by rw [List.length_take]; omega)]
  have e : j - (L.take i).length = (j - i - 1) + 1 := by rw [List.length_take]; omega
  simp only [e, List.getElem_cons_succ, List.getElem_drop]
  congr 1
  omega
theorem insAt_mem {L : List Bn} {i : Nat} {b y : Bn} : y ∈ insAt L i b ↔ y = b ∨ y ∈ L := by
  unfold insAt
  conv => rhs; rw [← List.take_append_drop i L]
  simp only [List.mem_append, List.mem_cons]
  constructor
  · rintro (h | h | h)
    · exact .inr (.inl h)
    · exact .inl h
    · exact .inr (.inr h)
  · rintro (h | h | h)
    · exact .inr (.inl h)
    · exact .inl h
    · exact .inr (.inr h)
theorem insAt_out {L : List Bn} {i : Nat} {b : Bn} (h : i ≤ L.length) : (insAt L i b).take i ++ (insAt L i b).drop (i + 1) = L := by
  have e : (L.take i).length = i := by rw [List.length_take]; omega
  unfold insAt
  rw [List.take_append_of_le_length (by omega), List.take_of_length_le (by omega), List.drop_append, List.drop_eq_nil_of_le (by omega), e, show i + 1 - i = 1 by omega]
  simp
theorem ins_rules {x : Nt} {r : Rl} {b : Bn} {i : Nat} {A : Option Addr} {c : Nat} (hl : r.b.n = r.b.L.length) (hr : rulesP x r) (hf : folB x b.frm b.to = true) (hm : b ∉ r.b.L) (hn : r.b.n ≠ 2000) (hp : placeB r.b.L b i) : rulesP x ⟨⟨A, r.b.n + 1, c, insAt r.b.L i b⟩, r.p⟩ := by
  have hi := hp.1
  refine ⟨hr.1, by have := hr.2.1; dsimp only; omega, hr.2.2.1, hr.2.2.2.1, fun j hj => ?_⟩
  dsimp only at hj ⊢
  have hall := hr.2.2.2.2
  rcases Nat.lt_trichotomy j i with h | h | h
  · have h1 := hall j (by omega)
    refine ⟨by rw [insAt_lo hi h]; exact h1.1, fun h0 => ?_⟩
    rw [insAt_lo hi h, insAt_lo hi (by omega)]
    exact h1.2 h0
  · subst h
    refine ⟨by rw [insAt_at hi]; exact hf, fun h0 => ?_⟩
    rw [insAt_at hi, insAt_lo hi (by omega)]
    exact hp.2.1 _ (by omega)
  · have h1 := hall (j - 1) (by omega)
    refine ⟨by rw [insAt_hi hi h (by omega)]; exact h1.1, fun _ => ?_⟩
    rw [insAt_hi hi h (by omega)]
    rcases Nat.eq_or_lt_of_le (Nat.le_sub_one_of_lt h) with h2 | h2
    · rw [← h2, insAt_at hi]
      rcases ltB_tri (hp.2.2 i (Nat.le_refl _) (by omega)) with g | g
      · exact absurd (by rw [← g]; exact R.nth_mem (by omega)) hm
      · exact g
    · rw [insAt_hi hi h2 (by omega)]
      exact h1.2 (by omega)
section
variable (x : Nt) (r : Rl) (b : Bn) (w : World)
attribute [local irreducible] cS cR cSp cW folB ordB ltB wayB in
set_option maxHeartbeats 4000000 in
theorem bdrop_no (hG : GNt w x) (hR : GRl w r) (hE : dropE x r b ≠ 0) : Calls Tryz.prog 30 #[.agg (cNt x).toArray, .agg (cRl r).toArray, .agg (cBn b).toArray] w fun e w' => e = .returned (.tuple #[.agg #[.slice none 0 0, .int .i64 0], .int .i64 (dropE x r b)]) ∧ Below w.heap.size w w' := by
  have hM := R.Own.start [] w
  have hL := hG.lasts
  have hLR := hR.lasts
  cases hr : rulesB x r with
  | false =>
    have e : dropE x r b = 1 := by unfold dropE; rw [hr]; rfl
    rw [e]
    refine R.calls_of_WC (fn := Tryz.f30) Tryz.func30 rfl Tryz.ntmps30 (Nat.le_of_ble_eq_true rfl) ?_
    (refine R.stepV ?_; (repeat' (first | (with_reducible refine And.intro ?_ ?_) | (with_reducible intro _))); all_goals refine R.Lft.mk ?_)
    all_goals first
      | exact ⟨rfl, R.Own.below (by assumption)⟩
      | exact nbw_f hr (by assumption)
  | true =>
    have hrp := rulesB_of hr
    have hrise := riseB_rules hR.1.2.1 hrp
    have hn2 := hrp.2.1
    have hm : b ∉ r.b.L := fun hm => hE (by unfold dropE; rw [hr, if_pos rfl, if_pos hm])
    have e : dropE x r b = 3 := by unfold dropE; rw [hr, if_pos rfl, if_neg hm]
    rw [e]
    refine R.calls_of_WC (fn := Tryz.f30) Tryz.func30 rfl Tryz.ntmps30 (Nat.le_of_ble_eq_true rfl) ?_
    (refine R.stepV ?_; (repeat' (first | (with_reducible refine And.intro ?_ ?_) | (with_reducible intro _))); all_goals refine R.Lft.mk ?_)
    · exact nbw_t hr (by assumption)
    rename_i hM _
    refine R.WO_call3 rfl rfl R.vv R.vv R.vv ?_
    refine (searchB r.b.A r.b.n r.b.c r.b.L b _ (hM.inpIn hR.1.1) hR.1.2.1 (by omega) hrise).mono ?_
    rintro _ w2 ⟨⟨i, hi, rfl⟩, hb2⟩
    have hM := hM.call hb2
    refine ⟨_, rfl, ?_⟩
    rw [decide_eq_false hm]
    (refine R.stepV ?_; (repeat' (first | (with_reducible refine And.intro ?_ ?_) | (with_reducible intro _))); all_goals refine R.Lft.mk ?_; (all_goals (try (exact ⟨rfl, R.Own.below (by assumption)⟩))))
attribute [local irreducible] cS cR cSp cW folB ordB ltB wayB in
set_option maxHeartbeats 4000000 in
theorem bdrop_ok (hG : GNt w x) (hR : GRl w r) (hr : rulesB x r = true) (hm : b ∈ r.b.L) : Calls Tryz.prog 30 #[.agg (cNt x).toArray, .agg (cRl r).toArray, .agg (cBn b).toArray] w fun e w' => ∃ i A c, i < r.b.L.length ∧ nth r.b.L i = b ∧ e = .returned (.tuple #[.agg #[.slice A (r.b.n - 1) c, .int .i64 r.p], .int .i64 0]) ∧ R.Gives w w' A (r.b.n - 1) c 50 3 ((r.b.L.take i ++ r.b.L.drop (i + 1)).flatMap cBn) := by
  have hM := R.Own.start [] w
  have hL := hG.lasts
  have hLR := hR.lasts
  have hrp := rulesB_of hr
  have hrise := riseB_rules hR.1.2.1 hrp
  have hn2 := hrp.2.1
  refine R.calls_of_WC (fn := Tryz.f30) Tryz.func30 rfl Tryz.ntmps30 (Nat.le_of_ble_eq_true rfl) ?_
  (refine R.stepV ?_; (repeat' (first | (with_reducible refine And.intro ?_ ?_) | (with_reducible intro _))); all_goals refine R.Lft.mk ?_)
  · exact nbw_t hr (by assumption)
  rename_i hM _
  refine R.WO_call3 rfl rfl R.vv R.vv R.vv ?_
  refine (searchB r.b.A r.b.n r.b.c r.b.L b _ (hM.inpIn hR.1.1) hR.1.2.1 (by omega) hrise).mono ?_
  rintro _ w2 ⟨⟨i, hi, rfl⟩, hb2⟩
  have hM := hM.call hb2
  refine ⟨_, rfl, ?_⟩
  rw [decide_eq_true hm]
  obtain ⟨hi1, hi2⟩ := place_mem hrise hi hm
  have hnl := hR.1.2.1
  (refine R.stepU ?_; (repeat' (first | (with_reducible refine And.intro ?_ ?_) | (with_reducible intro _))); all_goals refine R.Lft.mk ?_)
  refine R.WC_planX [(0, false), (1, false), (3, false), (4, false), (5, false), (7, false), (8, false), (2, true), (6, true), (9, false), (10, true), (11, false)] R.mixed (by decide +kernel) R.ohm ?_
  (refine R.stepU ?_; (repeat' (first | (with_reducible refine And.intro ?_ ?_) | (with_reducible intro _))); all_goals refine R.Lft.mk ?_)
  rename_i hM
  refine R.WO_call1 rfl rfl R.vv ?_
  refine (clone_Bn r.b.A r.b.n r.b.c r.b.L _ (hM.inpIn hR.1.1) hR.1.2.1 (by omega)).mono ?_
  rintro _ w3 ⟨A1, c1, rfl, hG1⟩
  have hM := R.Own.give hM hG1
  refine ⟨_, rfl, ?_⟩
  (refine R.stepU ?_; (repeat' (first | (with_reducible refine And.intro ?_ ?_) | (with_reducible intro _))); all_goals refine R.Lft.mk ?_)
  refine R.WO_call3 rfl rfl R.vv R.vv R.vv ?_
  refine (deleteB_any (by omega) hnl (by omega) hM).mono ?_
  rintro _ w4 ⟨rfl, hM⟩
  refine ⟨_, rfl, ?_⟩
  (refine R.stepU ?_; (repeat' (first | (with_reducible refine And.intro ?_ ?_) | (with_reducible intro _))); all_goals refine R.Lft.mk ?_)
  rename_i hM
  exact ⟨i, A1, c1, hi1, hi2, rfl, (R.pk (r := .row A1 _ c1 _ _ _) hM).gives⟩
end
attribute [local irreducible] cBn in
set_option maxHeartbeats 4000000 in
theorem same17 (a b : Rl) (w : World) (ha : GRl w a) (hb : GRl w b) : Calls Tryz.prog 34 #[.agg (cRl a).toArray, .agg (cRl b).toArray] w fun e w' => e = .returned (.bool (decide (a.p = b.p ∧ a.b.L = b.b.L))) ∧ Below w.heap.size w w' := by
  have hM := R.Own.start [] w
  obtain ⟨⟨a1, a2, a3, -⟩, -⟩ := ha
  obtain ⟨⟨b1, b2, b3, -⟩, -⟩ := hb
  by_cases h0 : a.p = b.p ∧ a.b.n = b.b.n
  · obtain ⟨h1, h2⟩ := h0
    refine R.calls_of_WC (fn := Tryz.f34) Tryz.func34 rfl Tryz.ntmps34 (Nat.le_of_ble_eq_true rfl) ?_
    (refine R.stepV ?_; (repeat' (first | (with_reducible refine And.intro ?_ ?_) | (with_reducible intro _))); all_goals refine R.Lft.mk ?_)
    rename_i g1 _ _ g2 _ hM
    refine R.WC_loop (fun k : Nat => [(2, .pointer (some ⟨g1, 0, none⟩)), (3, .pointer (some ⟨g2, 0, none⟩)), (4, .bool false), (5, .int .i64 (k : Nat))])
      (fun k w2 => k ≤ a.b.n ∧ (∀ i, i < k → nth a.b.L i = nth b.b.L i) ∧ R.Own [] w w2 [.blk g2 29 (cRl b), .blk g1 29 (cRl a)]) (fun k => a.b.n - k) ⟨0, ⟨rfl, rfl, rfl, rfl, trivial⟩, by omega, fun i hi => absurd hi (Nat.not_lt_zero _), hM⟩ ?_
    clear hM
    rintro k f w2 ⟨hk, hall, hM⟩
    by_cases hlt : k < a.b.n
    · (refine R.stepV ?_; (repeat' (first | (with_reducible refine And.intro ?_ ?_) | (with_reducible intro _))); all_goals refine R.Lft.mk ?_)
      · rename_i hne
        rw [decide_eq_false (fun q => hne (by rw [q.2]))]
        exact ⟨rfl, R.Own.below (by assumption)⟩
      · rename_i heq
        refine ⟨k + 1, ⟨rfl, rfl, rfl, R.viaI rfl (by omega), trivial⟩, ⟨by omega, fun i hi => ?_, by assumption⟩, by omega⟩
        rcases Nat.lt_or_ge i k with g | g
        · exact hall i g
        · obtain rfl : i = k := by omega
          exact Decidable.not_not.1 heq
    · obtain rfl : k = a.b.n := by omega
      have hLL : a.b.L = b.b.L := List.ext_getElem (by omega) fun i h3 h4 => by
        rw [← R.nth_eq, ← R.nth_eq]
        exact hall i (by omega)
      rw [decide_eq_true ⟨h1, hLL⟩]
      (refine R.stepV ?_; (repeat' (first | (with_reducible refine And.intro ?_ ?_) | (with_reducible intro _))); all_goals refine R.Lft.mk ?_; (all_goals (try (exact ⟨rfl, R.Own.below (by assumption)⟩))))
  · rw [decide_eq_false (fun q => h0 ⟨q.1, by rw [a2, b2, q.2]⟩)]
    refine R.calls_of_WC (fn := Tryz.f34) Tryz.func34 rfl Tryz.ntmps34 (Nat.le_of_ble_eq_true rfl) ?_
    (refine R.stepV ?_; (repeat' (first | (with_reducible refine And.intro ?_ ?_) | (with_reducible intro _))); all_goals refine R.Lft.mk ?_)
    all_goals first
      | exact ⟨rfl, R.Own.below (by assumption)⟩
      | (exfalso; omega)
end Go.Proofs.YtgciglnkofoacaaGreat
