/- Bans: their order, and which rules there may be. -/
import Derived.Test.YtdiodefooipojaaGreatNo
namespace Go.Proofs.YtdiodefooipojaaGreat
open Go.RowKit
open R (In64 InU64 lo64 nth)

def bitI (b : Bool) : Int := if b then 1 else 0
def ordB (a b : Bn) : Int := orI (cmpZ a.frm b.frm) (orI (cmpZ a.to b.to) (cmpZ (bitI a.only) (bitI b.only)))
def ltB (a b : Bn) : Bool := if a.frm = b.frm then (if a.to = b.to then !a.only && b.only else decide (a.to < b.to)) else decide (a.frm < b.frm)
theorem orI_neg {a b : Int} : orI a b < 0 ↔ a < 0 ∨ (a = 0 ∧ b < 0) := by
  unfold orI
  split <;> omega
theorem cmpZ_lt0 {a b : Int} : cmpZ a b < 0 ↔ a < b := by
  rcases Int.lt_trichotomy a b with h | h | h
  · rw [cmpZ_lt h]; exact ⟨fun _ => h, fun _ => by decide⟩
  · subst h; rw [cmpZ_self]; omega
  · rw [cmpZ_gt h]; omega
theorem cmpZ_eq0 {a b : Int} : cmpZ a b = 0 ↔ a = b := by
  rcases Int.lt_trichotomy a b with h | h | h
  · rw [cmpZ_lt h]; omega
  · subst h; rw [cmpZ_self]; simp
  · rw [cmpZ_gt h]; omega
theorem ltB_iff {a b : Bn} : ltB a b = true ↔ a.frm < b.frm ∨ (a.frm = b.frm ∧ (a.to < b.to ∨ (a.to = b.to ∧ a.only = false ∧ b.only = true))) := by
  unfold ltB
  split
  · rename_i h
    split
    · rename_i g
      cases a.only <;> cases b.only <;> simp [h, g]
    · rename_i g
      simp [h, g]
  · rename_i h
    simp [h]
theorem ordB_lt {a b : Bn} : ordB a b < 0 ↔ ltB a b = true := by
  unfold ordB
  rw [orI_neg, orI_neg, cmpZ_lt0, cmpZ_lt0, cmpZ_lt0, cmpZ_eq0, cmpZ_eq0, ltB_iff]
  have : bitI a.only < bitI b.only ↔ a.only = false ∧ b.only = true := by cases a.only <;> cases b.only <;> decide
  rw [this]
theorem ordB_eq {a b : Bn} : ordB a b = 0 ↔ a = b := by
  constructor
  · intro h
    unfold ordB orI at h
    have h1 : cmpZ a.frm b.frm = 0 := by
      by_cases g : cmpZ a.frm b.frm = 0
      · exact g
      · rw [if_pos g] at h; exact absurd h g
    rw [if_neg (by rw [h1]; decide)] at h
    have h2 : cmpZ a.to b.to = 0 := by
      by_cases g : cmpZ a.to b.to = 0
      · exact g
      · rw [if_pos g] at h; exact absurd h g
    rw [if_neg (by rw [h2]; decide)] at h
    have key : ∀ {x y : Int}, cmpZ x y = 0 → x = y := fun {x y} g => by
      rcases Int.lt_trichotomy x y with q | q | q
      · rw [cmpZ_lt q] at g; cases g
      · exact q
      · rw [cmpZ_gt q] at g; cases g
    have g1 := key h1
    have g2 := key h2
    have g3 := key h
    obtain ⟨a1, a2, a3⟩ := a
    obtain ⟨b1, b2, b3⟩ := b
    dsimp only at g1 g2 g3
    subst g1 g2
    cases a3 <;> cases b3 <;> first | rfl | exact absurd g3 (by decide)
  · rintro rfl
    unfold ordB orI
    rw [cmpZ_self, cmpZ_self, cmpZ_self]
    rfl
instance con_bit (b : Bool) : R.ConB Tryz.prog 55 #[.bool b] Unit (fun _ _ => True) (fun _ => .int .i64 (bitI b)) := ⟨fun _ w _ => by
  have hM := R.Own.start [] w
  cases b
  all_goals
    refine R.calls_of_WC (fn := Tryz.f55) Tryz.func55 rfl Tryz.ntmps55 (Nat.le_of_ble_eq_true rfl) ?_
    (refine R.stepV ?_; (repeat' (first | (with_reducible refine And.intro ?_ ?_) | (with_reducible intro _))); all_goals refine R.Lft.mk ?_; (all_goals (try (exact ⟨rfl, R.Own.below (by assumption)⟩))))⟩
instance con_border (a b : Bn) : R.ConB Tryz.prog 36 #[.agg (cBn a).toArray, .agg (cBn b).toArray] Unit (fun _ _ => True) (fun _ => .int .i64 (ordB a b)) := ⟨fun _ w _ => by
  have hM := R.Own.start [] w
  refine R.calls_of_WC (fn := Tryz.f36) Tryz.func36 rfl Tryz.ntmps36 (Nat.le_of_ble_eq_true rfl) ?_
  (refine R.stepU ?_; (repeat' (first | (with_reducible refine And.intro ?_ ?_) | (with_reducible intro _))); all_goals refine R.Lft.mk ?_)
  refine R.WC_planX [(0, false), (1, false), (2, false), (3, false), (5, false), (6, false), (7, false), (8, false), (10, false), (11, false), (13, false), (14, false), (4, true), (9, true), (12, true), (15, true), (16, true), (17, true), (18, true), (19, false)] R.mixed (by decide +kernel) R.ohm ?_
  (refine R.stepU ?_; (repeat' (first | (with_reducible refine And.intro ?_ ?_) | (with_reducible intro _))); all_goals refine R.Lft.mk ?_)
  rename_i hM
  refine R.WO_call1 rfl rfl R.vv ?_
  refine ((con_or _ 3 _).h [cmpZ a.frm b.frm, cmpZ a.to b.to, cmpZ (bitI a.only) (bitI b.only)] _ ⟨R.Own.inp hM (.head _), rfl, by omega⟩).mono ?_
  rintro e w' ⟨rfl, rfl⟩
  refine ⟨_, rfl, ?_⟩
  have e : orL [cmpZ a.frm b.frm, cmpZ a.to b.to, cmpZ (bitI a.only) (bitI b.only)] = ordB a b := by
    show orI _ (orI _ (orI _ 0)) = _
    unfold ordB
    rw [show ∀ z : Int, orI z 0 = z from fun z => by unfold orI; split <;> omega]
  rw [e]
  (refine R.stepU ?_; (repeat' (first | (with_reducible refine And.intro ?_ ?_) | (with_reducible intro _))); all_goals refine R.Lft.mk ?_; (all_goals (try (exact ⟨rfl, R.Own.below (by assumption)⟩))))⟩
/-- Rules that may be. -/
def ruleP (x : Nt) (L : List Bn) (i : Nat) : Prop := folB x (nth L i).frm (nth L i).to = true ∧ (0 < i → ltB (nth L (i - 1)) (nth L i) = true)
def rulesP (x : Nt) (r : Rl) : Prop := netB x = true ∧ r.b.n ≤ 2000 ∧ 0 ≤ r.p ∧ r.p ≤ 2 ∧ ∀ i, i < r.b.n → ruleP x r.b.L i
noncomputable def rulesB (x : Nt) (r : Rl) : Bool := @decide (rulesP x r) (Classical.propDecidable _)
theorem rulesB_t {x : Nt} {r : Rl} (h : rulesP x r) : rulesB x r = true := @decide_eq_true _ (Classical.propDecidable _) h
theorem rulesB_f {x : Nt} {r : Rl} (h : ¬ rulesP x r) : rulesB x r = false := @decide_eq_false _ (Classical.propDecidable _) h
theorem rulesB_of {x : Nt} {r : Rl} (h : rulesB x r = true) : rulesP x r := @of_decide_eq_true _ (Classical.propDecidable _) h
theorem nbk_ {b : Bool} (h : (!b) = false) : b = true := by cases b <;> simp at h ⊢
theorem rule_next {x : Nt} {L : List Bn} {k : Nat} (h : ∀ i, i < k → ruleP x L i) (hk : ruleP x L k) : ∀ i, i < k + 1 → ruleP x L i := fun i hi => by
  rcases Nat.lt_or_ge i k with g | g
  · exact h i g
  · obtain rfl : i = k := by omega
    exact hk
theorem bn64 {y : Bn} {w : World} (h : GBn w y) : In64 y.frm ∧ In64 y.to := by
  have h1 := bounds_i64 h.1
  have h2 := bounds_i64 h.2
  unfold In64
  omega
attribute [local irreducible] cS cR cSp cW orI cmpZ folB ordB ltB wayB in
set_option maxHeartbeats 4000000 in
theorem bmay_any (x : Nt) (r : Rl) (w : World) (hG : GNt w x) (hR : GRl w r) : Calls Tryz.prog 16 #[.agg (cNt x).toArray, .agg (cRl r).toArray] w fun e w' => e = .returned (.bool (rulesB x r)) ∧ Below w.heap.size w w' := by
  have hM := R.Own.start [] w
  have hL := hG.lasts
  obtain ⟨⟨b1, b2, b3, b4⟩, hp⟩ := hR
  cases hn : netB x with
  | false =>
    rw [rulesB_f fun q => by rw [q.1] at hn; cases hn]
    refine R.calls_of_WC (fn := Tryz.f16) Tryz.func16 rfl Tryz.ntmps16 (Nat.le_of_ble_eq_true rfl) ?_
    (refine R.stepV ?_; (repeat' (first | (with_reducible refine And.intro ?_ ?_) | (with_reducible intro _))); all_goals refine R.Lft.mk ?_)
    all_goals first
      | exact ⟨rfl, R.Own.below (by assumption)⟩
      | exact nbw_f hn (by assumption)
  | true =>
    by_cases hs : r.b.n ≤ 2000 ∧ 0 ≤ r.p ∧ r.p ≤ 2
    · obtain ⟨hs1, hs2, hs3⟩ := hs
      refine R.calls_of_WC (fn := Tryz.f16) Tryz.func16 rfl Tryz.ntmps16 (Nat.le_of_ble_eq_true rfl) ?_
      (refine R.stepV ?_; (repeat' (first | (with_reducible refine And.intro ?_ ?_) | (with_reducible intro _))); all_goals refine R.Lft.mk ?_)
      · exact nbw_t hn (by assumption)
      rename_i g1 _ _ g2 _ _ _ hM _
      refine R.WC_loop (fun k : Nat => [(2, .pointer (some ⟨g1, 0, none⟩)), (3, .pointer (some ⟨g2, 0, none⟩)), (4, .bool false), (27, .slice r.b.A r.b.n r.b.c), (28, .int .i64 (r.b.n : Nat)), (29, .int .i64 (k : Nat))])
        (fun k w2 => k ≤ r.b.n ∧ (∀ i, i < k → ruleP x r.b.L i) ∧ R.Own [] w w2 [.blk g2 29 (cRl r), .blk g1 26 (cNt x)]) (fun k => r.b.n - k) ⟨0, ⟨rfl, rfl, rfl, rfl, rfl, rfl, trivial⟩, by omega, fun i hi => absurd hi (Nat.not_lt_zero _), by assumption⟩ ?_
      clear hM
      rintro k f w2 ⟨hk, hall, hM⟩
      by_cases hlt : k < r.b.n
      · have e : (((k : Nat) : Int) - 1).toNat = k - 1 := by omega
        obtain ⟨q1, q2⟩ := bn64 (b4 _ (R.nth_mem (L := r.b.L) (i := k) (by omega)))
        (refine R.stepU ?_; (repeat' (first | (with_reducible refine And.intro ?_ ?_) | (with_reducible intro _))); all_goals refine R.Lft.mk ?_)
        refine R.WC_planO [(0, false), (1, false), (2, false), (3, false), (4, false), (5, true), (6, false), (7, false), (8, false), (9, false), (10, false), (11, false), (12, false), (13, false), (14, false), (15, false), (16, false), (17, false), (18, true), (19, false), (20, false), (21, false)] R.mixed (by decide +kernel) R.ohm ?_
        (refine R.stepU ?_; (repeat' (first | (with_reducible refine And.intro ?_ ?_) | (with_reducible intro _))); all_goals refine R.Lft.mk ?_)
        · rw [rulesB_f fun q => by
            have q := (q.2.2.2.2 k hlt).1
            exact nbw_t q (by assumption)]
          exact ⟨rfl, R.Own.below (by assumption)⟩
        · rename_i h
          rw [e] at h
          rw [rulesB_f fun q => by
            have q := (q.2.2.2.2 k hlt).2 (by omega)
            have := ordB_lt.2 q
            omega]
          exact ⟨rfl, R.Own.below (by assumption)⟩
        · rename_i h
          rw [e] at h
          exact ⟨k + 1, ⟨rfl, rfl, rfl, rfl, rfl, R.viaI rfl (by omega), trivial⟩, ⟨by omega, rule_next hall ⟨nbk_ (by assumption), fun _ => ordB_lt.1 (by omega)⟩, R.Own.tl (by assumption)⟩, by omega⟩
        · exact ⟨k + 1, ⟨rfl, rfl, rfl, rfl, rfl, R.viaI rfl (by omega), trivial⟩, ⟨by omega, rule_next hall ⟨nbk_ (by assumption), fun h => absurd h (by omega)⟩, R.Own.tl (by assumption)⟩, by omega⟩
      · obtain rfl : k = r.b.n := by omega
        rw [rulesB_t ⟨hn, hs1, hs2, hs3, hall⟩]
        (refine R.stepV ?_; (repeat' (first | (with_reducible refine And.intro ?_ ?_) | (with_reducible intro _))); all_goals refine R.Lft.mk ?_; (all_goals (try (exact ⟨rfl, R.Own.below (by assumption)⟩))))
    · rw [rulesB_f fun q => hs ⟨q.2.1, q.2.2.1, q.2.2.2.1⟩]
      refine R.calls_of_WC (fn := Tryz.f16) Tryz.func16 rfl Tryz.ntmps16 (Nat.le_of_ble_eq_true rfl) ?_
      (refine R.stepV ?_; (repeat' (first | (with_reducible refine And.intro ?_ ?_) | (with_reducible intro _))); all_goals refine R.Lft.mk ?_)
      all_goals first
        | exact ⟨rfl, R.Own.below (by assumption)⟩
        | exact nbw_t hn (by assumption)
        | (exfalso; omega)
instance con_bmay (x : Nt) (r : Rl) : R.ConB Tryz.prog 16 #[.agg (cNt x).toArray, .agg (cRl r).toArray] Unit (fun _ w => GNt w x ∧ GRl w r) (fun _ => .bool (rulesB x r)) := ⟨fun _ w h => bmay_any x r w h.1 h.2⟩
instance con_less17 (a b : Bn) : R.ConB Tryz.prog 24 #[.agg (cBn a).toArray, .agg (cBn b).toArray] Unit (fun _ _ => True) (fun _ => .bool (ltB a b)) := ⟨fun _ w _ => by
  have hM := R.Own.start [] w
  unfold ltB
  refine R.calls_of_WC (fn := Tryz.f24) Tryz.func24 rfl Tryz.ntmps24 (Nat.le_of_ble_eq_true rfl) ?_
  (refine R.stepV ?_; (repeat' (first | (with_reducible refine And.intro ?_ ?_) | (with_reducible intro _))); all_goals refine R.Lft.mk ?_)
  all_goals
    refine ⟨?_, R.Own.below (by assumption)⟩
    by_cases h1 : a.frm = b.frm <;> by_cases h2 : a.to = b.to <;> simp_all⟩
attribute [local irreducible] cS cR cSp cW orI cmpZ folB ordB ltB wayB in
set_option maxHeartbeats 4000000 in
theorem rmay_any (x : Nt) (r : Rl) (w : World) (hG : GNt w x) (hR : GRl w r) : Calls Tryz.prog 7 #[.agg (cNt x).toArray, .agg (cRl r).toArray] w fun e w' => e = .returned (.bool (rulesB x r)) ∧ Below w.heap.size w w' := by
  have hM := R.Own.start [] w
  have hL := hG.lasts
  obtain ⟨⟨b1, b2, b3, b4⟩, hp⟩ := hR
  cases hn : netB x with
  | false =>
    rw [rulesB_f fun q => by rw [q.1] at hn; cases hn]
    refine R.calls_of_WC (fn := Tryz.f7) Tryz.func7 rfl Tryz.ntmps7 (Nat.le_of_ble_eq_true rfl) ?_
    (refine R.stepV ?_; (repeat' (first | (with_reducible refine And.intro ?_ ?_) | (with_reducible intro _))); all_goals refine R.Lft.mk ?_)
    all_goals first
      | exact ⟨rfl, R.Own.below (by assumption)⟩
      | exact nbw_f hn (by assumption)
  | true =>
    have hk2 := netB_e hn
    refine R.calls_of_WC (fn := Tryz.f7) Tryz.func7 rfl Tryz.ntmps7 (Nat.le_of_ble_eq_true rfl) ?_
    (refine R.stepV ?_; (repeat' (first | (with_reducible refine And.intro ?_ ?_) | (with_reducible intro _))); all_goals refine R.Lft.mk ?_)
    · exact nbw_t hn (by assumption)
    rename_i g1 _ _ g2 _ _ _ hM _
    refine R.WC_loop (fun k : Nat => [(2, .pointer (some ⟨g1, 0, none⟩)), (3, .pointer (some ⟨g2, 0, none⟩)), (4, .bool false), (5, .int .i64 (k : Nat))])
      (fun k w2 => k ≤ r.b.n ∧ (∀ i, i < k → ruleP x r.b.L i) ∧ R.Own [] w w2 [.blk g2 29 (cRl r), .blk g1 26 (cNt x)]) (fun k => r.b.n - k) ⟨0, ⟨rfl, rfl, rfl, rfl, trivial⟩, by omega, fun i hi => absurd hi (Nat.not_lt_zero _), hM⟩ ?_
    clear hM
    rintro k f w2 ⟨hk, hall, hM⟩
    by_cases hlt : k < r.b.n
    · have e : (((k : Nat) : Int) - 1).toNat = k - 1 := by omega
      obtain ⟨q1, q2⟩ := bn64 (b4 _ (R.nth_mem (L := r.b.L) (i := k) (by omega)))
      (refine R.stepU ?_; (repeat' (first | (with_reducible refine And.intro ?_ ?_) | (with_reducible intro _))); all_goals refine R.Lft.mk ?_)
      refine R.WC_planO [(0, false), (1, false), (2, false), (3, false), (4, false), (5, false), (6, false), (7, false), (8, false), (9, false), (10, false), (11, false), (12, false), (13, true), (14, false), (15, false), (16, false), (17, false), (18, false), (19, false), (20, false), (21, false), (22, false), (23, false), (24, false), (25, false), (26, false), (27, false), (28, false), (29, false), (30, true), (31, false), (32, false), (33, false)] R.mixed (by decide +kernel) R.ohm ?_
      (refine R.stepU ?_; (repeat' (first | (with_reducible refine And.intro ?_ ?_) | (with_reducible intro _))); all_goals refine R.Lft.mk ?_)
      · rw [rulesB_f fun q => by
          have q := (q.2.2.2.2 k hlt).1
          exact nbw_t q (by assumption)]
        exact ⟨rfl, R.Own.below (by assumption)⟩
      · rename_i h
        rw [e] at h
        rw [rulesB_f fun q => by
          have q := (q.2.2.2.2 k hlt).2 (by omega)
          exact nbw_t q h]
        exact ⟨rfl, R.Own.below (by assumption)⟩
      · rename_i h
        rw [e] at h
        exact ⟨k + 1, ⟨rfl, rfl, rfl, R.viaI rfl (by omega), trivial⟩, ⟨by omega, rule_next hall ⟨nbk_ (by assumption), fun _ => nbk_ h⟩, by assumption⟩, by omega⟩
      · exact ⟨k + 1, ⟨rfl, rfl, rfl, R.viaI rfl (by omega), trivial⟩, ⟨by omega, rule_next hall ⟨nbk_ (by assumption), fun h => absurd h (by omega)⟩, by assumption⟩, by omega⟩
    · obtain rfl : k = r.b.n := by omega
      by_cases hs : r.b.n ≤ 2000 ∧ 0 ≤ r.p ∧ r.p ≤ 2
      · rw [rulesB_t ⟨hn, hs.1, hs.2.1, hs.2.2, hall⟩]
        obtain ⟨s1, s2, s3⟩ := hs
        (refine R.stepV ?_; (repeat' (first | (with_reducible refine And.intro ?_ ?_) | (with_reducible intro _))); all_goals refine R.Lft.mk ?_)
        all_goals first
          | exact ⟨rfl, R.Own.below (by assumption)⟩
          | (exfalso; omega)
          | (refine ⟨?_, R.Own.below (by assumption)⟩
             rw [decide_eq_true (by omega)])
      · rw [rulesB_f fun q => hs ⟨q.2.1, q.2.2.1, q.2.2.2.1⟩]
        (refine R.stepV ?_; (repeat' (first | (with_reducible refine And.intro ?_ ?_) | (with_reducible intro _))); all_goals refine R.Lft.mk ?_)
        all_goals first
          | exact ⟨rfl, R.Own.below (by assumption)⟩
          | (exfalso; omega)
          | (refine ⟨?_, R.Own.below (by assumption)⟩
             rw [decide_eq_false (by omega)])
instance con_rmay17 (x : Nt) (r : Rl) : R.ConB Tryz.prog 7 #[.agg (cNt x).toArray, .agg (cRl r).toArray] Unit (fun _ w => GNt w x ∧ GRl w r) (fun _ => .bool (rulesB x r)) := ⟨fun _ w h => rmay_any x r w h.1 h.2⟩
end Go.Proofs.YtdiodefooipojaaGreat
