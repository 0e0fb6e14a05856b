/- Package spot: lowest terms, which may be, how they compare; the same of snicketref10. -/
import Derived.Test.YtmoppmfbfpjdnaaGreatR6
namespace Go.Proofs.YtmoppmfbfpjdnaaGreat
open Go.RowKit
open R (In64 InU64 lo64 nth)

/-- A spot in lowest terms. -/
def gS (x y : Sg) (w : Wd) : Wd := gcdW (gcdW x.mag y.mag) w
def lowS (x y : Sg) (w : Wd) : Sp := ⟨sgn (⟨x.neg, qW x.mag (gS x y w)⟩ : Sg).z, sgn (⟨y.neg, qW y.mag (gS x y w)⟩ : Sg).z, qW w (gS x y w)⟩
attribute [local irreducible] W512 in
set_option maxHeartbeats 2000000 in
theorem slow (x y : Sg) (m : Wd) (w : World) : Calls Tryz.prog 95 #[.agg (cS x).toArray, .agg (cS y).toArray, .agg (cW m).toArray] w fun e w' => e = .returned (.agg (cSp (lowS x y m)).toArray) ∧ Below w.heap.size w w' := by
  have hM := R.Own.start [] w
  refine R.calls_of_WC (fn := Tryz.f95) Tryz.func95 rfl Tryz.ntmps95 (Nat.le_of_ble_eq_true rfl) ?_
  (refine R.stepU ?_; (repeat' (first | (with_reducible refine And.intro ?_ ?_) | (with_reducible intro _))); all_goals refine R.Lft.mk ?_)
  refine R.WC_cut2 (ι := Nat × Nat × Nat × Nat × Nat) (fun i => [(3, .pointer (some ⟨i.2.2.2.2, 0, none⟩)), (4, .pointer (some ⟨i.2.2.2.1, 0, none⟩)), (5, .pointer (some ⟨i.2.2.1, 0, none⟩)), (6, .pointer (some ⟨i.2.1, 0, none⟩)), (7, .pointer (some ⟨i.1, 0, none⟩))])
    (fun i w2 => R.Own [] w w2 [.blk i.1 44 (cW (gS x y m)), .blk i.2.1 52 (cSp ⟨⟨false, W 0⟩, ⟨false, W 0⟩, W 0⟩), .blk i.2.2.1 44 (cW m), .blk i.2.2.2.1 46 (cS y), .blk i.2.2.2.2 46 (cS x)]) ?h1 ?h2
  case h1 =>
    refine R.WC_planF (.q 0 (.q 1 (.q 2 (.q 3 (.q 5 (.f 4 7 (.f 6 7 (.e 7 (.e 8 .nil)) (.e 6 (.e 8 .nil))) (.e 4 (.e 6 (.e 8 .nil))))))))) R.mixed (by decide +kernel) R.ohm ?_
    (refine R.stepU ?_; (repeat' (first | (with_reducible refine And.intro ?_ ?_) | (with_reducible intro _))); all_goals refine R.Lft.mk ?_)
    all_goals
      rename_i hM
      exact ⟨rfl, (_, _, _, _, _), ⟨rfl, rfl, rfl, rfl, rfl, trivial⟩, hM⟩
  case h2 =>
    rintro ⟨g7, g6, g5, g4, g3⟩ f w2 hM
    dsimp only at hM ⊢
    (refine R.stepU ?_; (repeat' (first | (with_reducible refine And.intro ?_ ?_) | (with_reducible intro _))); all_goals refine R.Lft.mk ?_)
    refine R.WC_planX [(0, false), (1, false), (3, false), (4, false), (2, true), (6, false), (5, true), (7, true), (8, false), (9, true)] R.mixed (by decide +kernel) R.ohm ?_
    (refine R.stepU ?_; (repeat' (first | (with_reducible refine And.intro ?_ ?_) | (with_reducible intro _))); all_goals refine R.Lft.mk ?_; (all_goals (try (exact ⟨rfl, R.Own.below (by assumption)⟩))))
instance con_slow (x y : Sg) (m : Wd) : R.ConB Tryz.prog 95 #[.agg (cS x).toArray, .agg (cS y).toArray, .agg (cW m).toArray] Unit (fun _ _ => True) (fun _ => .agg (cSp (lowS x y m)).toArray) := ⟨fun _ w _ => slow x y m w⟩
/-- May a spot be? -/
def len120 (n : Nat) : Bool := decide (((bitLen n : Nat) : Int) ≤ 120)
def mayS (a : Sp) : Bool := !decide (a.w.n = 0) && (len120 a.x.mag.n && (len120 a.y.mag.n && (len120 a.w.n && decide (a = lowS a.x a.y a.w))))
section
variable {a : Sp}
theorem ms_w (h : a.w.n = 0) : mayS a = false := by unfold mayS; rw [decide_eq_true h]; rfl
theorem ms_x (h : ¬ ((bitLen a.x.mag.n : Nat) : Int) ≤ 120) : mayS a = false := by unfold mayS len120; rw [decide_eq_false h]; simp
theorem ms_y (h : ¬ ((bitLen a.y.mag.n : Nat) : Int) ≤ 120) : mayS a = false := by unfold mayS len120; rw [decide_eq_false h]; simp
theorem ms_d (h : ¬ ((bitLen a.w.n : Nat) : Int) ≤ 120) : mayS a = false := by unfold mayS len120; rw [decide_eq_false h]; simp
theorem ms_t (h0 : ¬ a.w.n = 0) (hx : ((bitLen a.x.mag.n : Nat) : Int) ≤ 120) (hy : ((bitLen a.y.mag.n : Nat) : Int) ≤ 120) (hw : ((bitLen a.w.n : Nat) : Int) ≤ 120) : mayS a = decide (a = lowS a.x a.y a.w) := by
  unfold mayS len120
  rw [decide_eq_false h0, decide_eq_true hx, decide_eq_true hy, decide_eq_true hw]
  rfl
theorem ms_t2 (h0 : ¬ a.w.n = 0) (hx : ((bitLen a.x.mag.n : Nat) : Int) ≤ 120) (hy : ((bitLen a.y.mag.n : Nat) : Int) ≤ 120) (hw : ((bitLen a.w.n : Nat) : Int) ≤ 120) : mayS a = decide (lowS a.x a.y a.w = a) := by
  rw [ms_t h0 hx hy hw]
  exact decide_eq_decide.2 eq_comm
end
attribute [local irreducible] W512 in
set_option maxHeartbeats 2000000 in
theorem smay (a : Sp) (w : World) : Calls Tryz.prog 75 #[.agg (cSp a).toArray] w fun e w' => e = .returned (.bool (mayS a)) ∧ Below w.heap.size w w' := by
  have hM := R.Own.start [] w
  refine R.calls_of_WC (fn := Tryz.f75) Tryz.func75 rfl Tryz.ntmps75 (Nat.le_of_ble_eq_true rfl) ?_
  (refine R.stepU ?_; (repeat' (first | (with_reducible refine And.intro ?_ ?_) | (with_reducible intro _))); all_goals refine R.Lft.mk ?_)
  rename_i g _ _ A c w1 hM
  obtain ⟨L, hL⟩ : ∃ L, L = [a.x.mag, a.y.mag, a.w] := ⟨_, rfl⟩
  have hM : R.Own [] w w1 [.row A 3 c 44 8 (L.flatMap cW), .blk g 52 (cSp a)] := by rw [hL]; exact hM
  have hlen : L.length = 3 := by rw [hL]; rfl
  have hf : ∀ k, k < 3 → ¬ ((bitLen (nth L k).n : Nat) : Int) ≤ 120 → mayS a = false := fun k hk h => by
    match k, hk with
    | 0, _ => rw [hL] at h; exact ms_x h
    | 1, _ => rw [hL] at h; exact ms_y h
    | 2, _ => rw [hL] at h; exact ms_d h
  refine R.WC_loop (fun k : Nat => [(1, .pointer (some ⟨g, 0, none⟩)), (2, .bool false), (13, .slice A 3 c), (14, .int .i64 3), (15, .int .i64 (k : Nat))])
    (fun k w2 => k ≤ 3 ∧ (∀ i, i < k → ((bitLen (nth L i).n : Nat) : Int) ≤ 120) ∧ R.Own [] w w2 [.row A 3 c 44 8 (L.flatMap cW), .blk g 52 (cSp a)]) (fun k => 3 - k) ⟨0, ⟨rfl, rfl, rfl, rfl, rfl, trivial⟩, by omega, fun i hi => absurd hi (Nat.not_lt_zero _), hM⟩ ?_
  clear hM
  rintro k f w2 ⟨hk, hall, hM⟩
  by_cases hlt : k < 3
  · (refine R.stepU ?_; (repeat' (first | (with_reducible refine And.intro ?_ ?_) | (with_reducible intro _))); all_goals refine R.Lft.mk ?_)
    · rename_i h _ hM
      rw [hf k hlt (by omega)]
      exact ⟨rfl, R.Own.below (by assumption)⟩
    · rename_i h _ hM
      refine ⟨k + 1, ⟨rfl, rfl, rfl, rfl, R.viaI rfl (by omega), trivial⟩, ⟨by omega, fun i hi => ?_, (by first | assumption | exact R.Own.tl (by assumption))⟩, by omega⟩
      rcases Nat.lt_or_ge i k with h1 | h1
      · exact hall i h1
      · obtain rfl : i = k := by omega
        omega
  obtain rfl : k = 3 := by omega
  have hx : ((bitLen a.x.mag.n : Nat) : Int) ≤ 120 := by have := hall 0 (by omega); rw [hL] at this; exact this
  have hy : ((bitLen a.y.mag.n : Nat) : Int) ≤ 120 := by have := hall 1 (by omega); rw [hL] at this; exact this
  have hw : ((bitLen a.w.n : Nat) : Int) ≤ 120 := by have := hall 2 (by omega); rw [hL] at this; exact this
  clear hall hf
  (refine R.stepU ?_; (repeat' (first | (with_reducible refine And.intro ?_ ?_) | (with_reducible intro _))); all_goals refine R.Lft.mk ?_)
  refine R.WC_planX [(0, false), (1, false), (2, true), (3, false), (4, false), (5, false), (6, false), (7, false), (8, false), (9, false), (10, false), (11, false), (12, true), (13, false), (14, false), (15, false)] R.mixed (by decide +kernel) R.ohm ?_
  (refine R.stepU ?_; (repeat' (first | (with_reducible refine And.intro ?_ ?_) | (with_reducible intro _))); all_goals refine R.Lft.mk ?_; (all_goals (try (exact ⟨rfl, R.Own.below (by assumption)⟩))))
  · rename_i h _ _
    rw [ms_t (a := a) (by simpa using h) hx hy hw]
    exact ⟨rfl, R.Own.below (by assumption)⟩
  · rename_i h
    rw [ms_w (a := a) (by simpa using h)]
    exact ⟨rfl, R.Own.below (by assumption)⟩
instance con_smay (a : Sp) : R.ConB Tryz.prog 75 #[.agg (cSp a).toArray] Unit (fun _ _ => True) (fun _ => .bool (mayS a)) := ⟨fun _ w _ => smay a w⟩
attribute [local irreducible] W512 in
theorem stimes (a : Sg) (m : Wd) (w : World) : Calls Tryz.prog 123 #[.agg (cS a).toArray, .agg (cW m).toArray] w fun e w' => e = .returned (.agg (cS (resZ (a.z * (⟨false, m⟩ : Sg).z))).toArray) ∧ Below w.heap.size w w' := by
  have hM := R.Own.start [] w
  refine R.calls_of_WC (fn := Tryz.f123) Tryz.func123 rfl Tryz.ntmps123 (Nat.le_of_ble_eq_true rfl) ?_
  (refine R.stepU ?_; (repeat' (first | (with_reducible refine And.intro ?_ ?_) | (with_reducible intro _))); all_goals refine R.Lft.mk ?_; (all_goals (try (exact ⟨rfl, R.Own.below (by assumption)⟩))))
instance con_stimes (a : Sg) (m : Wd) : R.ConB Tryz.prog 123 #[.agg (cS a).toArray, .agg (cW m).toArray] Unit (fun _ _ => True) (fun _ => .agg (cS (resZ (a.z * (⟨false, m⟩ : Sg).z))).toArray) := ⟨fun _ w _ => stimes a m w⟩
/-- How parts compare, and spots. -/
def cmpP (a b : Sg) (v m : Wd) : Int := cmpZ (resZ (a.z * (⟨false, m⟩ : Sg).z)).z (resZ (b.z * (⟨false, v⟩ : Sg).z)).z
def orI (a b : Int) : Int := if a ≠ 0 then a else b
def cmpS (a b : Sp) : Int := orI (cmpP a.x b.x a.w b.w) (cmpP a.y b.y a.w b.w)
/-- The first of some numbers that is not 0. -/
def orL (L : List Int) : Int := L.foldr orI 0
instance con_or (A : Option Addr) (n c : Nat) : R.ConP Tryz.prog 88 #[.slice A n c] (List Int) (fun L w => R.Inp [] w A n 1 (L.flatMap R.cI) ∧ n = L.length ∧ n ≤ 1000000000) (fun L => .int .i64 (orL L)) := ⟨fun L w ⟨hA, hn, hb⟩ => by
  have hM := R.Own.start [] w
  refine R.calls_of_WC (fn := Tryz.f88) Tryz.func88 rfl Tryz.ntmps88 (Nat.le_of_ble_eq_true rfl) ?_
  (refine R.stepV ?_; (repeat' (first | (with_reducible refine And.intro ?_ ?_) | (with_reducible intro _))); all_goals refine R.Lft.mk ?_)
  refine R.WC_loop (fun k : Nat => [(2, .int .i64 0), (3, .int .i64 0), (6, .slice A n c), (7, .int .i64 (n : Nat)), (8, .int .i64 (k : Nat))])
    (fun k w1 => k ≤ n ∧ w = w1 ∧ orL (L.drop k) = orL L) (fun k => n - k) ⟨0, ⟨rfl, rfl, rfl, rfl, rfl, trivial⟩, by omega, rfl, rfl⟩ ?_
  rintro k f w1 ⟨hk, rfl, ho⟩
  by_cases hlt : k < n
  · have e : L.drop k = nth L k :: L.drop (k + 1) := by rw [R.nth_eq (by omega)]; exact List.drop_eq_getElem_cons (by omega)
    have e2 : orL L = orI (nth L k) (orL (L.drop (k + 1))) := by rw [← ho, e]; rfl
    (refine R.stepV ?_; (repeat' (first | (with_reducible refine And.intro ?_ ?_) | (with_reducible intro _))); all_goals refine R.Lft.mk ?_)
    · rename_i h
      rw [e2, orI, if_pos h]
      exact ⟨rfl, rfl⟩
    · rename_i h
      refine ⟨k + 1, ⟨rfl, rfl, rfl, rfl, R.viaI rfl (by omega), trivial⟩, ⟨by omega, rfl, ?_⟩, by omega⟩
      rw [e2, orI, if_neg h]
  · obtain rfl : k = n := by omega
    rw [hn, List.drop_length] at ho
    (refine R.stepV ?_; (repeat' (first | (with_reducible refine And.intro ?_ ?_) | (with_reducible intro _))); all_goals refine R.Lft.mk ?_)
    rw [← ho]
    exact ⟨rfl, rfl⟩⟩
theorem or_two (A : Option Addr) (c : Nat) (u v : Int) (w : World) (hA : R.Inp [] w A 2 1 ([Value.int .i64 u] ++ ([Value.int .i64 v] ++ []))) : Calls Tryz.prog 88 #[.slice A 2 c] w fun e w' => e = .returned (.int .i64 (orI u v)) ∧ w = w' := by
  refine ((con_or A 2 c).h [u, v] w ⟨hA, rfl, by omega⟩).mono ?_
  rintro e w' ⟨rfl, rfl⟩
  refine ⟨?_, rfl⟩
  unfold orL orI
  by_cases hv : v = 0
  · simp [hv]
  · simp [hv]
attribute [local irreducible] W512 in
set_option maxHeartbeats 2000000 in
theorem scompare (a b : Sp) (w : World) : Calls Tryz.prog 115 #[.agg (cSp a).toArray, .agg (cSp b).toArray] w fun e w' => e = .returned (.int .i64 (cmpS a b)) ∧ Below w.heap.size w w' := by
  have hM := R.Own.start [] w
  refine R.calls_of_WC (fn := Tryz.f115) Tryz.func115 rfl Tryz.ntmps115 (Nat.le_of_ble_eq_true rfl) ?_
  (refine R.stepU ?_; (repeat' (first | (with_reducible refine And.intro ?_ ?_) | (with_reducible intro _))); all_goals refine R.Lft.mk ?_)
  refine R.WC_planX [(0, false), (1, false), (2, false), (3, false), (5, false), (6, false), (7, false), (8, false), (11, false), (12, false), (13, false), (14, false), (16, false), (17, false), (18, false), (19, false), (4, true), (9, true), (10, true), (15, true), (20, true), (21, true), (22, true), (23, true), (24, false)] R.mixed (by decide +kernel) R.ohm ?_
  (refine R.stepU ?_; (repeat' (first | (with_reducible refine And.intro ?_ ?_) | (with_reducible intro _))); all_goals refine R.Lft.mk ?_)
  rename_i hM
  refine R.WO_call1 rfl rfl R.vv ?_
  refine (or_two _ _ _ _ _ (R.Own.inp hM (.head _))).mono ?_
  rintro e w' ⟨rfl, rfl⟩
  refine ⟨_, rfl, ?_⟩
  (refine R.stepU ?_; (repeat' (first | (with_reducible refine And.intro ?_ ?_) | (with_reducible intro _))); all_goals refine R.Lft.mk ?_; (all_goals (try (exact ⟨rfl, R.Own.below (by assumption)⟩))))
instance con_scompare (a b : Sp) : R.ConB Tryz.prog 115 #[.agg (cSp a).toArray, .agg (cSp b).toArray] Unit (fun _ _ => True) (fun _ => .int .i64 (cmpS a b)) := ⟨fun _ w _ => scompare a b w⟩
attribute [local irreducible] W512 in
set_option maxHeartbeats 2000000 in
theorem scmp10 (a b : Sp) (w : World) : Calls Tryz.prog 106 #[.agg (cSp a).toArray, .agg (cSp b).toArray] w fun e w' => e = .returned (.tuple #[.int .i64 (if mayS a && mayS b then cmpS a b else 0), .int .i64 (errB (mayS a && mayS b))]) ∧ Below w.heap.size w w' := by
  have hM := R.Own.start [] w
  refine R.calls_of_WC (fn := Tryz.f106) Tryz.func106 rfl Tryz.ntmps106 (Nat.le_of_ble_eq_true rfl) ?_
  (refine R.stepU ?_; (repeat' (first | (with_reducible refine And.intro ?_ ?_) | (with_reducible intro _))); all_goals refine R.Lft.mk ?_; (all_goals (try (exact ⟨rfl, R.Own.below (by assumption)⟩))))
  all_goals first
    | (rw [both_2 (p := mayS a) (q := mayS b) (by assumption) (by assumption)]; exact ⟨rfl, R.Own.below (by assumption)⟩)
    | (rw [both_1 (p := mayS a) (q := mayS b) (by assumption)]; exact ⟨rfl, R.Own.below (by assumption)⟩)
    | (rw [both_0 (p := mayS a) (q := mayS b) (by assumption)]; exact ⟨rfl, R.Own.below (by assumption)⟩)
instance con_scmp10 (a b : Sp) : R.ConB Tryz.prog 106 #[.agg (cSp a).toArray, .agg (cSp b).toArray] Unit (fun _ _ => True) (fun _ => .tuple #[.int .i64 (if mayS a && mayS b then cmpS a b else 0), .int .i64 (errB (mayS a && mayS b))]) := ⟨fun _ w _ => scmp10 a b w⟩
attribute [local irreducible] W512 in
theorem ncompare (a b : Sp) (w : World) : Calls Tryz.prog 87 #[.agg (cSp a).toArray, .agg (cSp b).toArray] w fun e w' => e = .returned (.int .i64 (if mayS a && mayS b then cmpS a b else 0)) ∧ Below w.heap.size w w' := by
  have hM := R.Own.start [] w
  refine R.calls_of_WC (fn := Tryz.f87) Tryz.func87 rfl Tryz.ntmps87 (Nat.le_of_ble_eq_true rfl) ?_
  (refine R.stepU ?_; (repeat' (first | (with_reducible refine And.intro ?_ ?_) | (with_reducible intro _))); all_goals refine R.Lft.mk ?_; (all_goals (try (exact ⟨rfl, R.Own.below (by assumption)⟩))))
instance con_ncompare (a b : Sp) : R.ConB Tryz.prog 87 #[.agg (cSp a).toArray, .agg (cSp b).toArray] Unit (fun _ _ => True) (fun _ => .int .i64 (if mayS a && mayS b then cmpS a b else 0)) := ⟨fun _ w _ => ncompare a b w⟩
end Go.Proofs.YtmoppmfbfpjdnaaGreat
