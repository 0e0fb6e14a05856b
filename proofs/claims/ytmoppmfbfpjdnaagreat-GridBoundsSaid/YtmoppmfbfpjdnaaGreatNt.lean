/- Which nets may be: package net and snicketref15 tell the same. -/
import Derived.Test.YtmoppmfbfpjdnaaGreatSq
import Derived.Test.YtmoppmfbfpjdnaaGreatCf
namespace Go.Proofs.YtmoppmfbfpjdnaaGreat
open Go.RowKit
open R (In64 InU64 lo64 nth)

/-- A node, an edge, a piece of a net that may be. -/
def nodeP (L : List Sp) (i : Nat) : Prop := mayS (nth L i) = true ∧ (0 < i → cmpS (nth L (i - 1)) (nth L i) < 0)
def weightP (w : Int) : Prop := 0 ≤ w ∧ w ≤ 2147483648
def ltE (x y : Ed) : Prop := x.a < y.a ∨ x.a = y.a ∧ x.b < y.b
def edgeP (m : Nat) (E : List Ed) (i : Nat) : Prop := 0 ≤ (nth E i).a ∧ (nth E i).a < (nth E i).b ∧ (nth E i).b < m ∧ weightP (nth E i).w ∧ ((nth E i).f = true ∨ (nth E i).k = true) ∧ (0 < i → ltE (nth E (i - 1)) (nth E i))
def pieceB (m : Nat) (p : Pc) : Bool := decide (p.e < 0) || (decide ((m : Int) ≤ p.e) || !(decide (0 ≤ p.w) && decide (p.w ≤ 2147483648)))
def netP (x : Nt) : Prop := x.s.n ≤ 200000 ∧ x.e.n ≤ 200000 ∧ x.p.n ≤ 200000 ∧ (∀ i, i < x.s.n → nodeP x.s.L i) ∧ (∀ i, i < x.e.n → edgeP x.s.n x.e.L i) ∧ ∀ l ∈ x.p.L, ∀ p ∈ l.L, pieceB x.e.n p = false
noncomputable def netB (x : Nt) : Bool := @decide (netP x) (Classical.propDecidable _)
theorem netB_t {x : Nt} (h : netP x) : netB x = true := @decide_eq_true _ (Classical.propDecidable _) h
theorem netB_f {x : Nt} (h : ¬ netP x) : netB x = false := @decide_eq_false _ (Classical.propDecidable _) h
theorem netB_iff {x : Nt} : netB x = true ↔ netP x := by
  constructor
  · exact @of_decide_eq_true _ (Classical.propDecidable _)
  · exact netB_t
noncomputable def nodesB (L : List Sp) : Bool := @decide (∀ i, i < L.length → nodeP L i) (Classical.propDecidable _)
theorem nodesB_t {L : List Sp} (h : ∀ i, i < L.length → nodeP L i) : nodesB L = true := @decide_eq_true _ (Classical.propDecidable _) h
theorem nodesB_f {L : List Sp} {i : Nat} (hi : i < L.length) (h : ¬ nodeP L i) : nodesB L = false := @decide_eq_false _ (Classical.propDecidable _) fun g => h (g i hi)
instance con_wt15 (v : Int) : R.ConB Tryz.prog 65 #[.int .i64 v] Unit (fun _ _ => True) (fun _ => .bool (decide (0 ≤ v) && decide (v ≤ 2147483648))) := ⟨fun _ w _ => by
  refine R.calls_of_WC (fn := Tryz.f65) Tryz.func65 rfl Tryz.ntmps65 (Nat.le_of_ble_eq_true rfl) ?_
  (refine R.stepV ?_; (repeat' (first | (with_reducible refine And.intro ?_ ?_) | (with_reducible intro _))); all_goals refine R.Lft.mk ?_)
  all_goals simp [*, Below.refl]⟩
structure En where
  a : Int
  b : Int
  deriving DecidableEq, Inhabited
def cEn (x : En) : List Value := [.int .i64 x.a, .int .i64 x.b]
instance encc_En : R.EncC cEn 2 := ⟨fun _ => rfl, by simp [cEn, Value.oneCell'], by decide⟩
instance con_of15 (e : Ed) : R.ConB Tryz.prog 67 #[.agg (cEd e).toArray] Unit (fun _ _ => True) (fun _ => .agg (cEn ⟨e.a, e.b⟩).toArray) := ⟨fun _ w _ => by
  have hM := R.Own.start [] w
  refine R.calls_of_WC (fn := Tryz.f67) Tryz.func67 rfl Tryz.ntmps67 (Nat.le_of_ble_eq_true rfl) ?_
  (refine R.stepV ?_; (repeat' (first | (with_reducible refine And.intro ?_ ?_) | (with_reducible intro _))); all_goals refine R.Lft.mk ?_; (all_goals (try (exact ⟨rfl, R.Own.below (by assumption)⟩))))⟩
instance con_nan (a : Int) : R.ConP Tryz.prog 107 #[.int .i64 a] Unit (fun _ _ => True) (fun _ => .bool false) := ⟨fun _ w _ => by
  refine R.calls_of_WC (fn := Tryz.f107) Tryz.func107 rfl Tryz.ntmps107 (Nat.le_of_ble_eq_true rfl) ?_
  (refine R.stepV ?_; (repeat' (first | (with_reducible refine And.intro ?_ ?_) | (with_reducible intro _))); all_goals refine R.Lft.mk ?_)
  all_goals simp⟩
instance con_cmpI (a b : Int) : R.ConP Tryz.prog 89 #[.int .i64 a, .int .i64 b] Unit (fun _ _ => True) (fun _ => .int .i64 (cmpZ a b)) := ⟨fun _ w _ => by
  refine R.calls_of_WC (fn := Tryz.f89) Tryz.func89 rfl Tryz.ntmps89 (Nat.le_of_ble_eq_true rfl) ?_
  (refine R.stepV ?_; (repeat' (first | (with_reducible refine And.intro ?_ ?_) | (with_reducible intro _))); all_goals refine R.Lft.mk ?_)
  · rename_i h
    rw [cmpZ_lt h]
    exact ⟨rfl, rfl⟩
  · rename_i h1 h
    rw [cmpZ_gt (by omega)]
    exact ⟨rfl, rfl⟩
  · rename_i h1 h
    rw [show a = b by omega, cmpZ_self]
    exact ⟨rfl, rfl⟩⟩
instance con_order15 (x y : En) : R.ConB Tryz.prog 66 #[.agg (cEn x).toArray, .agg (cEn y).toArray] Unit (fun _ _ => True) (fun _ => .int .i64 (orI (cmpZ x.a y.a) (cmpZ x.b y.b))) := ⟨fun _ w _ => by
  have hM := R.Own.start [] w
  refine R.calls_of_WC (fn := Tryz.f66) Tryz.func66 rfl Tryz.ntmps66 (Nat.le_of_ble_eq_true rfl) ?_
  (refine R.stepU ?_; (repeat' (first | (with_reducible refine And.intro ?_ ?_) | (with_reducible intro _))); all_goals refine R.Lft.mk ?_)
  refine R.WC_planX [(0, false), (1, false), (2, false), (3, false), (5, false), (6, false), (7, false), (8, false), (4, true), (9, true), (10, true), (11, true), (12, false)] R.mixed (by decide +kernel) R.ohm ?_
  (refine R.stepU ?_; (repeat' (first | (with_reducible refine And.intro ?_ ?_) | (with_reducible intro _))); all_goals refine R.Lft.mk ?_)
  rename_i hM
  refine R.WO_call1 rfl rfl R.vv ?_
  refine (or_two _ _ _ _ _ (R.Own.inp hM (.head _))).mono ?_
  rintro e w' ⟨rfl, rfl⟩
  refine ⟨_, rfl, ?_⟩
  (refine R.stepU ?_; (repeat' (first | (with_reducible refine And.intro ?_ ?_) | (with_reducible intro _))); all_goals refine R.Lft.mk ?_; (all_goals (try (exact ⟨rfl, R.Own.below (by assumption)⟩))))⟩
theorem nodes_next {L : List Sp} {k : Nat} (h : ∀ i, i < k → nodeP L i) (hk : nodeP L k) : ∀ i, i < k + 1 → nodeP L i := fun i hi => by
  rcases Nat.lt_or_ge i k with h1 | h1
  · exact h i h1
  · obtain rfl : i = k := by omega
    exact hk
attribute [local irreducible] W512 cmpS mayS in
set_option maxHeartbeats 4000000 in
theorem nodes_any (A : Option Addr) (n c : Nat) (L : List Sp) (w : World) (hA : R.Inp [] w A n 26 (L.flatMap cSp)) (hn : n = L.length) (hb : n ≤ 9223372036854775807) : Calls Tryz.prog 64 #[.slice A n c] w fun e w' => e = .returned (.bool (nodesB L)) ∧ Below w.heap.size w w' := by
  have hM := R.Own.start [] w
  refine R.calls_of_WC (fn := Tryz.f64) Tryz.func64 rfl Tryz.ntmps64 (Nat.le_of_ble_eq_true rfl) ?_
  (refine R.stepV ?_; (repeat' (first | (with_reducible refine And.intro ?_ ?_) | (with_reducible intro _))); all_goals refine R.Lft.mk ?_)
  refine R.WC_loop (fun k : Nat => [(0, .slice A n c), (2, .bool false), (5, .slice A n c), (6, .int .i64 (n : Nat)), (7, .int .i64 (k : Nat))])
    (fun k w2 => k ≤ n ∧ (∀ i, i < k → nodeP L i) ∧ R.Own [] w w2 []) (fun k => n - k) ⟨0, ⟨rfl, rfl, rfl, rfl, rfl, trivial⟩, by omega, fun i hi => absurd hi (Nat.not_lt_zero _), hM⟩ ?_
  clear hM
  rintro k f w2 ⟨hk, hall, hM⟩
  by_cases hlt : k < n
  · have e : (((k : Nat) : Int) - 1).toNat = k - 1 := by omega
    (refine R.stepU ?_; (repeat' (first | (with_reducible refine And.intro ?_ ?_) | (with_reducible intro _))); all_goals refine R.Lft.mk ?_)
    refine R.WC_planO [(0, false), (1, true), (2, false), (3, false), (4, false), (5, false), (6, false), (7, false), (8, false), (9, false), (10, false), (11, false), (12, false), (13, true), (14, false), (15, false), (16, false)] R.mixed (by decide +kernel) R.ohm ?_
    (refine R.stepU ?_; (repeat' (first | (with_reducible refine And.intro ?_ ?_) | (with_reducible intro _))); all_goals refine R.Lft.mk ?_)
    all_goals rename_i hM
    all_goals first
      | (have h : (!mayS (nth L k)) = true := by assumption
         rw [nodesB_f (L := L) (i := k) (by omega) (fun g => by rw [g.1] at h; cases h)]
         exact ⟨rfl, R.Own.below (by assumption)⟩)
      | (have h : (!mayS (nth L k)) = false := by assumption
         have hm : mayS (nth L k) = true := by simpa using h
         first
         | (have h0 : ¬ 0 < ((k : Nat) : Int) := by assumption
            refine ⟨k + 1, ⟨rfl, rfl, rfl, rfl, R.viaI rfl (by omega), trivial⟩, ⟨by omega, nodes_next hall ⟨hm, fun g => absurd g (by omega)⟩, R.Own.nul (by assumption)⟩, by omega⟩)
         | (have h0 : 0 < ((k : Nat) : Int) := by assumption
            have hp : mayS (nth L (((k : Nat) : Int) - 1).toNat) = true := by rw [e]; exact (hall (k - 1) (by omega)).1
            have hv : (if mayS (nth L (((k : Nat) : Int) - 1).toNat) && mayS (nth L k) then cmpS (nth L (((k : Nat) : Int) - 1).toNat) (nth L k) else 0) = cmpS (nth L (k - 1)) (nth L k) := by rw [hp, hm, e]; rfl
            first
            | (have hc : 0 ≤ (if mayS (nth L (((k : Nat) : Int) - 1).toNat) && mayS (nth L k) then cmpS (nth L (((k : Nat) : Int) - 1).toNat) (nth L k) else 0) := by assumption
               rw [hv] at hc
               rw [nodesB_f (L := L) (i := k) (by omega) (fun g => by have := g.2 (by omega); omega)]
               exact ⟨rfl, R.Own.below (by assumption)⟩)
            | (have hc : ¬ 0 ≤ (if mayS (nth L (((k : Nat) : Int) - 1).toNat) && mayS (nth L k) then cmpS (nth L (((k : Nat) : Int) - 1).toNat) (nth L k) else 0) := by assumption
               rw [hv] at hc
               refine ⟨k + 1, ⟨rfl, rfl, rfl, rfl, R.viaI rfl (by omega), trivial⟩, ⟨by omega, nodes_next hall ⟨hm, fun _ => by omega⟩, R.Own.nul (by assumption)⟩, by omega⟩)))
  obtain rfl : k = n := by omega
  rw [nodesB_t (by rw [← hn]; exact hall)]
  (refine R.stepU ?_; (repeat' (first | (with_reducible refine And.intro ?_ ?_) | (with_reducible intro _))); all_goals refine R.Lft.mk ?_; (all_goals (try (exact ⟨rfl, R.Own.below (by assumption)⟩))))
end Go.Proofs.YtmoppmfbfpjdnaaGreat
