/- Package roads: what is wrong with one road. -/
import Derived.Test.YtegbidklcaccjaaRoads
namespace Go.Proofs.Ytegbidklcaccjaa
open Go.RowKit
open R (In64 InU64 lo64 nth)

def inW (v : Int) : Bool := decide (-536870912 ≤ v) && decide (v ≤ 536870912)
def ptOk (p : Pt) : Bool := inW p.x && inW p.y
def badQ (v : Int) : Bool := decide (v < 0) || decide (2147483648 < v)
def TwinP (L : List Pt) : Prop := ∃ k, k + 1 < L.length ∧ nth L (k + 1) = nth L k
/-- Two points beside each other are one and the same. -/
noncomputable def twinB (L : List Pt) : Bool := @decide (TwinP L) (Classical.propDecidable _)
theorem twinB_t {L : List Pt} (h : TwinP L) : twinB L = true := by unfold twinB; exact @decide_eq_true _ (Classical.propDecidable _) h
theorem twinB_f {L : List Pt} (h : ¬ TwinP L) : twinB L = false := by unfold twinB; exact @decide_eq_false _ (Classical.propDecidable _) h
/-- The road's form is none. -/
def badF (x : Road) : Bool := decide (x.rank < 1) || decide (1048576 < x.rank) || decide (x.p.n < 2) || decide (100 < x.p.n) || decide (x.q.n + 1 ≠ x.p.n)
/-- What is wrong with a road. -/
noncomputable def errR (x : Road) : Int :=
  if badF x = true then 1 else if (x.p.L.any fun p => !ptOk p) = true then 6 else if twinB x.p.L = true then 1 else if x.q.L.any badQ = true then 10 else 0
instance con_within (v : Int) : R.ConB Try.prog 110 #[.int .i64 v] Unit (fun _ _ => True) (fun _ => .bool (inW v)) := ⟨fun _ w _ => by
  refine R.calls_of_WC (fn := Try.f110) Try.func110 rfl Try.ntmps110 (Nat.le_of_ble_eq_true rfl) ?_
  (refine R.step ?_; (repeat' (first | (with_reducible refine And.intro ?_ ?_) | (with_reducible intro _))); all_goals refine R.Lft.mk ?_)
  all_goals simp [inW, *, Below.refl]⟩
instance con_ptMay (p : Pt) : R.ConB Try.prog 105 #[.agg (cPt p).toArray] Unit (fun _ _ => True) (fun _ => .bool (ptOk p)) := ⟨fun _ w _ => by
  have hM := R.Own.start [] w
  refine R.calls_of_WC (fn := Try.f105) Try.func105 rfl Try.ntmps105 (Nat.le_of_ble_eq_true rfl) ?_
  (refine R.step ?_; (repeat' (first | (with_reducible refine And.intro ?_ ?_) | (with_reducible intro _))); all_goals refine R.Lft.mk ?_)
  all_goals exact ⟨by simp [ptOk, *], R.Own.below R.ohm⟩⟩
instance con_may07 (p : Pt) : R.ConB Try.prog 98 #[.agg (cPt p).toArray] Unit (fun _ _ => True) (fun _ => .bool (ptOk p)) := ⟨fun _ w _ => by
  have hM := R.Own.start [] w
  refine R.calls_of_WC (fn := Try.f98) Try.func98 rfl Try.ntmps98 (Nat.le_of_ble_eq_true rfl) ?_
  (refine R.step ?_; (repeat' (first | (with_reducible refine And.intro ?_ ?_) | (with_reducible intro _))); all_goals refine R.Lft.mk ?_)
  all_goals exact ⟨by simp [ptOk, inW, *], R.Own.below R.ohm⟩⟩
theorem rcheck1_any (p : Pt) (w : World) : Calls Try.prog 104 #[.agg (cPt p).toArray] w fun e w' => e = .returned (.bool (!ptOk p)) ∧ Below w.heap.size w w' := by
  have hM := R.Own.start [] w
  refine R.calls_of_WC (fn := Try.f104) Try.func104 rfl Try.ntmps104 (Nat.le_of_ble_eq_true rfl) ?_
  (refine R.step ?_; (repeat' (first | (with_reducible refine And.intro ?_ ?_) | (with_reducible intro _))); all_goals refine R.Lft.mk ?_; (all_goals (try (exact ⟨rfl, R.Own.below (by assumption)⟩))))
theorem rcheck2_any (v : Int) (w : World) : Calls Try.prog 107 #[.int .i64 v] w fun e w' => e = .returned (.bool (badQ v)) ∧ Below w.heap.size w w' := by
  have hM := R.Own.start [] w
  refine R.calls_of_WC (fn := Try.f107) Try.func107 rfl Try.ntmps107 (Nat.le_of_ble_eq_true rfl) ?_
  (refine R.step ?_; (repeat' (first | (with_reducible refine And.intro ?_ ?_) | (with_reducible intro _))); all_goals refine R.Lft.mk ?_)
  all_goals exact ⟨by simp [badQ, *], R.Own.below R.ohm⟩
theorem twin_any (A : Option Addr) (n c : Nat) (L : List Pt) (w : World) (hA : R.Inp [] w A n 2 (L.flatMap cPt)) (hn : n = L.length) (hb : n ≤ 1000000000) : Calls Try.prog 106 #[.slice A n c] w fun e w' => e = .returned (.bool (twinB L)) ∧ Below w.heap.size w w' := by
  have hM := R.Own.start [] w
  refine R.calls_of_WC (fn := Try.f106) Try.func106 rfl Try.ntmps106 (Nat.le_of_ble_eq_true rfl) ?_
  (refine R.step ?_; (repeat' (first | (with_reducible refine And.intro ?_ ?_) | (with_reducible intro _))); all_goals refine R.Lft.mk ?_)
  refine R.WC_loop (fun k : Nat => [(0, .slice A n c), (2, .bool false), (3, .int .i64 ((k + 1 : Nat) : Int))])
    (fun k w1 => (k + 1 ≤ n ∨ k = 0) ∧ R.Own [] w w1 [] ∧ ∀ j, j < k → nth L (j + 1) ≠ nth L j) (fun k => n - k) ⟨0, ⟨rfl, rfl, rfl, trivial⟩, .inr rfl, hM, fun j hj => absurd hj (Nat.not_lt_zero _)⟩ ?_
  clear hM
  rintro k f w1 ⟨hk, hM, hall⟩
  have e1 : (((k + 1 : Nat) : Int) - 1).toNat = k := by omega
  by_cases hlt : k + 1 < n
  · (refine R.step ?_; (repeat' (first | (with_reducible refine And.intro ?_ ?_) | (with_reducible intro _))); all_goals refine R.Lft.mk ?_)
    · rename_i hh
      rw [e1] at hh
      rw [twinB_t ⟨k, by omega, hh⟩]
      exact ⟨rfl, R.Own.below R.ohm⟩
    · rename_i hh
      rw [e1] at hh
      refine ⟨k + 1, ⟨rfl, rfl, R.viaI rfl (by omega), trivial⟩, ⟨by omega, R.ohm, fun j hj => ?_⟩, by omega⟩
      rcases Nat.lt_succ_iff_lt_or_eq.1 hj with h | rfl
      · exact hall j h
      · exact hh
  · (refine R.step ?_; (repeat' (first | (with_reducible refine And.intro ?_ ?_) | (with_reducible intro _))); all_goals refine R.Lft.mk ?_)
    rw [twinB_f (fun ⟨j, h1, h2⟩ => hall j (by omega) h2)]
    exact ⟨rfl, R.Own.below R.ohm⟩
end Go.Proofs.Ytegbidklcaccjaa
