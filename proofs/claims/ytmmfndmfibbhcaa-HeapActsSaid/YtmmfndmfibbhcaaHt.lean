/- snicketref20.Set, and the laws' own example. -/
import Derived.Test.YtmmfndmfibbhcaaHr
namespace Go.Proofs.Ytmmfndmfibbhcaa
open Go.RowKit
open R (In64 InU64 lo64 nth)
def setQ (κ : Int → Option Int) (x : Item) (less : Bool) : Bool := match κ x.at_ with
  | none => true
  | some k => !(decide (k = x.key) || (less && decide (k < x.key)))
theorem setQ_put (κ : Int → Option Int) (x : Item) : setQ κ x true = putB κ x := by
  unfold setQ putB
  cases κ x.at_ with
  | none => rfl
  | some k =>
    dsimp only
    rw [Bool.eq_iff_iff]
    simp
    omega
theorem setQ_set (κ : Int → Option Int) (x : Item) : setQ κ x false = setB κ x := by
  unfold setQ setB
  cases κ x.at_ with
  | none => simp
  | some k =>
    dsimp only
    rw [Bool.eq_iff_iff]
    simp
set_option maxHeartbeats 2000000 in
theorem set20_any (A : Option Addr) (n c : Nat) (L : List Item) (x : Item) (less : Bool) (κ : Int → Option Int) (w : World) (hA : R.Inp [] w A n 2 (L.flatMap cItem)) (hn : n = L.length) (hb : n ≤ 1000000) (hO : ItemsOk L κ) : Calls Try.prog 28 #[.slice A n c, .agg (cItem x).toArray, .bool less] w fun e w' => ∃ A1 c1 L1, e = .returned (.tuple #[.slice A1 L1.length c1, .bool (setQ κ x less)]) ∧ ItemsOk L1 (if setQ κ x less then R.putM κ x.at_ x.key else κ) ∧ L1.length = (if κ x.at_ = none then n + 1 else n) ∧ R.Gives w w' A1 L1.length c1 43 2 (L1.flatMap cItem) := by
  have hM := R.Own.start [] w
  rcases hO.find x.at_ with ⟨hk, hix⟩ | ⟨j, hj, hix, hat, hk⟩
  · have hq : setQ κ x less = true := by unfold setQ; rw [hk]
    rw [hq, if_pos rfl, if_pos hk]
    refine R.calls_of_WC (fn := Try.f28) Try.func28 rfl Try.ntmps28 (Nat.le_of_ble_eq_true rfl) ?_
    (refine R.stepH ?_; (repeat' (first | (with_reducible refine And.intro ?_ ?_) | (with_reducible intro _))); all_goals refine R.Lft.mk ?_)
    rename_i A9 c9 _ hM
    rw [Nat.zero_add, List.nil_append] at hM
    have hl : (L ++ [x]).length = n + 1 := by rw [List.length_append, hn]; rfl
    exact ⟨A9, c9, L ++ [x], by rw [hl, Nat.zero_add], hO.app hk, hl, by rw [hl]; exact R.Own.gives hM⟩
  · have hkk : (nth L (ixOf (fun y => decide (y.at_ = x.at_)) L).toNat).key = (nth L j).key := by rw [hix]; rfl
    have hgt : (ixOf (fun y => decide (y.at_ = x.at_)) L).toNat = j := by rw [hix]; rfl
    have hq : setQ κ x less = !(decide ((nth L j).key = x.key) || (less && decide ((nth L j).key < x.key))) := by unfold setQ; rw [hk]
    rw [show (if κ x.at_ = none then n + 1 else n) = n from if_neg (by rw [hk]; simp)]
    by_cases hs : setQ κ x less = true
    · rw [hs, if_pos rfl]
      rw [hq] at hs
      simp at hs
      refine R.calls_of_WC (fn := Try.f28) Try.func28 rfl Try.ntmps28 (Nat.le_of_ble_eq_true rfl) ?_
      (refine R.stepH ?_; (repeat' (first | (with_reducible refine And.intro ?_ ?_) | (with_reducible intro _))); all_goals refine R.Lft.mk ?_)
      all_goals first
        | (exfalso
           have h : (nth L (ixOf (fun y => decide (y.at_ = x.at_)) L).toNat).key = x.key := by assumption
           rw [hkk] at h
           exact hs.1 h)
        | (exfalso
           have h : (nth L (ixOf (fun y => decide (y.at_ = x.at_)) L).toNat).key < x.key := by assumption
           rw [hkk] at h
           have h2 : less = true := by assumption
           rcases hs.2 with c | c
           · rw [h2] at c
             cases c
           · omega)
        | (have hM9 := (R.ohm : R.Own [] w _ [.row _ (0 + n) _ 43 2 (([] ++ L).flatMap cItem), .blk _ 43 (cItem x)])
           obtain ⟨ga, cur, hA9, _⟩ := row_form (hM9.ok _ (.head _)) (by omega)
           subst hA9
           have hll : (([] : List Item) ++ L).length = n := by rw [List.nil_append, hn]
           (refine R.stepH ?_; (repeat' (first | (with_reducible refine And.intro ?_ ?_) | (with_reducible intro _))); all_goals refine R.Lft.mk ?_)
           rename_i hM
           rw [List.nil_append, hgt, Nat.zero_add] at hM
           have hl : (L.set j x).length = n := by rw [List.length_set, hn]
           exact ⟨_, _, L.set j x, by rw [hl, Nat.zero_add], hO.set hj hat, hl, by rw [hl]; exact R.Own.gives hM⟩)
    · have hs : setQ κ x less = false := by simpa using hs
      rw [hs, if_neg (by simp)]
      rw [hq] at hs
      simp at hs
      refine R.calls_of_WC (fn := Try.f28) Try.func28 rfl Try.ntmps28 (Nat.le_of_ble_eq_true rfl) ?_
      (refine R.stepH ?_; (repeat' (first | (with_reducible refine And.intro ?_ ?_) | (with_reducible intro _))); all_goals refine R.Lft.mk ?_)
      all_goals first
        | (have hM9 := (R.ohm : R.Own [] w _ [.row _ (0 + n) _ 43 2 (([] ++ L).flatMap cItem), .blk _ 43 (cItem x)])
           rw [List.nil_append, Nat.zero_add] at hM9
           exact ⟨_, _, L, by rw [← hn, Nat.zero_add], hO, hn.symm, by rw [← hn]; exact R.Own.gives hM9⟩)
        | (exfalso
           have h : ¬ (nth L (ixOf (fun y => decide (y.at_ = x.at_)) L).toNat).key = x.key := by assumption
           rw [hkk] at h
           have c := hs h
           first
             | (have h2 : less = false := by assumption
                rw [h2] at c
                cases c.1)
             | (have h2 : ¬ (nth L (ixOf (fun y => decide (y.at_ = x.at_)) L).toNat).key < x.key := by assumption
                rw [hkk] at h2
                exact h2 c.2))
end Go.Proofs.Ytmmfndmfibbhcaa
