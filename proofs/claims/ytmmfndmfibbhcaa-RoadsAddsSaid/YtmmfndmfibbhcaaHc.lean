/- Package heap: what its acts tell and leave: the walks. -/
import Derived.Test.YtmmfndmfibbhcaaHd
namespace Go.Proofs.Ytmmfndmfibbhcaa
open Go.RowKit
open R (In64 InU64 lo64 nth)
/-- A heap of the call's own: so many items, that the map κ tells. -/
def Hp (F : List Nat) (W0 w : World) (l : List R.Res) (g b nn N : Nat) (κ : Int → Option Int) : Prop := ∃ A c L es clk m, L.length = nn ∧ HeapOk L m κ ∧ R.IsM Try.prog 3 3 es clk N m ∧ (∀ x ∈ L, In64 x.key ∧ In64 x.at_) ∧ R.Own F W0 w (.row A nn c 43 2 (L.flatMap cItem) :: .map b es clk :: .blk g 59 [.slice A nn c, .map (some b)] :: l)
theorem Hp.drew {F : List Nat} {W0 w w' : World} {l : List R.Res} {g b nn N : Nat} {κ : Int → Option Int} (h : Hp F W0 w l g b nn N κ) (hb : Below w.heap.size w w') : Hp F W0 w' l g b nn N κ := by
  obtain ⟨A, c, L, es, clk, m, h1, h2, h3, h4, h5⟩ := h
  exact ⟨A, c, L, es, clk, m, h1, h2, h3, h4, h5.call hb⟩
section
variable {F : List Nat} {W0 w : World} {l : List R.Res} {g b nn N : Nat} {κ : Int → Option Int}
theorem new_hp (hM : R.Own F W0 w l) : Calls Try.prog 27 #[] w fun e w' => ∃ g b, e = .returned (.pointer (some ⟨g, 0, none⟩)) ∧ Hp F W0 w' l g b 0 0 (fun _ => none) := by
  refine R.calls_of_WC (fn := Try.f27) Try.func27 rfl Try.ntmps27 (Nat.le_of_ble_eq_true rfl) ?_
  (refine R.stepH ?_; (repeat' (first | (with_reducible refine And.intro ?_ ?_) | (with_reducible intro _))); all_goals refine R.Lft.mk ?_)
  refine R.WO_mkMap rfl R.ohm (fun b w1 hM => ?_)
  (refine R.stepH ?_; (repeat' (first | (with_reducible refine And.intro ?_ ?_) | (with_reducible intro _))); all_goals refine R.Lft.mk ?_)
  rename_i g w2 hM
  exact ⟨g, b, rfl, none, 0, [], #[], 0, fun _ => none, rfl, ⟨⟨fun j hj => absurd hj (Nat.not_lt_zero _), fun a v h => by cases h⟩, fun j _ hj => absurd hj (Nat.not_lt_zero _), fun x => ⟨fun h => (by cases h), fun h => (by cases h)⟩⟩, R.isM_empty _ _ _, fun x hx => (by cases hx), R.Own.nil (R.Own.swap hM) _ _⟩
theorem len_hp (h : Hp F W0 w l g b nn N κ) : Calls Try.prog 34 #[.pointer (some ⟨g, 0, none⟩)] w fun e w' => e = .returned (.int .i64 (nn : Nat)) ∧ Hp F W0 w' l g b nn N κ := by
  obtain ⟨A, c, L, es, clk, m, h1, h2, h3, h4, hM⟩ := h
  refine R.calls_of_WC (fn := Try.f34) Try.func34 rfl Try.ntmps34 (Nat.le_of_ble_eq_true rfl) ?_
  (refine R.stepH ?_; (repeat' (first | (with_reducible refine And.intro ?_ ?_) | (with_reducible intro _))); all_goals refine R.Lft.mk ?_)
  exact ⟨rfl, A, c, L, es, clk, m, h1, h2, h3, h4, R.ohm⟩
theorem key_hp (h : Hp F W0 w l g b nn N κ) {a : Int} (ha : In64 a) : Calls Try.prog 35 #[.pointer (some ⟨g, 0, none⟩), .int .i64 a] w fun e w' => e = .returned (.tuple #[.int .i64 ((κ a).getD 0), .bool (κ a).isSome]) ∧ Hp F W0 w' l g b nn N κ := by
  obtain ⟨A, c, L, es, clk, m, h1, h2, h3, h4, hM⟩ := h
  cases hm : m a with
  | none =>
    rw [h2.none hm]
    refine R.calls_of_WC (fn := Try.f35) Try.func35 rfl Try.ntmps35 (Nat.le_of_ble_eq_true rfl) ?_
    (refine R.stepH ?_; (repeat' (first | (with_reducible refine And.intro ?_ ?_) | (with_reducible intro _))); all_goals refine R.Lft.mk ?_)
    all_goals first
      | exact ⟨rfl, A, c, L, es, clk, m, h1, h2, h3, h4, R.ohm⟩
      | (exfalso
         have hh : (!(m a).isSome) = false := by assumption
         rw [hm] at hh
         cases hh)
  | some v =>
    obtain ⟨j, hj, e1, e2, e3⟩ := h2.there hm
    subst h1
    subst e1
    obtain ⟨ga, cur, rfl, _⟩ := row_form (hM.ok _ (.head _)) (by omega)
    have hgd : (m a).getD 0 = ((j : Nat) : Int) := by rw [hm]; rfl
    have hgt : ((m a).getD 0).toNat = j := by rw [hgd]; rfl
    rw [e3]
    refine R.calls_of_WC (fn := Try.f35) Try.func35 rfl Try.ntmps35 (Nat.le_of_ble_eq_true rfl) ?_
    (refine R.stepH ?_; (repeat' (first | (with_reducible refine And.intro ?_ ?_) | (with_reducible intro _))); all_goals refine R.Lft.mk ?_)
    all_goals first
      | (refine ⟨?_, some ⟨ga, 0, none⟩, c, L, es, clk, m, rfl, h2, h3, h4, R.ohm⟩
         rw [hgt]
         rfl)
      | (exfalso
         have hh : (!(m a).isSome) = true := by assumption
         rw [hm] at hh
         cases hh)
end
end Go.Proofs.Ytmmfndmfibbhcaa
