/- Package heap: what its acts tell and leave: the walks. -/
import Derived.Test.YtegbidklcaccjaaHd
namespace Go.Proofs.Ytegbidklcaccjaa
open Go.RowKit
open R (In64 InU64 lo64 nth)
/-- A heap of the call's own: so many items, that the map κ tells. -/
def Hp (F : List Nat) (W0 w : World) (l : List R.Res) (g b nn N : Nat) (κ : Int → Option Int) : Prop := ∃ A c L es clk m, L.length = nn ∧ HeapOk L m κ ∧ R.IsM Try.prog 3 3 es clk N m ∧ (∀ x ∈ L, In64 x.key ∧ In64 x.at_) ∧ R.Own F W0 w (.row A nn c 72 2 (L.flatMap cItem) :: .map b es clk :: .blk g 151 [.slice A nn c, .map (some b)] :: l)
theorem Hp.drew {F : List Nat} {W0 w w' : World} {l : List R.Res} {g b nn N : Nat} {κ : Int → Option Int} (h : Hp F W0 w l g b nn N κ) (hb : Below w.heap.size w w') : Hp F W0 w' l g b nn N κ := by
  obtain ⟨A, c, L, es, clk, m, h1, h2, h3, h4, h5⟩ := h
  exact ⟨A, c, L, es, clk, m, h1, h2, h3, h4, h5.call hb⟩
section
variable {F : List Nat} {W0 w : World} {l : List R.Res} {g b nn N : Nat} {κ : Int → Option Int}
theorem new_hp (hM : R.Own F W0 w l) : Calls Try.prog 72 #[] w fun e w' => ∃ g b, e = .returned (.pointer (some ⟨g, 0, none⟩)) ∧ Hp F W0 w' l g b 0 0 (fun _ => none) := by
  refine R.calls_of_WC (fn := Try.f72) Try.func72 rfl Try.ntmps72 (Nat.le_of_ble_eq_true rfl) ?_
  (refine R.stepH ?_; (repeat' (first | (with_reducible refine And.intro ?_ ?_) | (with_reducible intro _))); all_goals refine R.Lft.mk ?_)
  refine R.WO_mkMap rfl R.ohm (fun b w1 hM => ?_)
  (refine R.stepH ?_; (repeat' (first | (with_reducible refine And.intro ?_ ?_) | (with_reducible intro _))); all_goals refine R.Lft.mk ?_)
  rename_i g w2 hM
  exact ⟨g, b, rfl, none, 0, [], #[], 0, fun _ => none, rfl, ⟨⟨fun j hj => absurd hj (Nat.not_lt_zero _), fun a v h => by cases h⟩, fun j _ hj => absurd hj (Nat.not_lt_zero _), fun x => ⟨fun h => (by cases h), fun h => (by cases h)⟩⟩, R.isM_empty _ _ _, fun x hx => (by cases hx), R.Own.nil (R.Own.swap hM) _ _⟩
theorem len_hp (h : Hp F W0 w l g b nn N κ) : Calls Try.prog 100 #[.pointer (some ⟨g, 0, none⟩)] w fun e w' => e = .returned (.int .i64 (nn : Nat)) ∧ Hp F W0 w' l g b nn N κ := by
  obtain ⟨A, c, L, es, clk, m, h1, h2, h3, h4, hM⟩ := h
  refine R.calls_of_WC (fn := Try.f100) Try.func100 rfl Try.ntmps100 (Nat.le_of_ble_eq_true rfl) ?_
  (refine R.stepH ?_; (repeat' (first | (with_reducible refine And.intro ?_ ?_) | (with_reducible intro _))); all_goals refine R.Lft.mk ?_)
  exact ⟨rfl, A, c, L, es, clk, m, h1, h2, h3, h4, R.ohm⟩
end
end Go.Proofs.Ytegbidklcaccjaa
