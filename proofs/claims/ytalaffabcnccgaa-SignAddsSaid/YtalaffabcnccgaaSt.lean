/- Numbers with a sign as texts. -/
import Derived.Test.YtalaffabcnccgaaS5
import Derived.Test.YtalaffabcnccgaaTx
namespace Go.Proofs.Ytalaffabcnccgaa
open Go.RowKit
open R (In64 InU64 lo64 nth)

/-- A whole number's digits. -/
def txtZ (z : Int) : ByteArray := if z < 0 then (⟨#[45]⟩ : ByteArray) ++ txt z.natAbs else txt z.natAbs
theorem decL_len : ∀ (k n : Nat), (decL k n).length ≤ k
  | 0, _ => Nat.le_refl 0
  | k + 1, n => by
    unfold decL
    rw [List.length_cons]
    split
    · simp
    · have := decL_len k (n / 10)
      omega
theorem txt_size (n : Nat) : (txt n).size ≤ 200 := by
  have := decL_len 160 n
  unfold txt
  rw [bytes_size, List.length_reverse]
  omega
theorem stext (a : Sg) (w : World) : Calls Try.prog 59 #[.agg (cS a).toArray] w fun e w' => e = .returned (.string (txtZ a.z)) ∧ Below w.heap.size w w' := by
  have hM := R.Own.start [] w
  have h1 := txt_size (sgn a.z).mag.n
  have h2 : (⟨#[45]⟩ : ByteArray).size + (txt (sgn a.z).mag.n).size ≤ 1000000 := by show 1 + _ ≤ _; omega
  have h3 := sgn_mag a.z_lt
  by_cases h : a.z < 0
  · have e1 : txtZ a.z = (⟨#[45]⟩ : ByteArray) ++ txt (sgn a.z).mag.n := by unfold txtZ; rw [if_pos h, h3]
    refine R.calls_of_WC (fn := Try.f59) Try.func59 rfl Try.ntmps59 (Nat.le_of_ble_eq_true rfl) ?_
    (refine R.stepU ?_; (repeat' (first | (with_reducible refine And.intro ?_ ?_) | (with_reducible intro _))); all_goals refine R.Lft.mk ?_; (all_goals (try (exact ⟨rfl, R.Own.below (by assumption)⟩))))
    rw [e1]
    exact ⟨rfl, R.Own.below (by assumption)⟩
  · have e1 : txtZ a.z = txt (sgn a.z).mag.n := by unfold txtZ; rw [if_neg h, h3]
    refine R.calls_of_WC (fn := Try.f59) Try.func59 rfl Try.ntmps59 (Nat.le_of_ble_eq_true rfl) ?_
    (refine R.stepU ?_; (repeat' (first | (with_reducible refine And.intro ?_ ?_) | (with_reducible intro _))); all_goals refine R.Lft.mk ?_; (all_goals (try (exact ⟨rfl, R.Own.below (by assumption)⟩))))
    rw [e1]
    exact ⟨rfl, R.Own.below (by assumption)⟩
instance con_stext (a : Sg) : R.ConB Try.prog 59 #[.agg (cS a).toArray] Unit (fun _ _ => True) (fun _ => .string (txtZ a.z)) := ⟨fun _ w _ => stext a w⟩
theorem text5 (a : Sg) (w : World) : Calls Try.prog 60 #[.agg (cS a).toArray] w fun e w' => e = .returned (.string (txtZ a.z)) ∧ Below w.heap.size w w' := by
  have hM := R.Own.start [] w
  have h1 := txt_size a.mag.n
  have h2 : (⟨#[45]⟩ : ByteArray).size + (txt a.mag.n).size ≤ 1000000 := by show 1 + _ ≤ _; omega
  have h3 := a.abs
  by_cases h : a.z < 0
  · have e1 : txtZ a.z = (⟨#[45]⟩ : ByteArray) ++ txt a.mag.n := by unfold txtZ; rw [if_pos h, h3]
    refine R.calls_of_WC (fn := Try.f60) Try.func60 rfl Try.ntmps60 (Nat.le_of_ble_eq_true rfl) ?_
    (refine R.stepU ?_; (repeat' (first | (with_reducible refine And.intro ?_ ?_) | (with_reducible intro _))); all_goals refine R.Lft.mk ?_; (all_goals (try (exact ⟨rfl, R.Own.below (by assumption)⟩))))
    rw [e1]
    exact ⟨rfl, R.Own.below (by assumption)⟩
  · have e1 : txtZ a.z = txt a.mag.n := by unfold txtZ; rw [if_neg h, h3]
    refine R.calls_of_WC (fn := Try.f60) Try.func60 rfl Try.ntmps60 (Nat.le_of_ble_eq_true rfl) ?_
    (refine R.stepU ?_; (repeat' (first | (with_reducible refine And.intro ?_ ?_) | (with_reducible intro _))); all_goals refine R.Lft.mk ?_; (all_goals (try (exact ⟨rfl, R.Own.below (by assumption)⟩))))
    rw [e1]
    exact ⟨rfl, R.Own.below (by assumption)⟩
instance con_text5 (a : Sg) : R.ConB Try.prog 60 #[.agg (cS a).toArray] Unit (fun _ _ => True) (fun _ => .string (txtZ a.z)) := ⟨fun _ w _ => text5 a w⟩
end Go.Proofs.Ytalaffabcnccgaa
