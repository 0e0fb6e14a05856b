/- snicketlaw04: awake. -/
import Derived.Test.YtalaffabcnccgaaTx
namespace Go.Proofs.Ytalaffabcnccgaa
open Go.RowKit
open R (In64 InU64 lo64 nth)

theorem W_small {n : Nat} (h : n < 340282366920938463463374607431768211456) : (W n).n = n := W_n (wtwo h)
theorem aw_big : (W (Int.toNat 0 + Int.toNat 1 * 18446744073709551616)).n = 18446744073709551616 := W_small (by decide)
theorem aw_10 : (W (Int.toNat 10)).n = 10 := W_small (by decide)
theorem aw_q : qW (W (Int.toNat 0 + Int.toNat 1 * 18446744073709551616)) (W (Int.toNat 10)) = W (Int.toNat 1844674407370955161) := by
  unfold qW
  rw [aw_big, aw_10]
  rfl
theorem aw_r : rW (W (Int.toNat 0 + Int.toNat 1 * 18446744073709551616)) (W (Int.toNat 10)) = W (Int.toNat 6) := by
  unfold rW restW
  rw [aw_big, aw_10, if_neg (by decide), show 18446744073709551616 % 10 = Int.toNat 6 from rfl]
theorem aw_e : eW (W (Int.toNat 10)) = 0 := by
  unfold eW
  rw [aw_10]
  rfl
theorem aw_g : gcdW (W (Int.toNat 12)) (W (Int.toNat 18)) = W (Int.toNat 6) := by
  unfold gcdW
  rw [W_small (show Int.toNat 12 < _ by decide), W_small (show Int.toNat 18 < _ by decide)]
  rfl
theorem aw_t : ((txt (W (Int.toNat 0 + Int.toNat 1 * 18446744073709551616)).n).toList == (⟨#[49, 56, 52, 52, 54, 55, 52, 52, 48, 55, 51, 55, 48, 57, 53, 53, 49, 54, 49, 54]⟩ : ByteArray).toList) = true := by
  rw [aw_big, ByteArray.toList_eq, ByteArray.toList_eq]
  decide +kernel
set_option maxRecDepth 20000 in
attribute [local irreducible] W512 in
set_option maxHeartbeats 2000000 in
theorem awake04 (w : World) : Calls Try.prog 52 #[] w fun e w' => e = .returned (.bool true) ∧ Below w.heap.size w w' := by
  have hM := R.Own.start [] w
  have h1 := aw_q
  have h2 := aw_r
  have h3 := aw_e
  have h4 := aw_g
  have h5 := aw_t
  refine R.calls_of_WC (fn := Try.f52) Try.func52 rfl Try.ntmps52 (Nat.le_of_ble_eq_true rfl) ?_
  (refine R.stepT ?_; (repeat' (first | (with_reducible refine And.intro ?_ ?_) | (with_reducible intro _))); all_goals refine R.Lft.mk ?_; (all_goals (try (exact ⟨rfl, R.Own.below (by assumption)⟩))))
  rw [h5]
  exact ⟨rfl, R.Own.below (by assumption)⟩
instance con_awake04 : R.ConB Try.prog 52 #[] Unit (fun _ _ => True) (fun _ => .bool true) := ⟨fun _ w _ => awake04 w⟩
end Go.Proofs.Ytalaffabcnccgaa
