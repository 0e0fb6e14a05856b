/- snicketref05: all but Text. snicketref05: products, which is less. -/
import Derived.Test.YtiebimdjdmogkaaSn
import Derived.Test.YtiebimdjdmogkaaRf3
namespace Go.Proofs.Ytiebimdjdmogkaa
open Go.RowKit
open R (In64 InU64 lo64 nth)

theorem of5_neg {n : Int} (_h : In64 n) (hn : n < 0) : (⟨true, W (Int.toNat (-(n + 1) + 1))⟩ : Sg) = sgn n := by
  refine Sg.ext_iff.2 ⟨(decide_eq_true hn).symm, ?_⟩
  show W _ = W _
  congr 1
  omega
theorem of5_pos {n : Int} (_h : In64 n) (hn : ¬ n < 0) : (⟨false, W (Int.toNat n)⟩ : Sg) = sgn n := by
  refine Sg.ext_iff.2 ⟨(decide_eq_false hn).symm, ?_⟩
  show W _ = W _
  congr 1
  omega
theorem of5 (n : Int) (h : In64 n) (w : World) : Calls Try.prog 33 #[.int .i64 n] w fun e w' => e = .returned (.agg (cS (sgn n)).toArray) ∧ Below w.heap.size w w' := by
  have hM := R.Own.start [] w
  unfold In64 at h
  refine R.calls_of_WC (fn := Try.f33) Try.func33 rfl Try.ntmps33 (Nat.le_of_ble_eq_true rfl) ?_
  (refine R.stepU ?_; (repeat' (first | (with_reducible refine And.intro ?_ ?_) | (with_reducible intro _))); all_goals refine R.Lft.mk ?_; (all_goals (try (exact ⟨rfl, R.Own.below (by assumption)⟩))))
  · rw [of5_neg h (by assumption)]
    exact ⟨rfl, R.Own.below (by assumption)⟩
  · rw [of5_pos h (by assumption)]
    exact ⟨rfl, R.Own.below (by assumption)⟩
instance con_of5 (n : Int) : R.ConB Try.prog 33 #[.int .i64 n] Unit (fun _ _ => In64 n) (fun _ => .agg (cS (sgn n)).toArray) := ⟨fun _ w h => of5 n h w⟩
end Go.Proofs.Ytiebimdjdmogkaa
namespace Go.Proofs.Ytiebimdjdmogkaa
open Go.RowKit
open R (In64 InU64 lo64 nth)

end Go.Proofs.Ytiebimdjdmogkaa
