/- snicketref05: all but Text. snicketref05: products, which is less. -/
import Derived.Test.YtebgjcginmgoaaaGreatSn
import Derived.Test.YtebgjcginmgoaaaGreatRf3
namespace Go.Proofs.YtebgjcginmgoaaaGreat
open Go.RowKit
open R (In64 InU64 lo64 nth)

theorem fix5 (a : Sg) (w : World) : Calls Tryz.prog 69 #[.agg (cS a).toArray] w fun e w' => e = .returned (.agg (cS (sgn a.z)).toArray) ∧ Below w.heap.size w w' := by
  have hM := R.Own.start [] w
  by_cases h : a.mag = W 0
  · have e1 : sgn a.z = ⟨false, a.mag⟩ := by rw [fix_zero (by rw [h]; exact W_n W512_pos), h]
    rw [e1]
    refine R.calls_of_WC (fn := Tryz.f69) Tryz.func69 rfl Tryz.ntmps69 (Nat.le_of_ble_eq_true rfl) ?_
    (refine R.stepU ?_; (repeat' (first | (with_reducible refine And.intro ?_ ?_) | (with_reducible intro _))); all_goals refine R.Lft.mk ?_; (all_goals (try (exact ⟨rfl, R.Own.below (by assumption)⟩))))
    all_goals exact absurd h (by assumption)
  · have e1 : sgn a.z = a := fix_same (fun h0 => h (Wd.ext_ (by rw [h0]; exact (W_n W512_pos).symm)))
    rw [e1]
    refine R.calls_of_WC (fn := Tryz.f69) Tryz.func69 rfl Tryz.ntmps69 (Nat.le_of_ble_eq_true rfl) ?_
    (refine R.stepU ?_; (repeat' (first | (with_reducible refine And.intro ?_ ?_) | (with_reducible intro _))); all_goals refine R.Lft.mk ?_; (all_goals (try (exact ⟨rfl, R.Own.below (by assumption)⟩))))
    all_goals exact absurd (by assumption) h
instance con_fix5 (a : Sg) : R.ConB Tryz.prog 69 #[.agg (cS a).toArray] Unit (fun _ _ => True) (fun _ => .agg (cS (sgn a.z)).toArray) := ⟨fun _ w _ => fix5 a w⟩
theorem of5_neg {n : Int} (_h : In64 n) (hn : n < 0) : (⟨true, W (Int.toNat (-(n + 1) + 1))⟩ : Sg) = sgn n := by
  refine Sg.ext_iff.2 ⟨(decide_eq_true hn).symm, ?_⟩
  show W _ = W _
  congr 1
  omega
theorem of5_pos {n : Int} (_h : In64 n) (hn : ¬ n < 0) : (⟨false, W (Int.toNat n)⟩ : Sg) = sgn n := by
  refine Sg.ext_iff.2 ⟨(decide_eq_false hn).symm, ?_⟩
  show W _ = W _
  congr 1
  omega
theorem of5 (n : Int) (h : In64 n) (w : World) : Calls Tryz.prog 36 #[.int .i64 n] w fun e w' => e = .returned (.agg (cS (sgn n)).toArray) ∧ Below w.heap.size w w' := by
  have hM := R.Own.start [] w
  unfold In64 at h
  refine R.calls_of_WC (fn := Tryz.f36) Tryz.func36 rfl Tryz.ntmps36 (Nat.le_of_ble_eq_true rfl) ?_
  (refine R.stepU ?_; (repeat' (first | (with_reducible refine And.intro ?_ ?_) | (with_reducible intro _))); all_goals refine R.Lft.mk ?_; (all_goals (try (exact ⟨rfl, R.Own.below (by assumption)⟩))))
  · rw [of5_neg h (by assumption)]
    exact ⟨rfl, R.Own.below (by assumption)⟩
  · rw [of5_pos h (by assumption)]
    exact ⟨rfl, R.Own.below (by assumption)⟩
instance con_of5 (n : Int) : R.ConB Tryz.prog 36 #[.int .i64 n] Unit (fun _ _ => In64 n) (fun _ => .agg (cS (sgn n)).toArray) := ⟨fun _ w h => of5 n h w⟩
end Go.Proofs.YtebgjcginmgoaaaGreat
namespace Go.Proofs.YtebgjcginmgoaaaGreat
open Go.RowKit
open R (In64 InU64 lo64 nth)

end Go.Proofs.YtebgjcginmgoaaaGreat
