/- The contracts of package word's functions. -/
import Derived.Test.YtmoppmfbfpjdnaaGreatShelf
import Derived.Test.YtmoppmfbfpjdnaaGreatFacts
import Derived.Test.YtmoppmfbfpjdnaaGreatNum
import Derived.Laws.Externs
import Derived.Shelf.Spec.BitsCarry
namespace Go.Proofs.YtmoppmfbfpjdnaaGreat
open Go.RowKit
open R (In64 InU64 lo64)

theorem call_add64 (x y c : Int) (hx : 0 ≤ x) (hy : 0 ≤ y) (hc0 : 0 ≤ c) (hc : c ≤ 1) (w : World) :
    (callFunc 124 #[.int .u64 x, .int .u64 y, .int .u64 c]).run Tryz.prog w =
      .ok (.value (.tuple #[.int .u64 (lo64 (x + y + c)), .int .u64 ((x + y + c) / 18446744073709551616)])) w := by
  rw [run_callFunc_extern Tryz.func124 (by kernel_rfl) (by kernel_rfl) (by kernel_rfl) (e := add64Entry) (by kernel_rfl), run_add64 x y c hx hy hc0 hc]
  rfl

theorem call_sub64 (x y c : Int) (hx : InU64 x) (hy : InU64 y) (hc0 : 0 ≤ c) (hc : c ≤ 1) (w : World) :
    (callFunc 125 #[.int .u64 x, .int .u64 y, .int .u64 c]).run Tryz.prog w =
      .ok (.value (.tuple #[.int .u64 (lo64 (x - y - c)), .int .u64 (if x < y + c then 1 else 0)])) w := by
  unfold InU64 at hx hy
  obtain ⟨x, rfl⟩ := Int.eq_ofNat_of_zero_le hx.1
  obtain ⟨y, rfl⟩ := Int.eq_ofNat_of_zero_le hy.1
  obtain ⟨c, rfl⟩ := Int.eq_ofNat_of_zero_le hc0
  rw [run_callFunc_extern Tryz.func125 (by kernel_rfl) (by kernel_rfl) (by kernel_rfl) (e := sub64Entry) (by kernel_rfl), run_sub64 x y c (by omega)]
  have e1 : (((x + 18446744073709551616 - y - c) % 18446744073709551616 : Nat) : Int) = lo64 ((x : Int) - y - c) := by unfold lo64; omega
  have e2 : ((if x < y + c then 1 else 0 : Nat) : Int) = (if (x : Int) < y + c then 1 else 0) := by split <;> split <;> omega
  rw [e1, e2]
  rfl

theorem two_any (n : Int) (h : In64 n) (w : World) :
    Calls Tryz.prog 98 #[.int .i64 n] w fun e w' => e = .returned (.tuple #[.bool (decide (n < 0)), .int .u64 (if n < 0 then -n else n)]) ∧ w = w' := by
  refine R.calls_of_WC (fn := Tryz.f98) Tryz.func98 rfl Tryz.ntmps98 (Nat.le_of_ble_eq_true rfl) ?_
  unfold In64 at h
  (repeat' (first | ((with_reducible refine R.shape_WO ?_); first | refine R.WO_v R.ov ?_) | ((with_reducible refine R.shape_WL ?_); first | ((with_reducible refine R.sh_gn ?_); first | refine R.WL_ops rfl rfl rfl ?_ | refine R.WL_opn rfl rfl ?_) | ((with_reducible refine R.sh_nil ?_); refine R.WL_nil ?_)) | ((with_reducible refine R.shape_WC ?_); first | (with_reducible refine R.WC_seq ?_) | (with_reducible refine R.WC_region ?_) | ((with_reducible refine R.sh_cond ?_); first | refine R.WC_cond_t rfl ?_ | refine R.WC_cond_f rfl ?_ | refine R.WC_cond_dt rfl (by omega) ?_ | refine R.WC_cond_df rfl (by omega) ?_ | refine R.WC_cond_dec rfl (fun _ => ?_) (fun _ => ?_) | refine R.WC_cond rfl (fun _ => ?_) (fun _ => ?_)) | (with_reducible refine R.WC_block ?_) | (with_reducible refine R.WC_skip ?_) | (with_reducible refine R.WC_ret ?_) | (with_reducible refine R.WC_exit ?_) | (with_reducible refine R.WC_label ?_)) | ((with_reducible refine R.shape_TQ ?_); first | (with_reducible refine R.then_n ?_) | (with_reducible refine R.then_r ?_) | (with_reducible refine R.then_e ?_)) | ((with_reducible refine R.shape_BQ ?_); first | (with_reducible refine R.block_n ?_) | (with_reducible refine R.block_r ?_) | refine R.block_e rfl ?_ | refine R.block_o rfl ?_) | ((with_reducible refine R.shape_RQ ?_); first | refine R.ret2 rfl R.vv R.vv ?_ | refine R.ret2n rfl R.vv R.vv ?_)))
  · rename_i h1
    rw [if_pos h1, decide_eq_true h1, show lo64 (-lo64 n) = -n by unfold lo64; omega]
    exact ⟨rfl, rfl⟩
  · rename_i h1
    rw [if_neg h1, decide_eq_false h1]
    exact ⟨rfl, rfl⟩

/-- What is carried of three. -/
def hi64 (n : Int) : Int := n / 18446744073709551616
theorem add_any (a b c : Int) (ha : InU64 a) (hb : InU64 b) (hc : 0 ≤ c) (w : World) :
    Calls Tryz.prog 116 #[.int .u64 a, .int .u64 b, .int .u64 c] w fun e w' => e = .returned (.tuple #[.int .u64 (lo64 (a + b + min c 1)), .int .u64 (hi64 (a + b + min c 1))]) ∧ w = w' := by
  refine R.calls_of_WC (fn := Tryz.f116) Tryz.func116 rfl Tryz.ntmps116 (Nat.le_of_ble_eq_true rfl) ?_
  (repeat' (first | ((with_reducible refine R.shape_WO ?_); first | ((with_reducible refine R.sh_call ?_); first | refine R.WO_extern3 rfl rfl R.vv R.vv R.vv (call_add64 _ _ _ (by first | exact ha.1 | omega) (by first | exact hb.1 | omega) (by omega) (by omega) _) ?_) | refine R.WO_v R.ov ?_) | ((with_reducible refine R.shape_WL ?_); first | ((with_reducible refine R.sh_gn ?_); first | refine R.WL_ops rfl rfl rfl ?_ | refine R.WL_opn rfl rfl ?_) | ((with_reducible refine R.sh_nil ?_); refine R.WL_nil ?_)) | ((with_reducible refine R.shape_WC ?_); first | (with_reducible refine R.WC_seq ?_) | (with_reducible refine R.WC_region ?_) | ((with_reducible refine R.sh_cond ?_); first | refine R.WC_cond_t rfl ?_ | refine R.WC_cond_f rfl ?_ | refine R.WC_cond_dt rfl (by omega) ?_ | refine R.WC_cond_df rfl (by omega) ?_ | refine R.WC_cond_dec rfl (fun _ => ?_) (fun _ => ?_) | refine R.WC_cond rfl (fun _ => ?_) (fun _ => ?_)) | (with_reducible refine R.WC_block ?_) | (with_reducible refine R.WC_skip ?_) | (with_reducible refine R.WC_ret ?_) | (with_reducible refine R.WC_exit ?_) | (with_reducible refine R.WC_label ?_)) | ((with_reducible refine R.shape_TQ ?_); first | (with_reducible refine R.then_n ?_) | (with_reducible refine R.then_r ?_) | (with_reducible refine R.then_e ?_)) | ((with_reducible refine R.shape_BQ ?_); first | (with_reducible refine R.block_n ?_) | (with_reducible refine R.block_r ?_) | refine R.block_e rfl ?_ | refine R.block_o rfl ?_) | ((with_reducible refine R.shape_RQ ?_); first | refine R.ret2 rfl R.vv R.vv ?_ | refine R.ret2n rfl R.vv R.vv ?_)))
  exact ⟨rfl, rfl⟩
/-- What is borrowed. -/
def bor (a b : Int) : Int := if a < b then 1 else 0
theorem bor_spec (a b : Int) : (a < b ∧ bor a b = 1) ∨ (b ≤ a ∧ bor a b = 0) := by unfold bor; split <;> omega
theorem sub_any (a b c : Int) (ha : InU64 a) (hb : InU64 b) (hc : 0 ≤ c) (w : World) :
    Calls Tryz.prog 120 #[.int .u64 a, .int .u64 b, .int .u64 c] w fun e w' => e = .returned (.tuple #[.int .u64 (lo64 (a - b - min c 1)), .int .u64 (bor a (b + min c 1))]) ∧ w = w' := by
  refine R.calls_of_WC (fn := Tryz.f120) Tryz.func120 rfl Tryz.ntmps120 (Nat.le_of_ble_eq_true rfl) ?_
  (repeat' (first | ((with_reducible refine R.shape_WO ?_); first | ((with_reducible refine R.sh_call ?_); first | refine R.WO_extern3 rfl rfl R.vv R.vv R.vv (call_sub64 _ _ _ ha hb (by omega) (by omega) _) ?_) | refine R.WO_v R.ov ?_) | ((with_reducible refine R.shape_WL ?_); first | ((with_reducible refine R.sh_gn ?_); first | refine R.WL_ops rfl rfl rfl ?_ | refine R.WL_opn rfl rfl ?_) | ((with_reducible refine R.sh_nil ?_); refine R.WL_nil ?_)) | ((with_reducible refine R.shape_WC ?_); first | (with_reducible refine R.WC_seq ?_) | (with_reducible refine R.WC_region ?_) | ((with_reducible refine R.sh_cond ?_); first | refine R.WC_cond_t rfl ?_ | refine R.WC_cond_f rfl ?_ | refine R.WC_cond_dt rfl (by omega) ?_ | refine R.WC_cond_df rfl (by omega) ?_ | refine R.WC_cond_dec rfl (fun _ => ?_) (fun _ => ?_) | refine R.WC_cond rfl (fun _ => ?_) (fun _ => ?_)) | (with_reducible refine R.WC_block ?_) | (with_reducible refine R.WC_skip ?_) | (with_reducible refine R.WC_ret ?_) | (with_reducible refine R.WC_exit ?_) | (with_reducible refine R.WC_label ?_)) | ((with_reducible refine R.shape_TQ ?_); first | (with_reducible refine R.then_n ?_) | (with_reducible refine R.then_r ?_) | (with_reducible refine R.then_e ?_)) | ((with_reducible refine R.shape_BQ ?_); first | (with_reducible refine R.block_n ?_) | (with_reducible refine R.block_r ?_) | refine R.block_e rfl ?_ | refine R.block_o rfl ?_) | ((with_reducible refine R.shape_RQ ?_); first | refine R.ret2 rfl R.vv R.vv ?_ | refine R.ret2n rfl R.vv R.vv ?_)))
  exact ⟨rfl, rfl⟩
theorem mul_any (a b : Int) (ha : InU64 a) (hb : InU64 b) (w : World) :
    Calls Tryz.prog 122 #[.int .u64 a, .int .u64 b] w fun e w' => e = .returned (.tuple #[.int .u64 (hi64 (a * b)), .int .u64 (lo64 (a * b))]) ∧ w = w' := by
  unfold InU64 at ha hb
  obtain ⟨a, rfl⟩ := Int.eq_ofNat_of_zero_le ha.1
  obtain ⟨b, rfl⟩ := Int.eq_ofNat_of_zero_le hb.1
  refine R.calls_of_WC (fn := Tryz.f122) Tryz.func122 rfl Tryz.ntmps122 (Nat.le_of_ble_eq_true rfl) ?_
  (repeat' (first | ((with_reducible refine R.shape_WO ?_); first | ((with_reducible refine R.sh_call ?_); first | (refine R.WO_call2 rfl rfl R.vv R.vv ?_; refine (Tryz.bits_Mul64 a b (by omega) (by omega) _).mono ?_; rintro e w' ⟨rfl, rfl⟩; refine ⟨_, rfl, ?_⟩)) | refine R.WO_v R.ov ?_) | ((with_reducible refine R.shape_WL ?_); first | ((with_reducible refine R.sh_gn ?_); first | refine R.WL_ops rfl rfl rfl ?_ | refine R.WL_opn rfl rfl ?_) | ((with_reducible refine R.sh_nil ?_); refine R.WL_nil ?_)) | ((with_reducible refine R.shape_WC ?_); first | (with_reducible refine R.WC_seq ?_) | (with_reducible refine R.WC_region ?_) | ((with_reducible refine R.sh_cond ?_); first | refine R.WC_cond_t rfl ?_ | refine R.WC_cond_f rfl ?_ | refine R.WC_cond_dt rfl (by omega) ?_ | refine R.WC_cond_df rfl (by omega) ?_ | refine R.WC_cond_dec rfl (fun _ => ?_) (fun _ => ?_) | refine R.WC_cond rfl (fun _ => ?_) (fun _ => ?_)) | (with_reducible refine R.WC_block ?_) | (with_reducible refine R.WC_skip ?_) | (with_reducible refine R.WC_ret ?_) | (with_reducible refine R.WC_exit ?_) | (with_reducible refine R.WC_label ?_)) | ((with_reducible refine R.shape_TQ ?_); first | (with_reducible refine R.then_n ?_) | (with_reducible refine R.then_r ?_) | (with_reducible refine R.then_e ?_)) | ((with_reducible refine R.shape_BQ ?_); first | (with_reducible refine R.block_n ?_) | (with_reducible refine R.block_r ?_) | refine R.block_e rfl ?_ | refine R.block_o rfl ?_) | ((with_reducible refine R.shape_RQ ?_); first | refine R.ret2 rfl R.vv R.vv ?_ | refine R.ret2n rfl R.vv R.vv ?_)))
  have e1 : hi64 ((a : Int) * b) = ((a * b / 18446744073709551616 : Nat) : Int) := by unfold hi64; rw [← Int.natCast_mul]; omega
  have e2 : lo64 ((a : Int) * b) = ((a * b % 18446744073709551616 : Nat) : Int) := by unfold lo64; rw [← Int.natCast_mul]; omega
  rw [e1, e2]
  exact ⟨rfl, rfl⟩
theorem len_any (a : Int) (ha : InU64 a) (w : World) :
    Calls Tryz.prog 84 #[.int .u64 a] w fun e w' => e = .returned (.int .i64 (Lib.bitLen a.toNat)) ∧ w = w' := by
  unfold InU64 at ha
  refine R.calls_of_WC (fn := Tryz.f84) Tryz.func84 rfl Tryz.ntmps84 (Nat.le_of_ble_eq_true rfl) ?_
  (repeat' (first | ((with_reducible refine R.shape_WO ?_); first | ((with_reducible refine R.sh_call ?_); first | (refine R.WO_call1 rfl rfl R.vv ?_; refine (Tryz.bits_Len64 a _ ha.1 (by omega)).mono ?_; rintro e w' ⟨rfl, rfl⟩; refine ⟨_, rfl, ?_⟩)) | refine R.WO_v R.ov ?_) | ((with_reducible refine R.shape_WL ?_); first | ((with_reducible refine R.sh_gn ?_); first | refine R.WL_ops rfl rfl rfl ?_ | refine R.WL_opn rfl rfl ?_) | ((with_reducible refine R.sh_nil ?_); refine R.WL_nil ?_)) | ((with_reducible refine R.shape_WC ?_); first | (with_reducible refine R.WC_seq ?_) | (with_reducible refine R.WC_region ?_) | ((with_reducible refine R.sh_cond ?_); first | refine R.WC_cond_t rfl ?_ | refine R.WC_cond_f rfl ?_ | refine R.WC_cond_dt rfl (by omega) ?_ | refine R.WC_cond_df rfl (by omega) ?_ | refine R.WC_cond_dec rfl (fun _ => ?_) (fun _ => ?_) | refine R.WC_cond rfl (fun _ => ?_) (fun _ => ?_)) | (with_reducible refine R.WC_block ?_) | (with_reducible refine R.WC_skip ?_) | (with_reducible refine R.WC_ret ?_) | (with_reducible refine R.WC_exit ?_) | (with_reducible refine R.WC_label ?_)) | ((with_reducible refine R.shape_TQ ?_); first | (with_reducible refine R.then_n ?_) | (with_reducible refine R.then_r ?_) | (with_reducible refine R.then_e ?_)) | ((with_reducible refine R.shape_BQ ?_); first | (with_reducible refine R.block_n ?_) | (with_reducible refine R.block_r ?_) | refine R.block_e rfl ?_ | refine R.block_o rfl ?_) | ((with_reducible refine R.shape_RQ ?_); first | refine R.ret1 rfl R.vv ?_ | refine R.ret1n rfl R.vv ?_)))
  exact ⟨rfl, rfl⟩

end Go.Proofs.YtmoppmfbfpjdnaaGreat
