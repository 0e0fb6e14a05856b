/- Package wide: a number's length and bits, products. -/
import Derived.Test.YtalaffabcnccgaaWide2
import Derived.Test.YtalaffabcnccgaaWNum2
namespace Go.Proofs.Ytalaffabcnccgaa
open Go.RowKit
open R (In64 InU64 lo64)

theorem bitLen_zero : bitLen 0 = 0 := rfl
theorem bitLen_le_ {x m : Nat} (h : x < 2 ^ m) : bitLen x ≤ m := by
  rcases Nat.eq_zero_or_pos x with h0 | h0
  · subst h0; exact Nat.zero_le _
  · have h1 := (bitLen_spec x).2 (by omega)
    have h2 : 2 ^ (bitLen x - 1) < 2 ^ m := Nat.lt_of_le_of_lt h1 h
    have h3 := (Nat.pow_lt_pow_iff_right (by omega : 1 < 2)).1 h2
    omega
set_option maxHeartbeats 1000000 in
theorem wlen_any (x : Nat) (hx : x < W512) (w : World) :
    Calls Try.prog 40 #[.agg (wcs x).toArray] w fun e w' => e = .returned (.int .i64 (bitLen x : Nat)) ∧ Below w.heap.size w w' := by
  refine R.calls_of_WC (fn := Try.f40) Try.func40 rfl Try.ntmps40 (Nat.le_of_ble_eq_true rfl) ?_
  (repeat' (first | ((with_reducible refine R.shape_WO ?_); first | refine R.WO_v R.ov ?_) | ((with_reducible refine R.shape_WL ?_); first | ((with_reducible refine R.sh_gn ?_); first | refine R.WL_ops rfl rfl rfl ?_ | refine R.WL_opn rfl rfl ?_) | ((with_reducible refine R.sh_nil ?_); refine R.WL_nil ?_)) | ((with_reducible refine R.shape_WC ?_); first | (with_reducible refine R.WC_seq ?_) | (with_reducible refine R.WC_region ?_) | ((with_reducible refine R.sh_cond ?_); first | refine R.WC_cond_t rfl ?_ | refine R.WC_cond_f rfl ?_ | refine R.WC_cond_dt rfl (by omega) ?_ | refine R.WC_cond_df rfl (by omega) ?_ | refine R.WC_cond_dec rfl (fun _ => ?_) (fun _ => ?_) | refine R.WC_cond rfl (fun _ => ?_) (fun _ => ?_)) | (with_reducible refine R.WC_block ?_) | (with_reducible refine R.WC_skip ?_) | (with_reducible refine R.WC_ret ?_) | (with_reducible refine R.WC_exit ?_) | (with_reducible refine R.WC_label ?_)) | ((with_reducible refine R.shape_TQ ?_); first | (with_reducible refine R.then_n ?_) | (with_reducible refine R.then_r ?_) | (with_reducible refine R.then_e ?_)) | ((with_reducible refine R.shape_BQ ?_); first | (with_reducible refine R.block_n ?_) | (with_reducible refine R.block_r ?_) | refine R.block_e rfl ?_ | refine R.block_o rfl ?_) | ((with_reducible refine R.shape_RQ ?_); first | refine R.ret1 rfl R.vv ?_ | refine R.ret1n rfl R.vv ?_)))
  refine R.WC_loop (fun k : Nat => [(1, .pointer (some ⟨w.heap.size, 0, none⟩)), (3, .int .i64 ((k : Int) - 1))])
    (fun k w1 => k ≤ 8 ∧ x / 2 ^ (64 * k) = 0 ∧ WB w1 w.heap.size x ∧ Below w.heap.size w w1) (fun k => k)
    ⟨8, ⟨rfl, rfl, trivial⟩, by omega, ?_⟩ ?_
  · exact ⟨by rw [wsz_eq 8]; exact Nat.div_eq_of_lt hx, WB.new_ rfl, (Below.refl _ w).alloc (Nat.le_refl _) _⟩
  rintro k f w1 ⟨hk, htop, b0, hb⟩
  by_cases hlt : 0 < k
  · have c0 := b0.cell_ (i := (k : Int) - 1) (k := k - 1) (by omega) (by omega)
    obtain ⟨k, rfl⟩ : ∃ j, k = j + 1 := ⟨k - 1, by omega⟩
    rw [Nat.add_sub_cancel] at c0
    have hw := wd_lt x k
    by_cases hz : wd x k = 0
    · (repeat' (first | ((with_reducible refine R.shape_WO ?_); first | refine R.WO_v R.ov ?_) | ((with_reducible refine R.shape_WL ?_); first | ((with_reducible refine R.sh_gn ?_); first | refine R.WL_ops rfl rfl rfl ?_ | refine R.WL_opn rfl rfl ?_) | ((with_reducible refine R.sh_nil ?_); refine R.WL_nil ?_)) | ((with_reducible refine R.shape_WC ?_); first | (with_reducible refine R.WC_seq ?_) | (with_reducible refine R.WC_region ?_) | ((with_reducible refine R.sh_cond ?_); first | refine R.WC_cond_t rfl ?_ | refine R.WC_cond_f rfl ?_ | refine R.WC_cond_dt rfl (by omega) ?_ | refine R.WC_cond_df rfl (by omega) ?_ | refine R.WC_cond_dec rfl (fun _ => ?_) (fun _ => ?_) | refine R.WC_cond rfl (fun _ => ?_) (fun _ => ?_)) | (with_reducible refine R.WC_block ?_) | (with_reducible refine R.WC_skip ?_) | (with_reducible refine R.WC_ret ?_) | (with_reducible refine R.WC_exit ?_) | (with_reducible refine R.WC_label ?_)) | ((with_reducible refine R.shape_TQ ?_); first | (with_reducible refine R.then_n ?_) | (with_reducible refine R.then_r ?_) | (with_reducible refine R.then_e ?_)) | ((with_reducible refine R.shape_BQ ?_); first | (with_reducible refine R.block_n ?_) | (with_reducible refine R.block_r ?_) | refine R.block_e rfl ?_ | refine R.block_o rfl ?_) | ((with_reducible refine R.shape_RQ ?_); first | refine R.ret1 rfl R.vv ?_ | refine R.ret1n rfl R.vv ?_)))
      refine ⟨k, ⟨rfl, R.viaI rfl (by omega), trivial⟩, ⟨by omega, ?_, b0, hb⟩, by omega⟩
      have e : wd x k = x / 2 ^ (64 * k) := by
        unfold wd
        rw [pow_succ_word, ← Nat.div_div_eq_div_mul] at htop
        omega
      omega
    · have hl := bitLen_word htop hz
      have hl2 := bitLen_le_ (m := 64) hw
      (repeat' (first | ((with_reducible refine R.shape_WO ?_); first | refine R.WO_v R.ov ?_) | ((with_reducible refine R.shape_WL ?_); first | ((with_reducible refine R.sh_gn ?_); first | refine R.WL_ops rfl rfl rfl ?_ | refine R.WL_opn rfl rfl ?_) | ((with_reducible refine R.sh_nil ?_); refine R.WL_nil ?_)) | ((with_reducible refine R.shape_WC ?_); first | (with_reducible refine R.WC_seq ?_) | (with_reducible refine R.WC_region ?_) | ((with_reducible refine R.sh_cond ?_); first | refine R.WC_cond_t rfl ?_ | refine R.WC_cond_f rfl ?_ | refine R.WC_cond_dt rfl (by omega) ?_ | refine R.WC_cond_df rfl (by omega) ?_ | refine R.WC_cond_dec rfl (fun _ => ?_) (fun _ => ?_) | refine R.WC_cond rfl (fun _ => ?_) (fun _ => ?_)) | (with_reducible refine R.WC_block ?_) | (with_reducible refine R.WC_skip ?_) | (with_reducible refine R.WC_ret ?_) | (with_reducible refine R.WC_exit ?_) | (with_reducible refine R.WC_label ?_)) | ((with_reducible refine R.shape_TQ ?_); first | (with_reducible refine R.then_n ?_) | (with_reducible refine R.then_r ?_) | (with_reducible refine R.then_e ?_)) | ((with_reducible refine R.shape_BQ ?_); first | (with_reducible refine R.block_n ?_) | (with_reducible refine R.block_r ?_) | refine R.block_e rfl ?_ | refine R.block_o rfl ?_) | ((with_reducible refine R.shape_RQ ?_); first | refine R.ret1 rfl R.vv ?_ | refine R.ret1n rfl R.vv ?_)))
      refine R.WO_call1 rfl rfl R.vv ?_; refine (len_any _ (wd_range _ _) _).mono ?_
      rintro e w' ⟨rfl, rfl⟩
      refine ⟨_, rfl, ?_⟩
      rw [Int.toNat_natCast, libLen_eq _ hw]
      (repeat' (first | ((with_reducible refine R.shape_WO ?_); first | refine R.WO_v R.ov ?_) | ((with_reducible refine R.shape_WL ?_); first | ((with_reducible refine R.sh_gn ?_); first | refine R.WL_ops rfl rfl rfl ?_ | refine R.WL_opn rfl rfl ?_) | ((with_reducible refine R.sh_nil ?_); refine R.WL_nil ?_)) | ((with_reducible refine R.shape_WC ?_); first | (with_reducible refine R.WC_seq ?_) | (with_reducible refine R.WC_region ?_) | ((with_reducible refine R.sh_cond ?_); first | refine R.WC_cond_t rfl ?_ | refine R.WC_cond_f rfl ?_ | refine R.WC_cond_dt rfl (by omega) ?_ | refine R.WC_cond_df rfl (by omega) ?_ | refine R.WC_cond_dec rfl (fun _ => ?_) (fun _ => ?_) | refine R.WC_cond rfl (fun _ => ?_) (fun _ => ?_)) | (with_reducible refine R.WC_block ?_) | (with_reducible refine R.WC_skip ?_) | (with_reducible refine R.WC_ret ?_) | (with_reducible refine R.WC_exit ?_) | (with_reducible refine R.WC_label ?_)) | ((with_reducible refine R.shape_TQ ?_); first | (with_reducible refine R.then_n ?_) | (with_reducible refine R.then_r ?_) | (with_reducible refine R.then_e ?_)) | ((with_reducible refine R.shape_BQ ?_); first | (with_reducible refine R.block_n ?_) | (with_reducible refine R.block_r ?_) | refine R.block_e rfl ?_ | refine R.block_o rfl ?_) | ((with_reducible refine R.shape_RQ ?_); first | refine R.ret1 rfl R.vv ?_ | refine R.ret1n rfl R.vv ?_)))
      exact ⟨by rw [hl]; congr 2; omega, hb⟩
  · obtain rfl : k = 0 := by omega
    (repeat' (first | ((with_reducible refine R.shape_WO ?_); first | refine R.WO_v R.ov ?_) | ((with_reducible refine R.shape_WL ?_); first | ((with_reducible refine R.sh_gn ?_); first | refine R.WL_ops rfl rfl rfl ?_ | refine R.WL_opn rfl rfl ?_) | ((with_reducible refine R.sh_nil ?_); refine R.WL_nil ?_)) | ((with_reducible refine R.shape_WC ?_); first | (with_reducible refine R.WC_seq ?_) | (with_reducible refine R.WC_region ?_) | ((with_reducible refine R.sh_cond ?_); first | refine R.WC_cond_t rfl ?_ | refine R.WC_cond_f rfl ?_ | refine R.WC_cond_dt rfl (by omega) ?_ | refine R.WC_cond_df rfl (by omega) ?_ | refine R.WC_cond_dec rfl (fun _ => ?_) (fun _ => ?_) | refine R.WC_cond rfl (fun _ => ?_) (fun _ => ?_)) | (with_reducible refine R.WC_block ?_) | (with_reducible refine R.WC_skip ?_) | (with_reducible refine R.WC_ret ?_) | (with_reducible refine R.WC_exit ?_) | (with_reducible refine R.WC_label ?_)) | ((with_reducible refine R.shape_TQ ?_); first | (with_reducible refine R.then_n ?_) | (with_reducible refine R.then_r ?_) | (with_reducible refine R.then_e ?_)) | ((with_reducible refine R.shape_BQ ?_); first | (with_reducible refine R.block_n ?_) | (with_reducible refine R.block_r ?_) | refine R.block_e rfl ?_ | refine R.block_o rfl ?_) | ((with_reducible refine R.shape_RQ ?_); first | refine R.ret1 rfl R.vv ?_ | refine R.ret1n rfl R.vv ?_)))
    rw [Nat.mul_zero, Nat.pow_zero, Nat.div_one] at htop
    exact ⟨by rw [htop]; rfl, hb⟩
theorem bit_word (x i : Nat) : wd x (i / 64) / 2 ^ (i % 64) % 2 = x / 2 ^ i % 2 := by
  unfold wd
  rw [show (2 : Nat) ^ 64 = 2 ^ (i % 64) * 2 ^ (64 - i % 64) by rw [← Nat.pow_add]; congr 1; omega, Nat.mod_mul_right_div_self, Nat.div_div_eq_div_mul, ← Nat.pow_add, Nat.div_add_mod,
    Nat.mod_mod_of_dvd _ ⟨2 ^ (63 - i % 64), by rw [show 64 - i % 64 = (63 - i % 64) + 1 by omega, Nat.pow_succ, Nat.mul_comm]⟩]
theorem wbit_any (x : Nat) (i : Int) (w : World) :
    Calls Try.prog 44 #[.agg (wcs x).toArray, .int .i64 i] w fun e w' => e = .returned (.bool (decide (0 ≤ i ∧ i < 512 ∧ x / 2 ^ i.toNat % 2 = 1))) ∧ Below w.heap.size w w' := by
  refine R.calls_of_WC (fn := Try.f44) Try.func44 rfl Try.ntmps44 (Nat.le_of_ble_eq_true rfl) ?_
  by_cases h0 : 0 ≤ i
  · by_cases h1 : i < 512
    · have c0 := (WB.new w x).cell_ (i := i / 64) (k := i.toNat / 64) (by omega) (by omega)
      (repeat' (first | ((with_reducible refine R.shape_WO ?_); first | refine R.WO_v R.ov ?_) | ((with_reducible refine R.shape_WL ?_); first | ((with_reducible refine R.sh_gn ?_); first | refine R.WL_ops rfl rfl rfl ?_ | refine R.WL_opn rfl rfl ?_) | ((with_reducible refine R.sh_gs ?_); first | refine R.WL_skips rfl rfl rfl rfl rfl rfl ?_ | refine R.WL_takes rfl rfl rfl rfl rfl ?_ | refine R.WL_split_dt rfl rfl rfl (by omega) ?_ | refine R.WL_split_df rfl rfl rfl (by omega) ?_ | refine R.WL_split_dec rfl rfl rfl (fun _ => ?_) (fun _ => ?_) | refine R.WL_split rfl rfl rfl (fun _ => ?_) (fun _ => ?_)) | ((with_reducible refine R.sh_nil ?_); refine R.WL_nil ?_)) | ((with_reducible refine R.shape_WC ?_); first | (with_reducible refine R.WC_seq ?_) | (with_reducible refine R.WC_region ?_) | ((with_reducible refine R.sh_cond ?_); first | refine R.WC_cond_t rfl ?_ | refine R.WC_cond_f rfl ?_ | refine R.WC_cond_dt rfl (by omega) ?_ | refine R.WC_cond_df rfl (by omega) ?_ | refine R.WC_cond_dec rfl (fun _ => ?_) (fun _ => ?_) | refine R.WC_cond rfl (fun _ => ?_) (fun _ => ?_)) | (with_reducible refine R.WC_block ?_) | (with_reducible refine R.WC_skip ?_) | (with_reducible refine R.WC_ret ?_) | (with_reducible refine R.WC_exit ?_) | (with_reducible refine R.WC_label ?_)) | ((with_reducible refine R.shape_TQ ?_); first | (with_reducible refine R.then_n ?_) | (with_reducible refine R.then_r ?_) | (with_reducible refine R.then_e ?_)) | ((with_reducible refine R.shape_BQ ?_); first | (with_reducible refine R.block_n ?_) | (with_reducible refine R.block_r ?_) | refine R.block_e rfl ?_ | refine R.block_o rfl ?_) | ((with_reducible refine R.shape_RQ ?_); first | refine R.ret1 rfl R.vv ?_ | refine R.ret1n rfl R.vv ?_)))
      have hc : ((wd x (i.toNat / 64) : Nat) : Int) / 2 ^ (i % 64).toNat = ((wd x (i.toNat / 64) / 2 ^ (i % 64).toNat : Nat) : Int) := by push_cast; rfl
      have hd : wd x (i.toNat / 64) / 2 ^ (i % 64).toNat < 18446744073709551616 := Nat.lt_of_le_of_lt (Nat.div_le_self _ _) (wd_lt x (i.toNat / 64))
      have hb := bit_word x i.toNat
      rw [hc]
      rw [show (i % 64).toNat = i.toNat % 64 by omega] at *
      generalize wd x (i.toNat / 64) / 2 ^ (i.toNat % 64) = y at *
      rw [u64_and1 _ (by omega) (by omega)]
      refine ⟨?_, (Below.refl _ w).alloc (Nat.le_refl _) _⟩
      congr 2
      refine decide_eq_decide.2 ⟨fun h => ⟨h0, h1, by omega⟩, fun h => by omega⟩
    · (repeat' (first | ((with_reducible refine R.shape_WO ?_); first | refine R.WO_v R.ov ?_) | ((with_reducible refine R.shape_WL ?_); first | ((with_reducible refine R.sh_gn ?_); first | refine R.WL_ops rfl rfl rfl ?_ | refine R.WL_opn rfl rfl ?_) | ((with_reducible refine R.sh_gs ?_); first | refine R.WL_skips rfl rfl rfl rfl rfl rfl ?_ | refine R.WL_takes rfl rfl rfl rfl rfl ?_ | refine R.WL_split_dt rfl rfl rfl (by omega) ?_ | refine R.WL_split_df rfl rfl rfl (by omega) ?_ | refine R.WL_split_dec rfl rfl rfl (fun _ => ?_) (fun _ => ?_) | refine R.WL_split rfl rfl rfl (fun _ => ?_) (fun _ => ?_)) | ((with_reducible refine R.sh_nil ?_); refine R.WL_nil ?_)) | ((with_reducible refine R.shape_WC ?_); first | (with_reducible refine R.WC_seq ?_) | (with_reducible refine R.WC_region ?_) | ((with_reducible refine R.sh_cond ?_); first | refine R.WC_cond_t rfl ?_ | refine R.WC_cond_f rfl ?_ | refine R.WC_cond_dt rfl (by omega) ?_ | refine R.WC_cond_df rfl (by omega) ?_ | refine R.WC_cond_dec rfl (fun _ => ?_) (fun _ => ?_) | refine R.WC_cond rfl (fun _ => ?_) (fun _ => ?_)) | (with_reducible refine R.WC_block ?_) | (with_reducible refine R.WC_skip ?_) | (with_reducible refine R.WC_ret ?_) | (with_reducible refine R.WC_exit ?_) | (with_reducible refine R.WC_label ?_)) | ((with_reducible refine R.shape_TQ ?_); first | (with_reducible refine R.then_n ?_) | (with_reducible refine R.then_r ?_) | (with_reducible refine R.then_e ?_)) | ((with_reducible refine R.shape_BQ ?_); first | (with_reducible refine R.block_n ?_) | (with_reducible refine R.block_r ?_) | refine R.block_e rfl ?_ | refine R.block_o rfl ?_) | ((with_reducible refine R.shape_RQ ?_); first | refine R.ret1 rfl R.vv ?_ | refine R.ret1n rfl R.vv ?_)))
      exact ⟨by simp [h1], (Below.refl _ w).alloc (Nat.le_refl _) _⟩
  · (repeat' (first | ((with_reducible refine R.shape_WO ?_); first | refine R.WO_v R.ov ?_) | ((with_reducible refine R.shape_WL ?_); first | ((with_reducible refine R.sh_gn ?_); first | refine R.WL_ops rfl rfl rfl ?_ | refine R.WL_opn rfl rfl ?_) | ((with_reducible refine R.sh_gs ?_); first | refine R.WL_skips rfl rfl rfl rfl rfl rfl ?_ | refine R.WL_takes rfl rfl rfl rfl rfl ?_ | refine R.WL_split_dt rfl rfl rfl (by omega) ?_ | refine R.WL_split_df rfl rfl rfl (by omega) ?_ | refine R.WL_split_dec rfl rfl rfl (fun _ => ?_) (fun _ => ?_) | refine R.WL_split rfl rfl rfl (fun _ => ?_) (fun _ => ?_)) | ((with_reducible refine R.sh_nil ?_); refine R.WL_nil ?_)) | ((with_reducible refine R.shape_WC ?_); first | (with_reducible refine R.WC_seq ?_) | (with_reducible refine R.WC_region ?_) | ((with_reducible refine R.sh_cond ?_); first | refine R.WC_cond_t rfl ?_ | refine R.WC_cond_f rfl ?_ | refine R.WC_cond_dt rfl (by omega) ?_ | refine R.WC_cond_df rfl (by omega) ?_ | refine R.WC_cond_dec rfl (fun _ => ?_) (fun _ => ?_) | refine R.WC_cond rfl (fun _ => ?_) (fun _ => ?_)) | (with_reducible refine R.WC_block ?_) | (with_reducible refine R.WC_skip ?_) | (with_reducible refine R.WC_ret ?_) | (with_reducible refine R.WC_exit ?_) | (with_reducible refine R.WC_label ?_)) | ((with_reducible refine R.shape_TQ ?_); first | (with_reducible refine R.then_n ?_) | (with_reducible refine R.then_r ?_) | (with_reducible refine R.then_e ?_)) | ((with_reducible refine R.shape_BQ ?_); first | (with_reducible refine R.block_n ?_) | (with_reducible refine R.block_r ?_) | refine R.block_e rfl ?_ | refine R.block_o rfl ?_) | ((with_reducible refine R.shape_RQ ?_); first | refine R.ret1 rfl R.vv ?_ | refine R.ret1n rfl R.vv ?_)))
    exact ⟨by simp [h0], (Below.refl _ w).alloc (Nat.le_refl _) _⟩

/-- A store of one word. -/
theorem WO_storeI {P : Program} {C : R.CallH} {o : Oper} {f : R.Fr} {w : World} {K : Value → World → Prop} {t : TypeId} {a b : Operand} {g k n m : Nat} {v i : Int} (hop : o.op = .store t a b)
    (hx : R.ev f a = .pointer (some ((⟨g, 0, none⟩ : Addr).add (i.toNat * 1)))) (hy : R.ev f b = .int .u64 v) [R.SzT P t 1] (hb : WB w g n) (hi : i.toNat = k) (hk : k < 8) (hv : v = (wd m k : Nat)) (hm : ∀ j, j < 8 → j ≠ k → wd m j = wd n j)
    (h : ∀ w', WB w' g m → (∀ g' n', g' ≠ g → WB w g' n' → WB w' g' n') → (∀ B, B ≤ g → Below B w w') → K undef w') : R.WO P C o f w K := by
  subst hi
  exact WO_storeW hop hx hy hb hk hv hm h
theorem mul_words {a b : Nat} (ha : a < 18446744073709551616) (hb : b < 18446744073709551616) : a * b ≤ 340282366920938463426481119284349108225 :=
  Nat.le_trans (Nat.mul_le_mul (Nat.le_sub_one_of_lt ha) (Nat.le_sub_one_of_lt hb)) (by decide)
set_option maxHeartbeats 2000000 in
theorem wrow_any (o a by_ at_ : Nat) (ho : o < W512) (ha : a < W512) (hby : by_ < 18446744073709551616) (hat : at_ < 8) (w : World) :
    Calls Try.prog 100 #[.agg (wcs o).toArray, .agg (wcs a).toArray, .int .u64 (by_ : Nat), .int .i64 (at_ : Nat)] w fun e w' =>
      e = .returned (.tuple #[.agg (wcs ((o + a * by_ * 2 ^ (64 * at_)) % W512)).toArray, .bool (decide (o + a * by_ * 2 ^ (64 * at_) < W512))]) ∧ Below w.heap.size w w' := by
  refine R.calls_of_WC (fn := Try.f100) Try.func100 rfl Try.ntmps100 (Nat.le_of_ble_eq_true rfl) ?_
  (repeat' (first | ((with_reducible refine R.shape_WO ?_); first | refine R.WO_v R.ov ?_) | ((with_reducible refine R.shape_WL ?_); first | ((with_reducible refine R.sh_gn ?_); first | refine R.WL_ops rfl rfl rfl ?_ | refine R.WL_opn rfl rfl ?_) | ((with_reducible refine R.sh_gs ?_); first | refine R.WL_skips rfl rfl rfl rfl rfl rfl ?_ | refine R.WL_takes rfl rfl rfl rfl rfl ?_ | refine R.WL_split_dt rfl rfl rfl (by omega) ?_ | refine R.WL_split_df rfl rfl rfl (by omega) ?_ | refine R.WL_split_dec rfl rfl rfl (fun _ => ?_) (fun _ => ?_) | refine R.WL_split rfl rfl rfl (fun _ => ?_) (fun _ => ?_)) | ((with_reducible refine R.sh_nil ?_); refine R.WL_nil ?_)) | ((with_reducible refine R.shape_WC ?_); first | (with_reducible refine R.WC_seq ?_) | (with_reducible refine R.WC_region ?_) | ((with_reducible refine R.sh_cond ?_); first | refine R.WC_cond_t rfl ?_ | refine R.WC_cond_f rfl ?_ | refine R.WC_cond_dt rfl (by omega) ?_ | refine R.WC_cond_df rfl (by omega) ?_ | refine R.WC_cond_dec rfl (fun _ => ?_) (fun _ => ?_) | refine R.WC_cond rfl (fun _ => ?_) (fun _ => ?_)) | (with_reducible refine R.WC_block ?_) | (with_reducible refine R.WC_skip ?_) | (with_reducible refine R.WC_ret ?_) | (with_reducible refine R.WC_exit ?_) | (with_reducible refine R.WC_label ?_)) | ((with_reducible refine R.shape_TQ ?_); first | (with_reducible refine R.then_n ?_) | (with_reducible refine R.then_r ?_) | (with_reducible refine R.then_e ?_)) | ((with_reducible refine R.shape_BQ ?_); first | (with_reducible refine R.block_n ?_) | (with_reducible refine R.block_r ?_) | refine R.block_e rfl ?_ | refine R.block_o rfl ?_)))
  refine R.WO_loadA rfl rfl rfl (cs := wcs a) ?_ ?_
  · exact (WB.alloc (WB.new_ rfl) _).row
  (repeat' (first | ((with_reducible refine R.shape_WO ?_); first | refine R.WO_v R.ov ?_) | ((with_reducible refine R.shape_WL ?_); first | ((with_reducible refine R.sh_gn ?_); first | refine R.WL_ops rfl rfl rfl ?_ | refine R.WL_opn rfl rfl ?_) | ((with_reducible refine R.sh_gs ?_); first | refine R.WL_skips rfl rfl rfl rfl rfl rfl ?_ | refine R.WL_takes rfl rfl rfl rfl rfl ?_ | refine R.WL_split_dt rfl rfl rfl (by omega) ?_ | refine R.WL_split_df rfl rfl rfl (by omega) ?_ | refine R.WL_split_dec rfl rfl rfl (fun _ => ?_) (fun _ => ?_) | refine R.WL_split rfl rfl rfl (fun _ => ?_) (fun _ => ?_)) | ((with_reducible refine R.sh_nil ?_); refine R.WL_nil ?_)) | ((with_reducible refine R.shape_WC ?_); first | (with_reducible refine R.WC_seq ?_) | (with_reducible refine R.WC_region ?_) | ((with_reducible refine R.sh_cond ?_); first | refine R.WC_cond_t rfl ?_ | refine R.WC_cond_f rfl ?_ | refine R.WC_cond_dt rfl (by omega) ?_ | refine R.WC_cond_df rfl (by omega) ?_ | refine R.WC_cond_dec rfl (fun _ => ?_) (fun _ => ?_) | refine R.WC_cond rfl (fun _ => ?_) (fun _ => ?_)) | (with_reducible refine R.WC_block ?_) | (with_reducible refine R.WC_skip ?_) | (with_reducible refine R.WC_ret ?_) | (with_reducible refine R.WC_exit ?_) | (with_reducible refine R.WC_label ?_)) | ((with_reducible refine R.shape_TQ ?_); first | (with_reducible refine R.then_n ?_) | (with_reducible refine R.then_r ?_) | (with_reducible refine R.then_e ?_)) | ((with_reducible refine R.shape_BQ ?_); first | (with_reducible refine R.block_n ?_) | (with_reducible refine R.block_r ?_) | refine R.block_e rfl ?_ | refine R.block_o rfl ?_)))
  refine R.WC_loop (fun q : Nat × Nat × Nat × Bool => [(2, .int .u64 (by_ : Nat)), (3, .int .i64 (at_ : Nat)), (4, .pointer (some ⟨w.heap.size, 0, none⟩)), (8, .pointer (some ⟨w.heap.size + 2, 0, none⟩)), (10, .int .u64 (q.2.2.1 : Nat)), (11, .bool q.2.2.2), (19, .agg (wcs a).toArray), (20, .int .i64 (q.1 : Nat))])
    (fun q w1 => q.1 ≤ 8 ∧ q.2.1 < W512 ∧ q.2.2.1 < 18446744073709551616 ∧ WB w1 w.heap.size q.2.1 ∧ WB w1 (w.heap.size + 2) 0 ∧ Below w.heap.size w w1 ∧
      (q.1 + at_ ≤ 8 → q.2.2.2 = true ∧ q.2.1 + q.2.2.1 * 2 ^ (64 * (q.1 + at_)) = o + a % 2 ^ (64 * q.1) * by_ * 2 ^ (64 * at_)) ∧
      (8 < q.1 + at_ → q.2.1 + q.2.2.1 * 2 ^ (64 * 8) = o + a % 2 ^ (64 * (8 - at_)) * by_ * 2 ^ (64 * at_) ∧ (q.2.2.2 = true ↔ q.2.2.1 = 0 ∧ ∀ j, 8 - at_ ≤ j → j < q.1 → wd a j * by_ = 0))) (fun q => 8 - q.1)
    ⟨(0, o, 0, true), ⟨rfl, rfl, rfl, R.viaP rfl (by simp), rfl, rfl, rfl, rfl, trivial⟩, ?_, ?_⟩ ?_
  · dsimp only
    omega
  · dsimp only
    refine ⟨ho, by omega, ((WB.new_ rfl).alloc _).alloc _, WB.zero_ (by simp), (((Below.refl _ w).alloc (Nat.le_refl _) _).alloc (by simp) _).alloc (by simp; omega) _, fun _ => ⟨rfl, by simp [Nat.mod_one]⟩, fun h => by omega⟩
  rintro ⟨k, out, c, ft⟩ f w1 ⟨hk, hout, hc, b0, b2, hb, hin, hov⟩
  dsimp only at hk hout hc b0 b2 hb hin hov ⊢
  by_cases hlt : k < 8
  · have hw := wd_lt a k
    have hwo := wd_lt out (k + at_)
    have hmw := mul_words hw hby
    by_cases hroom : k + at_ < 8
    · obtain ⟨rfl, hin2⟩ := hin (by omega)
      have c0 := b0.cell_ (i := (k : Int) + (at_ : Int)) (k := k + at_) (by omega) (by omega)
      (repeat' (first | ((with_reducible refine R.shape_WO ?_); first | refine R.WO_v R.ov ?_) | ((with_reducible refine R.shape_WL ?_); first | ((with_reducible refine R.sh_gn ?_); first | refine R.WL_ops rfl rfl rfl ?_ | refine R.WL_opn rfl rfl ?_) | ((with_reducible refine R.sh_gs ?_); first | refine R.WL_skips rfl rfl rfl rfl rfl rfl ?_ | refine R.WL_takes rfl rfl rfl rfl rfl ?_ | refine R.WL_split_dt rfl rfl rfl (by omega) ?_ | refine R.WL_split_df rfl rfl rfl (by omega) ?_ | refine R.WL_split_dec rfl rfl rfl (fun _ => ?_) (fun _ => ?_) | refine R.WL_split rfl rfl rfl (fun _ => ?_) (fun _ => ?_)) | ((with_reducible refine R.sh_nil ?_); refine R.WL_nil ?_)) | ((with_reducible refine R.shape_WC ?_); first | (with_reducible refine R.WC_seq ?_) | (with_reducible refine R.WC_region ?_) | ((with_reducible refine R.sh_cond ?_); first | refine R.WC_cond_t rfl ?_ | refine R.WC_cond_f rfl ?_ | refine R.WC_cond_dt rfl (by omega) ?_ | refine R.WC_cond_df rfl (by omega) ?_ | refine R.WC_cond_dec rfl (fun _ => ?_) (fun _ => ?_) | refine R.WC_cond rfl (fun _ => ?_) (fun _ => ?_)) | (with_reducible refine R.WC_block ?_) | (with_reducible refine R.WC_skip ?_) | (with_reducible refine R.WC_ret ?_) | (with_reducible refine R.WC_exit ?_) | (with_reducible refine R.WC_label ?_)) | ((with_reducible refine R.shape_TQ ?_); first | (with_reducible refine R.then_n ?_) | (with_reducible refine R.then_r ?_) | (with_reducible refine R.then_e ?_)) | ((with_reducible refine R.shape_BQ ?_); first | (with_reducible refine R.block_n ?_) | (with_reducible refine R.block_r ?_) | refine R.block_e rfl ?_ | refine R.block_o rfl ?_)))
      refine WO_idxW rfl rfl rfl (by omega) (by omega) ?_
      rw [Int.toNat_natCast]
      (repeat' (first | ((with_reducible refine R.shape_WO ?_); first | ((with_reducible refine R.sh_call ?_); first | (refine R.WO_call3 rfl rfl R.vv R.vv R.vv ?_; refine (add_any _ _ _ (by first | exact R.lo64_range _ | (unfold InU64; omega)) (by first | exact R.lo64_range _ | (unfold InU64; omega)) (by omega) _).mono ?_; rintro e w' ⟨rfl, rfl⟩; refine ⟨_, rfl, ?_⟩) | (refine R.WO_call2 rfl rfl R.vv R.vv ?_; refine (mul_any _ _ (by first | exact R.lo64_range _ | (unfold InU64; omega)) (by first | exact R.lo64_range _ | (unfold InU64; omega)) _).mono ?_; rintro e w' ⟨rfl, rfl⟩; refine ⟨_, rfl, ?_⟩)) | refine R.WO_v R.ov ?_) | ((with_reducible refine R.shape_WL ?_); first | ((with_reducible refine R.sh_gn ?_); first | refine R.WL_ops rfl rfl rfl ?_ | refine R.WL_opn rfl rfl ?_) | ((with_reducible refine R.sh_gs ?_); first | refine R.WL_skips rfl rfl rfl rfl rfl rfl ?_ | refine R.WL_takes rfl rfl rfl rfl rfl ?_ | refine R.WL_split_dt rfl rfl rfl (by omega) ?_ | refine R.WL_split_df rfl rfl rfl (by omega) ?_ | refine R.WL_split_dec rfl rfl rfl (fun _ => ?_) (fun _ => ?_) | refine R.WL_split rfl rfl rfl (fun _ => ?_) (fun _ => ?_)) | ((with_reducible refine R.sh_nil ?_); refine R.WL_nil ?_)) | ((with_reducible refine R.shape_WC ?_); first | (with_reducible refine R.WC_seq ?_) | (with_reducible refine R.WC_region ?_) | ((with_reducible refine R.sh_cond ?_); first | refine R.WC_cond_t rfl ?_ | refine R.WC_cond_f rfl ?_ | refine R.WC_cond_dt rfl (by omega) ?_ | refine R.WC_cond_df rfl (by omega) ?_ | refine R.WC_cond_dec rfl (fun _ => ?_) (fun _ => ?_) | refine R.WC_cond rfl (fun _ => ?_) (fun _ => ?_)) | (with_reducible refine R.WC_block ?_) | (with_reducible refine R.WC_skip ?_) | (with_reducible refine R.WC_ret ?_) | (with_reducible refine R.WC_exit ?_) | (with_reducible refine R.WC_label ?_)) | ((with_reducible refine R.shape_TQ ?_); first | (with_reducible refine R.then_n ?_) | (with_reducible refine R.then_r ?_) | (with_reducible refine R.then_e ?_)) | ((with_reducible refine R.shape_BQ ?_); first | (with_reducible refine R.block_n ?_) | (with_reducible refine R.block_r ?_) | refine R.block_e rfl ?_ | refine R.block_o rfl ?_)))
      refine WO_storeI rfl rfl rfl b0 (k := k + at_) (by omega) hroom (m := setw out (k + at_) ((wd a k * by_ + c + wd out (k + at_)) % 18446744073709551616)) ?_ (fun j _ hne => setw_ne (by omega) hne) fun w2 d0 far bel => ?_
      · rw [setw_same (by omega)]
        unfold lo64
        omega
      (repeat' (first | ((with_reducible refine R.shape_WO ?_); first | refine R.WO_v R.ov ?_) | ((with_reducible refine R.shape_WL ?_); first | ((with_reducible refine R.sh_gn ?_); first | refine R.WL_ops rfl rfl rfl ?_ | refine R.WL_opn rfl rfl ?_) | ((with_reducible refine R.sh_gs ?_); first | refine R.WL_skips rfl rfl rfl rfl rfl rfl ?_ | refine R.WL_takes rfl rfl rfl rfl rfl ?_ | refine R.WL_split_dt rfl rfl rfl (by omega) ?_ | refine R.WL_split_df rfl rfl rfl (by omega) ?_ | refine R.WL_split_dec rfl rfl rfl (fun _ => ?_) (fun _ => ?_) | refine R.WL_split rfl rfl rfl (fun _ => ?_) (fun _ => ?_)) | ((with_reducible refine R.sh_nil ?_); refine R.WL_nil ?_)) | ((with_reducible refine R.shape_WC ?_); first | (with_reducible refine R.WC_seq ?_) | (with_reducible refine R.WC_region ?_) | ((with_reducible refine R.sh_cond ?_); first | refine R.WC_cond_t rfl ?_ | refine R.WC_cond_f rfl ?_ | refine R.WC_cond_dt rfl (by omega) ?_ | refine R.WC_cond_df rfl (by omega) ?_ | refine R.WC_cond_dec rfl (fun _ => ?_) (fun _ => ?_) | refine R.WC_cond rfl (fun _ => ?_) (fun _ => ?_)) | (with_reducible refine R.WC_block ?_) | (with_reducible refine R.WC_skip ?_) | (with_reducible refine R.WC_ret ?_) | (with_reducible refine R.WC_exit ?_) | (with_reducible refine R.WC_label ?_)) | ((with_reducible refine R.shape_TQ ?_); first | (with_reducible refine R.then_n ?_) | (with_reducible refine R.then_r ?_) | (with_reducible refine R.then_e ?_)) | ((with_reducible refine R.shape_BQ ?_); first | (with_reducible refine R.block_n ?_) | (with_reducible refine R.block_r ?_) | refine R.block_e rfl ?_ | refine R.block_o rfl ?_)))
      refine ⟨(k + 1, setw out (k + at_) ((wd a k * by_ + c + wd out (k + at_)) % 18446744073709551616), (wd a k * by_ + c + wd out (k + at_)) / 18446744073709551616, true), ⟨rfl, rfl, rfl, rfl, R.viaI rfl ?_, rfl, rfl, R.viaI rfl ?_, trivial⟩, ⟨?_, ?_, ?_, d0, far _ _ (by omega) b2, hb.trans (bel _ (by omega)), fun _ => ⟨rfl, row_step hin2 ?_⟩, fun h => ?_⟩, ?_⟩
      · unfold hi64 lo64
        dsimp only
        omega
      · dsimp only
        omega
      · dsimp only
        omega
      · exact setw_lt (m := 8) (by omega) hroom hout
      · dsimp only
        omega
      · dsimp only
        omega
      · dsimp only at h
        omega
      · dsimp only
        omega
    · have hov' : out + c * 2 ^ (64 * 8) = o + a % 2 ^ (64 * (8 - at_)) * by_ * 2 ^ (64 * at_) ∧ (ft = true ↔ (k + at_ = 8 ∨ c = 0) ∧ ∀ j, 8 - at_ ≤ j → j < k → wd a j * by_ = 0) := by
        rcases Nat.eq_or_lt_of_le (Nat.le_of_not_lt hroom) with h | h
        · obtain ⟨h1, h2⟩ := hin (by omega)
          rw [← h, show k = 8 - at_ by omega] at h2
          exact ⟨h2, fun _ => ⟨.inl h.symm, fun j h3 h4 => by omega⟩, fun _ => h1⟩
        · obtain ⟨h1, h2⟩ := hov h
          exact ⟨h1, h2.trans ⟨fun h3 => ⟨.inr h3.1, h3.2⟩, fun h3 => ⟨by omega, h3.2⟩⟩⟩
      clear hin hov
      obtain ⟨hin, hft⟩ := hov'
      have hnew : ∀ g : Bool, (g = true ↔ ft = true ∧ wd a k * by_ = 0 ∧ c = 0) → (8 < k + 1 + at_ → out + c * 2 ^ (64 * 8) = o + a % 2 ^ (64 * (8 - at_)) * by_ * 2 ^ (64 * at_) ∧ (g = true ↔ c = 0 ∧ ∀ j, 8 - at_ ≤ j → j < k + 1 → wd a j * by_ = 0)) := fun g hg _ => by
        refine ⟨hin, hg.trans ⟨fun h => ⟨h.2.2, fun j h1 h2 => ?_⟩, fun h => ⟨hft.2 ⟨.inr h.1, fun j h1 h2 => h.2 j h1 (by omega)⟩, h.2 k (by omega) (by omega), h.1⟩⟩⟩
        rcases Nat.eq_or_lt_of_le (Nat.le_of_lt_succ h2) with h3 | h3
        · rw [h3]; exact h.2.1
        · exact (hft.1 h.1).2 j h1 h3
      (repeat' (first | ((with_reducible refine R.shape_WO ?_); first | refine R.WO_v R.ov ?_) | ((with_reducible refine R.shape_WL ?_); first | ((with_reducible refine R.sh_gn ?_); first | refine R.WL_ops rfl rfl rfl ?_ | refine R.WL_opn rfl rfl ?_) | ((with_reducible refine R.sh_gs ?_); first | refine R.WL_skips rfl rfl rfl rfl rfl rfl ?_ | refine R.WL_takes rfl rfl rfl rfl rfl ?_ | refine R.WL_split_dt rfl rfl rfl (by omega) ?_ | refine R.WL_split_df rfl rfl rfl (by omega) ?_ | refine R.WL_split_dec rfl rfl rfl (fun _ => ?_) (fun _ => ?_) | refine R.WL_split rfl rfl rfl (fun _ => ?_) (fun _ => ?_)) | ((with_reducible refine R.sh_nil ?_); refine R.WL_nil ?_)) | ((with_reducible refine R.shape_WC ?_); first | (with_reducible refine R.WC_seq ?_) | (with_reducible refine R.WC_region ?_) | ((with_reducible refine R.sh_cond ?_); first | refine R.WC_cond_t rfl ?_ | refine R.WC_cond_f rfl ?_ | refine R.WC_cond_dt rfl (by omega) ?_ | refine R.WC_cond_df rfl (by omega) ?_ | refine R.WC_cond_dec rfl (fun _ => ?_) (fun _ => ?_) | refine R.WC_cond rfl (fun _ => ?_) (fun _ => ?_)) | (with_reducible refine R.WC_block ?_) | (with_reducible refine R.WC_skip ?_) | (with_reducible refine R.WC_ret ?_) | (with_reducible refine R.WC_exit ?_) | (with_reducible refine R.WC_label ?_)) | ((with_reducible refine R.shape_TQ ?_); first | (with_reducible refine R.then_n ?_) | (with_reducible refine R.then_r ?_) | (with_reducible refine R.then_e ?_)) | ((with_reducible refine R.shape_BQ ?_); first | (with_reducible refine R.block_n ?_) | (with_reducible refine R.block_r ?_) | refine R.block_e rfl ?_ | refine R.block_o rfl ?_)))
      refine WO_idxW rfl rfl rfl (by omega) (by omega) ?_
      rw [Int.toNat_natCast]
      (repeat' (first | ((with_reducible refine R.shape_WO ?_); first | ((with_reducible refine R.sh_call ?_); first | (refine R.WO_call3 rfl rfl R.vv R.vv R.vv ?_; refine (add_any _ _ _ (by first | exact R.lo64_range _ | (unfold InU64; omega)) (by first | exact R.lo64_range _ | (unfold InU64; omega)) (by omega) _).mono ?_; rintro e w' ⟨rfl, rfl⟩; refine ⟨_, rfl, ?_⟩) | (refine R.WO_call2 rfl rfl R.vv R.vv ?_; refine (mul_any _ _ (by first | exact R.lo64_range _ | (unfold InU64; omega)) (by first | exact R.lo64_range _ | (unfold InU64; omega)) _).mono ?_; rintro e w' ⟨rfl, rfl⟩; refine ⟨_, rfl, ?_⟩)) | refine R.WO_v R.ov ?_) | ((with_reducible refine R.shape_WL ?_); first | ((with_reducible refine R.sh_gn ?_); first | refine R.WL_ops rfl rfl rfl ?_ | refine R.WL_opn rfl rfl ?_) | ((with_reducible refine R.sh_gs ?_); first | refine R.WL_skips rfl rfl rfl rfl rfl rfl ?_ | refine R.WL_takes rfl rfl rfl rfl rfl ?_ | refine R.WL_split_dt rfl rfl rfl (by omega) ?_ | refine R.WL_split_df rfl rfl rfl (by omega) ?_ | refine R.WL_split_dec rfl rfl rfl (fun _ => ?_) (fun _ => ?_) | refine R.WL_split rfl rfl rfl (fun _ => ?_) (fun _ => ?_)) | ((with_reducible refine R.sh_nil ?_); refine R.WL_nil ?_)) | ((with_reducible refine R.shape_WC ?_); first | (with_reducible refine R.WC_seq ?_) | (with_reducible refine R.WC_region ?_) | ((with_reducible refine R.sh_cond ?_); first | refine R.WC_cond_t rfl ?_ | refine R.WC_cond_f rfl ?_ | refine R.WC_cond_dt rfl (by omega) ?_ | refine R.WC_cond_df rfl (by omega) ?_ | refine R.WC_cond_dec rfl (fun _ => ?_) (fun _ => ?_) | refine R.WC_cond rfl (fun _ => ?_) (fun _ => ?_)) | (with_reducible refine R.WC_block ?_) | (with_reducible refine R.WC_skip ?_) | (with_reducible refine R.WC_ret ?_) | (with_reducible refine R.WC_exit ?_) | (with_reducible refine R.WC_label ?_)) | ((with_reducible refine R.shape_TQ ?_); first | (with_reducible refine R.then_n ?_) | (with_reducible refine R.then_r ?_) | (with_reducible refine R.then_e ?_)) | ((with_reducible refine R.shape_BQ ?_); first | (with_reducible refine R.block_n ?_) | (with_reducible refine R.block_r ?_) | refine R.block_e rfl ?_ | refine R.block_o rfl ?_)))
      · refine ⟨(k + 1, out, c, decide ((c : Int) = 0)), ⟨rfl, rfl, rfl, rfl, rfl, rfl, rfl, R.viaI rfl ?_, trivial⟩, ⟨?_, hout, hc, b0, b2, hb, fun h => ?_, hnew _ ?_⟩, ?_⟩
        · dsimp only
          omega
        · dsimp only
          omega
        · dsimp only at h
          omega
        · rename_i h1 h2 h3
          have hp : wd a k * by_ = 0 := by
            unfold hi64 at h2
            unfold lo64 at h3
            omega
          rw [decide_eq_true_iff]
          exact ⟨fun h => ⟨h1, hp, by omega⟩, fun h => by omega⟩
        · dsimp only
          omega
      · refine ⟨(k + 1, out, c, false), ⟨rfl, rfl, rfl, rfl, rfl, rfl, rfl, R.viaI rfl ?_, trivial⟩, ⟨?_, hout, hc, b0, b2, hb, fun h => ?_, hnew _ ?_⟩, ?_⟩
        · dsimp only
          omega
        · dsimp only
          omega
        · dsimp only at h
          omega
        · rename_i h1 h2 h3
          refine ⟨fun h => (by cases h), fun h => absurd ?_ h3⟩
          unfold lo64
          omega
        · dsimp only
          omega
      · refine ⟨(k + 1, out, c, false), ⟨rfl, rfl, rfl, rfl, rfl, rfl, rfl, R.viaI rfl ?_, trivial⟩, ⟨?_, hout, hc, b0, b2, hb, fun h => ?_, hnew _ ?_⟩, ?_⟩
        · dsimp only
          omega
        · dsimp only
          omega
        · dsimp only at h
          omega
        · rename_i h1 h2
          refine ⟨fun h => (by cases h), fun h => absurd ?_ h2⟩
          unfold hi64
          omega
        · dsimp only
          omega
      · refine ⟨(k + 1, out, c, false), ⟨rfl, rfl, rfl, rfl, rfl, rfl, rfl, R.viaI rfl ?_, trivial⟩, ⟨?_, hout, hc, b0, b2, hb, fun h => ?_, hnew _ ?_⟩, ?_⟩
        · dsimp only
          omega
        · dsimp only
          omega
        · dsimp only at h
          omega
        · rename_i h1
          refine ⟨fun h => (by cases h), fun h => ?_⟩
          rw [h1] at h
          exact h.1
        · dsimp only
          omega
  · obtain rfl : k = 8 := by omega
    have hT : out + c * 2 ^ (64 * 8) = o + a % 2 ^ (64 * (8 - at_)) * by_ * 2 ^ (64 * at_) ∧ ((ft = true ∧ c = 0) ↔ c = 0 ∧ a / 2 ^ (64 * (8 - at_)) * by_ = 0) := by
      rw [← rest_words ha]
      rcases Nat.eq_zero_or_pos at_ with h | h
      · subst h
        obtain ⟨h1, h2⟩ := hin (by omega)
        rw [Nat.add_zero] at h2
        rw [Nat.sub_zero]
        exact ⟨h2, fun h => ⟨h.2, fun j h3 h4 => by omega⟩, fun h => ⟨h1, h.1⟩⟩
      · obtain ⟨h1, h2⟩ := hov (by omega)
        exact ⟨h1, fun h => ⟨h.2, (h2.1 h.1).2⟩, fun h => ⟨h2.2 h, h.1⟩⟩
    obtain ⟨e1, e2⟩ := row_end (by omega) hout hT.1
    have e3 := e2.trans hT.2.symm
    rw [e1]
    clear hin hov hT e1 e2
    cases ft with
    | true =>
      (repeat' (first | ((with_reducible refine R.shape_WO ?_); first | refine R.WO_v R.ov ?_) | ((with_reducible refine R.shape_WL ?_); first | ((with_reducible refine R.sh_gn ?_); first | refine R.WL_ops rfl rfl rfl ?_ | refine R.WL_opn rfl rfl ?_) | ((with_reducible refine R.sh_gs ?_); first | refine R.WL_skips rfl rfl rfl rfl rfl rfl ?_ | refine R.WL_takes rfl rfl rfl rfl rfl ?_ | refine R.WL_split_dt rfl rfl rfl (by omega) ?_ | refine R.WL_split_df rfl rfl rfl (by omega) ?_ | refine R.WL_split_dec rfl rfl rfl (fun _ => ?_) (fun _ => ?_) | refine R.WL_split rfl rfl rfl (fun _ => ?_) (fun _ => ?_)) | ((with_reducible refine R.sh_nil ?_); refine R.WL_nil ?_)) | ((with_reducible refine R.shape_WC ?_); first | (with_reducible refine R.WC_seq ?_) | (with_reducible refine R.WC_region ?_) | ((with_reducible refine R.sh_cond ?_); first | refine R.WC_cond_t rfl ?_ | refine R.WC_cond_f rfl ?_ | refine R.WC_cond_dt rfl (by omega) ?_ | refine R.WC_cond_df rfl (by omega) ?_ | refine R.WC_cond_dec rfl (fun _ => ?_) (fun _ => ?_) | refine R.WC_cond rfl (fun _ => ?_) (fun _ => ?_)) | (with_reducible refine R.WC_block ?_) | (with_reducible refine R.WC_skip ?_) | (with_reducible refine R.WC_ret ?_) | (with_reducible refine R.WC_exit ?_) | (with_reducible refine R.WC_label ?_)) | ((with_reducible refine R.shape_TQ ?_); first | (with_reducible refine R.then_n ?_) | (with_reducible refine R.then_r ?_) | (with_reducible refine R.then_e ?_)) | ((with_reducible refine R.shape_BQ ?_); first | (with_reducible refine R.block_n ?_) | (with_reducible refine R.block_r ?_) | refine R.block_e rfl ?_ | refine R.block_o rfl ?_)))
      refine R.WO_loadA rfl rfl rfl b0.row ?_
      (repeat' (first | ((with_reducible refine R.shape_WO ?_); first | refine R.WO_v R.ov ?_) | ((with_reducible refine R.shape_WL ?_); first | ((with_reducible refine R.sh_gn ?_); first | refine R.WL_ops rfl rfl rfl ?_ | refine R.WL_opn rfl rfl ?_) | ((with_reducible refine R.sh_gs ?_); first | refine R.WL_skips rfl rfl rfl rfl rfl rfl ?_ | refine R.WL_takes rfl rfl rfl rfl rfl ?_ | refine R.WL_split_dt rfl rfl rfl (by omega) ?_ | refine R.WL_split_df rfl rfl rfl (by omega) ?_ | refine R.WL_split_dec rfl rfl rfl (fun _ => ?_) (fun _ => ?_) | refine R.WL_split rfl rfl rfl (fun _ => ?_) (fun _ => ?_)) | ((with_reducible refine R.sh_nil ?_); refine R.WL_nil ?_)) | ((with_reducible refine R.shape_WC ?_); first | (with_reducible refine R.WC_seq ?_) | (with_reducible refine R.WC_region ?_) | ((with_reducible refine R.sh_cond ?_); first | refine R.WC_cond_t rfl ?_ | refine R.WC_cond_f rfl ?_ | refine R.WC_cond_dt rfl (by omega) ?_ | refine R.WC_cond_df rfl (by omega) ?_ | refine R.WC_cond_dec rfl (fun _ => ?_) (fun _ => ?_) | refine R.WC_cond rfl (fun _ => ?_) (fun _ => ?_)) | (with_reducible refine R.WC_block ?_) | (with_reducible refine R.WC_skip ?_) | (with_reducible refine R.WC_ret ?_) | (with_reducible refine R.WC_exit ?_) | (with_reducible refine R.WC_label ?_)) | ((with_reducible refine R.shape_TQ ?_); first | (with_reducible refine R.then_n ?_) | (with_reducible refine R.then_r ?_) | (with_reducible refine R.then_e ?_)) | ((with_reducible refine R.shape_BQ ?_); first | (with_reducible refine R.block_n ?_) | (with_reducible refine R.block_r ?_) | refine R.block_e rfl ?_ | refine R.block_o rfl ?_)))
      refine R.WO_storeA rfl rfl rfl (wcs_size _) b2 (wcs_sizes _ _) (wcs_one _) ?_
      (repeat' (first | ((with_reducible refine R.shape_WO ?_); first | refine R.WO_v R.ov ?_) | ((with_reducible refine R.shape_WL ?_); first | ((with_reducible refine R.sh_gn ?_); first | refine R.WL_ops rfl rfl rfl ?_ | refine R.WL_opn rfl rfl ?_) | ((with_reducible refine R.sh_gs ?_); first | refine R.WL_skips rfl rfl rfl rfl rfl rfl ?_ | refine R.WL_takes rfl rfl rfl rfl rfl ?_ | refine R.WL_split_dt rfl rfl rfl (by omega) ?_ | refine R.WL_split_df rfl rfl rfl (by omega) ?_ | refine R.WL_split_dec rfl rfl rfl (fun _ => ?_) (fun _ => ?_) | refine R.WL_split rfl rfl rfl (fun _ => ?_) (fun _ => ?_)) | ((with_reducible refine R.sh_nil ?_); refine R.WL_nil ?_)) | ((with_reducible refine R.shape_WC ?_); first | (with_reducible refine R.WC_seq ?_) | (with_reducible refine R.WC_region ?_) | ((with_reducible refine R.sh_cond ?_); first | refine R.WC_cond_t rfl ?_ | refine R.WC_cond_f rfl ?_ | refine R.WC_cond_dt rfl (by omega) ?_ | refine R.WC_cond_df rfl (by omega) ?_ | refine R.WC_cond_dec rfl (fun _ => ?_) (fun _ => ?_) | refine R.WC_cond rfl (fun _ => ?_) (fun _ => ?_)) | (with_reducible refine R.WC_block ?_) | (with_reducible refine R.WC_skip ?_) | (with_reducible refine R.WC_ret ?_) | (with_reducible refine R.WC_exit ?_) | (with_reducible refine R.WC_label ?_)) | ((with_reducible refine R.shape_TQ ?_); first | (with_reducible refine R.then_n ?_) | (with_reducible refine R.then_r ?_) | (with_reducible refine R.then_e ?_)) | ((with_reducible refine R.shape_BQ ?_); first | (with_reducible refine R.block_n ?_) | (with_reducible refine R.block_r ?_) | refine R.block_e rfl ?_ | refine R.block_o rfl ?_)))
      have hflag : decide ((c : Int) = 0) = decide (o + a * by_ * 2 ^ (64 * at_) < W512) := decide_eq_decide.2 ⟨fun h => e3.2 ⟨rfl, by omega⟩, fun h => by have := (e3.1 h).2; omega⟩
      refine R.retCT (.inl rfl) rfl rfl (R.viaB rfl hflag) rfl (b2.set_row _).row ?_
      exact ⟨rfl, hb.trans (below_row (by omega) _)⟩
    | false =>
      (repeat' (first | ((with_reducible refine R.shape_WO ?_); first | refine R.WO_v R.ov ?_) | ((with_reducible refine R.shape_WL ?_); first | ((with_reducible refine R.sh_gn ?_); first | refine R.WL_ops rfl rfl rfl ?_ | refine R.WL_opn rfl rfl ?_) | ((with_reducible refine R.sh_gs ?_); first | refine R.WL_skips rfl rfl rfl rfl rfl rfl ?_ | refine R.WL_takes rfl rfl rfl rfl rfl ?_ | refine R.WL_split_dt rfl rfl rfl (by omega) ?_ | refine R.WL_split_df rfl rfl rfl (by omega) ?_ | refine R.WL_split_dec rfl rfl rfl (fun _ => ?_) (fun _ => ?_) | refine R.WL_split rfl rfl rfl (fun _ => ?_) (fun _ => ?_)) | ((with_reducible refine R.sh_nil ?_); refine R.WL_nil ?_)) | ((with_reducible refine R.shape_WC ?_); first | (with_reducible refine R.WC_seq ?_) | (with_reducible refine R.WC_region ?_) | ((with_reducible refine R.sh_cond ?_); first | refine R.WC_cond_t rfl ?_ | refine R.WC_cond_f rfl ?_ | refine R.WC_cond_dt rfl (by omega) ?_ | refine R.WC_cond_df rfl (by omega) ?_ | refine R.WC_cond_dec rfl (fun _ => ?_) (fun _ => ?_) | refine R.WC_cond rfl (fun _ => ?_) (fun _ => ?_)) | (with_reducible refine R.WC_block ?_) | (with_reducible refine R.WC_skip ?_) | (with_reducible refine R.WC_ret ?_) | (with_reducible refine R.WC_exit ?_) | (with_reducible refine R.WC_label ?_)) | ((with_reducible refine R.shape_TQ ?_); first | (with_reducible refine R.then_n ?_) | (with_reducible refine R.then_r ?_) | (with_reducible refine R.then_e ?_)) | ((with_reducible refine R.shape_BQ ?_); first | (with_reducible refine R.block_n ?_) | (with_reducible refine R.block_r ?_) | refine R.block_e rfl ?_ | refine R.block_o rfl ?_)))
      refine R.WO_loadA rfl rfl rfl b0.row ?_
      (repeat' (first | ((with_reducible refine R.shape_WO ?_); first | refine R.WO_v R.ov ?_) | ((with_reducible refine R.shape_WL ?_); first | ((with_reducible refine R.sh_gn ?_); first | refine R.WL_ops rfl rfl rfl ?_ | refine R.WL_opn rfl rfl ?_) | ((with_reducible refine R.sh_gs ?_); first | refine R.WL_skips rfl rfl rfl rfl rfl rfl ?_ | refine R.WL_takes rfl rfl rfl rfl rfl ?_ | refine R.WL_split_dt rfl rfl rfl (by omega) ?_ | refine R.WL_split_df rfl rfl rfl (by omega) ?_ | refine R.WL_split_dec rfl rfl rfl (fun _ => ?_) (fun _ => ?_) | refine R.WL_split rfl rfl rfl (fun _ => ?_) (fun _ => ?_)) | ((with_reducible refine R.sh_nil ?_); refine R.WL_nil ?_)) | ((with_reducible refine R.shape_WC ?_); first | (with_reducible refine R.WC_seq ?_) | (with_reducible refine R.WC_region ?_) | ((with_reducible refine R.sh_cond ?_); first | refine R.WC_cond_t rfl ?_ | refine R.WC_cond_f rfl ?_ | refine R.WC_cond_dt rfl (by omega) ?_ | refine R.WC_cond_df rfl (by omega) ?_ | refine R.WC_cond_dec rfl (fun _ => ?_) (fun _ => ?_) | refine R.WC_cond rfl (fun _ => ?_) (fun _ => ?_)) | (with_reducible refine R.WC_block ?_) | (with_reducible refine R.WC_skip ?_) | (with_reducible refine R.WC_ret ?_) | (with_reducible refine R.WC_exit ?_) | (with_reducible refine R.WC_label ?_)) | ((with_reducible refine R.shape_TQ ?_); first | (with_reducible refine R.then_n ?_) | (with_reducible refine R.then_r ?_) | (with_reducible refine R.then_e ?_)) | ((with_reducible refine R.shape_BQ ?_); first | (with_reducible refine R.block_n ?_) | (with_reducible refine R.block_r ?_) | refine R.block_e rfl ?_ | refine R.block_o rfl ?_)))
      refine R.WO_storeA rfl rfl rfl (wcs_size _) b2 (wcs_sizes _ _) (wcs_one _) ?_
      (repeat' (first | ((with_reducible refine R.shape_WO ?_); first | refine R.WO_v R.ov ?_) | ((with_reducible refine R.shape_WL ?_); first | ((with_reducible refine R.sh_gn ?_); first | refine R.WL_ops rfl rfl rfl ?_ | refine R.WL_opn rfl rfl ?_) | ((with_reducible refine R.sh_gs ?_); first | refine R.WL_skips rfl rfl rfl rfl rfl rfl ?_ | refine R.WL_takes rfl rfl rfl rfl rfl ?_ | refine R.WL_split_dt rfl rfl rfl (by omega) ?_ | refine R.WL_split_df rfl rfl rfl (by omega) ?_ | refine R.WL_split_dec rfl rfl rfl (fun _ => ?_) (fun _ => ?_) | refine R.WL_split rfl rfl rfl (fun _ => ?_) (fun _ => ?_)) | ((with_reducible refine R.sh_nil ?_); refine R.WL_nil ?_)) | ((with_reducible refine R.shape_WC ?_); first | (with_reducible refine R.WC_seq ?_) | (with_reducible refine R.WC_region ?_) | ((with_reducible refine R.sh_cond ?_); first | refine R.WC_cond_t rfl ?_ | refine R.WC_cond_f rfl ?_ | refine R.WC_cond_dt rfl (by omega) ?_ | refine R.WC_cond_df rfl (by omega) ?_ | refine R.WC_cond_dec rfl (fun _ => ?_) (fun _ => ?_) | refine R.WC_cond rfl (fun _ => ?_) (fun _ => ?_)) | (with_reducible refine R.WC_block ?_) | (with_reducible refine R.WC_skip ?_) | (with_reducible refine R.WC_ret ?_) | (with_reducible refine R.WC_exit ?_) | (with_reducible refine R.WC_label ?_)) | ((with_reducible refine R.shape_TQ ?_); first | (with_reducible refine R.then_n ?_) | (with_reducible refine R.then_r ?_) | (with_reducible refine R.then_e ?_)) | ((with_reducible refine R.shape_BQ ?_); first | (with_reducible refine R.block_n ?_) | (with_reducible refine R.block_r ?_) | refine R.block_e rfl ?_ | refine R.block_o rfl ?_)))
      have hflag : false = decide (o + a * by_ * 2 ^ (64 * at_) < W512) := (decide_eq_false fun h => Bool.noConfusion (e3.1 h).1).symm
      refine R.retCT (.inl rfl) rfl rfl (R.viaB rfl hflag) rfl (b2.set_row _).row ?_
      exact ⟨rfl, hb.trans (below_row (by omega) _)⟩
end Go.Proofs.Ytalaffabcnccgaa
