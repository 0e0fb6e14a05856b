/- The contracts of snicketref02: numbers as lists of digits of 16 bits. -/
import Derived.Test.YtmoppmfbfpjdnaaGreatFacts
import Derived.Test.YtmoppmfbfpjdnaaGreatNum
namespace Go.Proofs.YtmoppmfbfpjdnaaGreat
open Go.RowKit
open R (In64 InU64 lo64)

/-- Digits, as cells. -/
def digV (l : List Nat) : List Value := l.map fun d => Value.int .u64 ((d : Nat) : Int)
theorem digV_length (l : List Nat) : (digV l).length = l.length := by simp [digV]
theorem digV_append (a b : List Nat) : digV (a ++ b) = digV a ++ digV b := by simp [digV]
theorem digV_one (l : List Nat) : ∀ u ∈ digV l, u.oneCell' = true := fun u hu => by
  obtain ⟨d, _, rfl⟩ := List.mem_map.1 hu
  rfl
/-- A digit, by its place as the walk spells it. -/
theorem dig_at {w : World} {B : Nat} {A : Option Addr} {l : List Nat} (h : R.Cells w B A (digV l)) {i : Int} (h0 : 0 ≤ i) (h1 : i < l.length) :
    ∃ a, A = some a ∧ w.cell? (a.add (i.toNat * 1)) = some (.int .u64 ((l.getD i.toNat 0 : Nat) : Int)) := by
  have hlt : i.toNat < l.length := by omega
  obtain ⟨a, hA, _, hc⟩ := h.at_ (j := i.toNat) (by rw [digV_length]; exact hlt)
  refine ⟨a, hA, ?_⟩
  rw [Nat.mul_one, hc]
  simp [digV, List.getElem?_eq_getElem hlt]

theorem digit_any (A : Option Addr) (l : List Nat) (c : Nat) (i : Int) (B : Nat) (w : World) (h : R.Cells w B A (digV l)) (h0 : 0 ≤ i) :
    Calls Tryz.prog 85 #[.slice A l.length c, .int .i64 i] w fun e w' => e = .returned (.int .u64 ((l.getD i.toNat 0 : Nat) : Int)) ∧ w = w' := by
  by_cases h1 : i < l.length
  · obtain ⟨a, rfl, hc⟩ := dig_at h h0 h1
    refine R.calls_of_WC (fn := Tryz.f85) Tryz.func85 rfl Tryz.ntmps85 (Nat.le_of_ble_eq_true rfl) ?_
    (repeat' (first | ((with_reducible refine R.shape_WO ?_); first | refine R.WO_v R.ov ?_) | ((with_reducible refine R.shape_WL ?_); first | ((with_reducible refine R.sh_gn ?_); first | refine R.WL_ops rfl rfl rfl ?_ | refine R.WL_opn rfl rfl ?_) | ((with_reducible refine R.sh_gs ?_); first | refine R.WL_skips rfl rfl rfl rfl rfl rfl ?_ | refine R.WL_takes rfl rfl rfl rfl rfl ?_ | refine R.WL_split_dt rfl rfl rfl (by omega) ?_ | refine R.WL_split_df rfl rfl rfl (by omega) ?_ | refine R.WL_split_dec rfl rfl rfl (fun _ => ?_) (fun _ => ?_) | refine R.WL_split rfl rfl rfl (fun _ => ?_) (fun _ => ?_)) | ((with_reducible refine R.sh_nil ?_); refine R.WL_nil ?_)) | ((with_reducible refine R.shape_WC ?_); first | (with_reducible refine R.WC_seq ?_) | (with_reducible refine R.WC_region ?_) | ((with_reducible refine R.sh_cond ?_); first | refine R.WC_cond_t rfl ?_ | refine R.WC_cond_f rfl ?_ | refine R.WC_cond_dt rfl (by omega) ?_ | refine R.WC_cond_df rfl (by omega) ?_ | refine R.WC_cond_dec rfl (fun _ => ?_) (fun _ => ?_) | refine R.WC_cond rfl (fun _ => ?_) (fun _ => ?_)) | (with_reducible refine R.WC_block ?_) | (with_reducible refine R.WC_skip ?_) | (with_reducible refine R.WC_ret ?_) | (with_reducible refine R.WC_exit ?_) | (with_reducible refine R.WC_label ?_)) | ((with_reducible refine R.shape_TQ ?_); first | (with_reducible refine R.then_n ?_) | (with_reducible refine R.then_r ?_) | (with_reducible refine R.then_e ?_)) | ((with_reducible refine R.shape_BQ ?_); first | (with_reducible refine R.block_n ?_) | (with_reducible refine R.block_r ?_) | refine R.block_e rfl ?_ | refine R.block_o rfl ?_) | ((with_reducible refine R.shape_RQ ?_); first | refine R.ret1 rfl R.vv ?_ | refine R.ret1n rfl R.vv ?_)))
    all_goals first | exact ⟨rfl, rfl⟩ | omega
  · have e : l.getD i.toNat 0 = 0 := by rw [List.getD_eq_getElem?_getD, List.getElem?_eq_none (by omega)]; rfl
    rw [e]
    refine R.calls_of_WC (fn := Tryz.f85) Tryz.func85 rfl Tryz.ntmps85 (Nat.le_of_ble_eq_true rfl) ?_
    (repeat' (first | ((with_reducible refine R.shape_WO ?_); first | refine R.WO_v R.ov ?_) | ((with_reducible refine R.shape_WL ?_); first | ((with_reducible refine R.sh_gn ?_); first | refine R.WL_ops rfl rfl rfl ?_ | refine R.WL_opn rfl rfl ?_) | ((with_reducible refine R.sh_gs ?_); first | refine R.WL_skips rfl rfl rfl rfl rfl rfl ?_ | refine R.WL_takes rfl rfl rfl rfl rfl ?_ | refine R.WL_split_dt rfl rfl rfl (by omega) ?_ | refine R.WL_split_df rfl rfl rfl (by omega) ?_ | refine R.WL_split_dec rfl rfl rfl (fun _ => ?_) (fun _ => ?_) | refine R.WL_split rfl rfl rfl (fun _ => ?_) (fun _ => ?_)) | ((with_reducible refine R.sh_nil ?_); refine R.WL_nil ?_)) | ((with_reducible refine R.shape_WC ?_); first | (with_reducible refine R.WC_seq ?_) | (with_reducible refine R.WC_region ?_) | ((with_reducible refine R.sh_cond ?_); first | refine R.WC_cond_t rfl ?_ | refine R.WC_cond_f rfl ?_ | refine R.WC_cond_dt rfl (by omega) ?_ | refine R.WC_cond_df rfl (by omega) ?_ | refine R.WC_cond_dec rfl (fun _ => ?_) (fun _ => ?_) | refine R.WC_cond rfl (fun _ => ?_) (fun _ => ?_)) | (with_reducible refine R.WC_block ?_) | (with_reducible refine R.WC_skip ?_) | (with_reducible refine R.WC_ret ?_) | (with_reducible refine R.WC_exit ?_) | (with_reducible refine R.WC_label ?_)) | ((with_reducible refine R.shape_TQ ?_); first | (with_reducible refine R.then_n ?_) | (with_reducible refine R.then_r ?_) | (with_reducible refine R.then_e ?_)) | ((with_reducible refine R.shape_BQ ?_); first | (with_reducible refine R.block_n ?_) | (with_reducible refine R.block_r ?_) | refine R.block_e rfl ?_ | refine R.block_o rfl ?_) | ((with_reducible refine R.shape_RQ ?_); first | refine R.ret1 rfl R.vv ?_ | refine R.ret1n rfl R.vv ?_)))
    all_goals first | exact ⟨rfl, rfl⟩ | omega

theorem digit_nat (A : Option Addr) (l : List Nat) (c i B : Nat) (w : World) (h : R.Cells w B A (digV l)) :
    Calls Tryz.prog 85 #[.slice A l.length c, .int .i64 (i : Int)] w fun e w' => e = .returned (.int .u64 ((l.getD i 0 : Nat) : Int)) ∧ w = w' := by
  have := digit_any A l c i B w h (by omega)
  rwa [Int.toNat_natCast] at this
theorem digits_any (a : Int) (ha : InU64 a) (w : World) :
    Calls Tryz.prog 57 #[.int .u64 a] w fun e w' => ∃ A c, e = .returned (.slice A 4 c) ∧ w'.ownsRow w.heap.size 42 1 (.slice A 4 c) 4 (digV (dig4 a.toNat)) ∧ Below w.heap.size w w' := by
  unfold InU64 at ha
  refine R.calls_of_WC (fn := Tryz.f57) Tryz.func57 rfl Tryz.ntmps57 (Nat.le_of_ble_eq_true rfl) ?_
  (repeat' (first | ((with_reducible refine R.shape_WO ?_); first | refine R.WO_v R.ov ?_) | ((with_reducible refine R.shape_WL ?_); first | ((with_reducible refine R.sh_gn ?_); first | refine R.WL_ops rfl rfl rfl ?_ | refine R.WL_opn rfl rfl ?_) | ((with_reducible refine R.sh_nil ?_); refine R.WL_nil ?_)) | ((with_reducible refine R.shape_WC ?_); first | (with_reducible refine R.WC_seq ?_) | (with_reducible refine R.WC_region ?_) | ((with_reducible refine R.sh_cond ?_); first | refine R.WC_cond_t rfl ?_ | refine R.WC_cond_f rfl ?_ | refine R.WC_cond_dt rfl (by omega) ?_ | refine R.WC_cond_df rfl (by omega) ?_ | refine R.WC_cond_dec rfl (fun _ => ?_) (fun _ => ?_) | refine R.WC_cond rfl (fun _ => ?_) (fun _ => ?_)) | (with_reducible refine R.WC_block ?_) | (with_reducible refine R.WC_skip ?_) | (with_reducible refine R.WC_ret ?_) | (with_reducible refine R.WC_exit ?_) | (with_reducible refine R.WC_label ?_)) | ((with_reducible refine R.shape_TQ ?_); first | (with_reducible refine R.then_n ?_) | (with_reducible refine R.then_r ?_) | (with_reducible refine R.then_e ?_)) | ((with_reducible refine R.shape_BQ ?_); first | (with_reducible refine R.block_n ?_) | (with_reducible refine R.block_r ?_) | refine R.block_e rfl ?_ | refine R.block_o rfl ?_) | ((with_reducible refine R.shape_RQ ?_); first | refine R.ret1 rfl R.vv ?_ | refine R.ret1n rfl R.vv ?_)))
  have e : [Value.int .u64 (a % 65536), .int .u64 (a / 65536 % 65536), .int .u64 (a / 4294967296 % 65536), .int .u64 (a / 281474976710656)] = digV (dig4 a.toNat) := by
    simp only [digV, dig4, List.map_cons, List.map_nil, Value.int.injEq, List.cons.injEq, true_and, and_true]
    omega
  refine ⟨_, _, rfl, ?_, (Below.refl _ _).alloc (Nat.le_refl _) _⟩
  rw [← e]
  exact R.own_of_alloc _ _ _ _ _ (Nat.le_refl _) (by decide) rfl

/-- The number of the first digits behind a place, from the fourth one down. -/
def tw (l : List Nat) (a : Nat) : Nat → Nat
  | 0 => 0
  | m + 1 => tw l a m * 65536 + l.getD (a + (3 - m)) 0
theorem tw_lt {l : List Nat} (hd : Dig l) (a : Nat) : ∀ m, tw l a m < 65536 ^ m
  | 0 => by simp [tw]
  | m + 1 => by
    have := tw_lt hd a m
    have := hd.getD (a + (3 - m))
    simp only [tw, Nat.pow_succ]
    omega
theorem tw_bound {l : List Nat} (hd : Dig l) (a : Nat) {m : Nat} (hm : m < 4) : tw l a m * 65536 + 65535 < 18446744073709551616 := by
  have h := tw_lt hd a m
  have h2 : 65536 ^ m ≤ 65536 ^ 3 := Nat.pow_le_pow_right (by omega) (by omega)
  omega
theorem tw_four {l : List Nat} (hd : Dig l) (a : Nat) : tw l a 4 = dval l / 65536 ^ a % 18446744073709551616 := by
  rw [dval_word hd]
  show ((((0 * 65536 + l.getD (a + 3) 0) * 65536 + l.getD (a + 2) 0) * 65536 + l.getD (a + 1) 0) * 65536 + l.getD (a + 0) 0) = _
  simp only [Nat.add_zero]
  omega

theorem word_any (A : Option Addr) (l : List Nat) (c : Nat) (at_ : Int) (B : Nat) (w : World) (h : R.Cells w B A (digV l)) (hd : Dig l) (h0 : 0 ≤ at_) (h1 : at_ ≤ 1000000) :
    Calls Tryz.prog 86 #[.slice A l.length c, .int .i64 at_] w fun e w' => e = .returned (.int .u64 ((dval l / 65536 ^ at_.toNat % 18446744073709551616 : Nat) : Int)) ∧ w = w' := by
  refine R.calls_of_WC (fn := Tryz.f86) Tryz.func86 rfl Tryz.ntmps86 (Nat.le_of_ble_eq_true rfl) ?_
  (repeat' (first | ((with_reducible refine R.shape_WO ?_); first | refine R.WO_v R.ov ?_) | ((with_reducible refine R.shape_WL ?_); first | ((with_reducible refine R.sh_gn ?_); first | refine R.WL_ops rfl rfl rfl ?_ | refine R.WL_opn rfl rfl ?_) | ((with_reducible refine R.sh_nil ?_); refine R.WL_nil ?_)) | ((with_reducible refine R.shape_WC ?_); first | (with_reducible refine R.WC_seq ?_) | (with_reducible refine R.WC_region ?_) | ((with_reducible refine R.sh_cond ?_); first | refine R.WC_cond_t rfl ?_ | refine R.WC_cond_f rfl ?_ | refine R.WC_cond_dt rfl (by omega) ?_ | refine R.WC_cond_df rfl (by omega) ?_ | refine R.WC_cond_dec rfl (fun _ => ?_) (fun _ => ?_) | refine R.WC_cond rfl (fun _ => ?_) (fun _ => ?_)) | (with_reducible refine R.WC_block ?_) | (with_reducible refine R.WC_skip ?_) | (with_reducible refine R.WC_ret ?_) | (with_reducible refine R.WC_exit ?_) | (with_reducible refine R.WC_label ?_)) | ((with_reducible refine R.shape_TQ ?_); first | (with_reducible refine R.then_n ?_) | (with_reducible refine R.then_r ?_) | (with_reducible refine R.then_e ?_)) | ((with_reducible refine R.shape_BQ ?_); first | (with_reducible refine R.block_n ?_) | (with_reducible refine R.block_r ?_) | refine R.block_e rfl ?_ | refine R.block_o rfl ?_) | ((with_reducible refine R.shape_RQ ?_); first | refine R.ret1 rfl R.vv ?_ | refine R.ret1n rfl R.vv ?_)))
  refine R.WC_loop (fun m : Nat => [(0, .slice A l.length c), (1, .int .i64 at_), (5, .int .u64 ((tw l at_.toNat m : Nat) : Int)), (6, .int .i64 (3 - m))]) (fun m w1 => m ≤ 4 ∧ w = w1) (fun m => 4 - m) ⟨0, ⟨rfl, rfl, rfl, rfl, trivial⟩, by omega, rfl⟩ ?_
  rintro m f w1 ⟨hm, rfl⟩
  by_cases hlt : m < 4
  · have hb := tw_bound hd at_.toNat hlt
    have hg := hd.getD (at_.toNat + (3 - m))
    have ht : tw l at_.toNat (m + 1) = tw l at_.toNat m * 65536 + l.getD (at_.toNat + (3 - m)) 0 := rfl
    have hi : (at_ + (3 - (m : Int))).toNat = at_.toNat + (3 - m) := by omega
    by_cases hin : at_ + (3 - (m : Int)) < l.length
    · obtain ⟨a, rfl, hc⟩ := dig_at h (i := at_ + (3 - (m : Int))) (by omega) hin
      rw [← hi] at hg ht
      (repeat' (first | ((with_reducible refine R.shape_WO ?_); first | refine R.WO_v R.ov ?_) | ((with_reducible refine R.shape_WL ?_); first | ((with_reducible refine R.sh_gn ?_); first | refine R.WL_ops rfl rfl rfl ?_ | refine R.WL_opn rfl rfl ?_) | ((with_reducible refine R.sh_nil ?_); refine R.WL_nil ?_)) | ((with_reducible refine R.shape_WC ?_); first | (with_reducible refine R.WC_seq ?_) | (with_reducible refine R.WC_region ?_) | ((with_reducible refine R.sh_cond ?_); first | refine R.WC_cond_t rfl ?_ | refine R.WC_cond_f rfl ?_ | refine R.WC_cond_dt rfl (by omega) ?_ | refine R.WC_cond_df rfl (by omega) ?_ | refine R.WC_cond_dec rfl (fun _ => ?_) (fun _ => ?_) | refine R.WC_cond rfl (fun _ => ?_) (fun _ => ?_)) | (with_reducible refine R.WC_block ?_) | (with_reducible refine R.WC_skip ?_) | (with_reducible refine R.WC_ret ?_) | (with_reducible refine R.WC_exit ?_) | (with_reducible refine R.WC_label ?_)) | ((with_reducible refine R.shape_TQ ?_); first | (with_reducible refine R.then_n ?_) | (with_reducible refine R.then_r ?_) | (with_reducible refine R.then_e ?_)) | ((with_reducible refine R.shape_BQ ?_); first | (with_reducible refine R.block_n ?_) | (with_reducible refine R.block_r ?_) | refine R.block_e rfl ?_ | refine R.block_o rfl ?_) | ((with_reducible refine R.shape_RQ ?_); first | refine R.ret1 rfl R.vv ?_ | refine R.ret1n rfl R.vv ?_)))
      exact ⟨m + 1, ⟨rfl, rfl, R.viaI rfl (by omega), R.viaI rfl (by omega), trivial⟩, ⟨by omega, rfl⟩, by omega⟩
    · have e : l.getD (at_.toNat + (3 - m)) 0 = 0 := by rw [List.getD_eq_getElem?_getD, List.getElem?_eq_none (by omega)]; rfl
      (repeat' (first | ((with_reducible refine R.shape_WO ?_); first | refine R.WO_v R.ov ?_) | ((with_reducible refine R.shape_WL ?_); first | ((with_reducible refine R.sh_gn ?_); first | refine R.WL_ops rfl rfl rfl ?_ | refine R.WL_opn rfl rfl ?_) | ((with_reducible refine R.sh_nil ?_); refine R.WL_nil ?_)) | ((with_reducible refine R.shape_WC ?_); first | (with_reducible refine R.WC_seq ?_) | (with_reducible refine R.WC_region ?_) | ((with_reducible refine R.sh_cond ?_); first | refine R.WC_cond_t rfl ?_ | refine R.WC_cond_f rfl ?_ | refine R.WC_cond_dt rfl (by omega) ?_ | refine R.WC_cond_df rfl (by omega) ?_ | refine R.WC_cond_dec rfl (fun _ => ?_) (fun _ => ?_) | refine R.WC_cond rfl (fun _ => ?_) (fun _ => ?_)) | (with_reducible refine R.WC_block ?_) | (with_reducible refine R.WC_skip ?_) | (with_reducible refine R.WC_ret ?_) | (with_reducible refine R.WC_exit ?_) | (with_reducible refine R.WC_label ?_)) | ((with_reducible refine R.shape_TQ ?_); first | (with_reducible refine R.then_n ?_) | (with_reducible refine R.then_r ?_) | (with_reducible refine R.then_e ?_)) | ((with_reducible refine R.shape_BQ ?_); first | (with_reducible refine R.block_n ?_) | (with_reducible refine R.block_r ?_) | refine R.block_e rfl ?_ | refine R.block_o rfl ?_) | ((with_reducible refine R.shape_RQ ?_); first | refine R.ret1 rfl R.vv ?_ | refine R.ret1n rfl R.vv ?_)))
      exact ⟨m + 1, ⟨rfl, rfl, R.viaI rfl (by omega), R.viaI rfl (by omega), trivial⟩, ⟨by omega, rfl⟩, by omega⟩
  · obtain rfl : m = 4 := by omega
    (repeat' (first | ((with_reducible refine R.shape_WO ?_); first | refine R.WO_v R.ov ?_) | ((with_reducible refine R.shape_WL ?_); first | ((with_reducible refine R.sh_gn ?_); first | refine R.WL_ops rfl rfl rfl ?_ | refine R.WL_opn rfl rfl ?_) | ((with_reducible refine R.sh_nil ?_); refine R.WL_nil ?_)) | ((with_reducible refine R.shape_WC ?_); first | (with_reducible refine R.WC_seq ?_) | (with_reducible refine R.WC_region ?_) | ((with_reducible refine R.sh_cond ?_); first | refine R.WC_cond_t rfl ?_ | refine R.WC_cond_f rfl ?_ | refine R.WC_cond_dt rfl (by omega) ?_ | refine R.WC_cond_df rfl (by omega) ?_ | refine R.WC_cond_dec rfl (fun _ => ?_) (fun _ => ?_) | refine R.WC_cond rfl (fun _ => ?_) (fun _ => ?_)) | (with_reducible refine R.WC_block ?_) | (with_reducible refine R.WC_skip ?_) | (with_reducible refine R.WC_ret ?_) | (with_reducible refine R.WC_exit ?_) | (with_reducible refine R.WC_label ?_)) | ((with_reducible refine R.shape_TQ ?_); first | (with_reducible refine R.then_n ?_) | (with_reducible refine R.then_r ?_) | (with_reducible refine R.then_e ?_)) | ((with_reducible refine R.shape_BQ ?_); first | (with_reducible refine R.block_n ?_) | (with_reducible refine R.block_r ?_) | refine R.block_e rfl ?_ | refine R.block_o rfl ?_) | ((with_reducible refine R.shape_RQ ?_); first | refine R.ret1 rfl R.vv ?_ | refine R.ret1n rfl R.vv ?_)))
    rw [tw_four hd]
    exact ⟨rfl, rfl⟩

/-- What adding has come to behind i rounds. -/
theorem plus_round {xs ys zs : List Nat} {i k : Nat} (hx : Dig xs) (hy : Dig ys) (hz : Dig zs) (hk : k ≤ 1) (hl : zs.length = i) (h : dval zs + 65536 ^ i * k = dval (xs.take i) + dval (ys.take i)) :
    Dig (zs ++ [(xs.getD i 0 + ys.getD i 0 + k) % 65536]) ∧ (xs.getD i 0 + ys.getD i 0 + k) / 65536 ≤ 1 ∧
    dval (zs ++ [(xs.getD i 0 + ys.getD i 0 + k) % 65536]) + 65536 ^ (i + 1) * ((xs.getD i 0 + ys.getD i 0 + k) / 65536) = dval (xs.take (i + 1)) + dval (ys.take (i + 1)) := by
  have h1 := hx.getD i
  have h2 := hy.getD i
  refine ⟨hz.append (Dig.cons (by omega) Dig.nil), by omega, ?_⟩
  rw [dval_append, dval_take_succ, dval_take_succ, hl]
  have h3 := Nat.div_add_mod (xs.getD i 0 + ys.getD i 0 + k) 65536
  generalize (xs.getD i 0 + ys.getD i 0 + k) / 65536 = q at *
  generalize (xs.getD i 0 + ys.getD i 0 + k) % 65536 = r at *
  simp only [dval, Nat.mul_zero, Nat.add_zero, Nat.pow_succ]
  have h4 : 65536 ^ i * (65536 * q + r) = 65536 ^ i * (xs.getD i 0 + ys.getD i 0 + k) := by rw [h3]
  grind

theorem plus_any (A A' : Option Addr) (xs ys : List Nat) (c c' : Nat) (w : World) (hx : R.Cells w w.heap.size A (digV xs)) (hy : R.Cells w w.heap.size A' (digV ys)) (dx : Dig xs) (dy : Dig ys) (lx : xs.length ≤ 1000000) (ly : ys.length ≤ 1000000) :
    Calls Tryz.prog 59 #[.slice A xs.length c, .slice A' ys.length c'] w fun e w' => ∃ A1 c1 zs, e = .returned (.slice A1 zs.length c1) ∧ w'.ownsRow w.heap.size 42 1 (.slice A1 zs.length c1) zs.length (digV zs) ∧
      Dig zs ∧ dval zs = dval xs + dval ys ∧ zs.length ≤ max xs.length ys.length + 1 ∧ Below w.heap.size w w' := by
  refine R.calls_of_WC (fn := Tryz.f59) Tryz.func59 rfl Tryz.ntmps59 (Nat.le_of_ble_eq_true rfl) ?_
  (repeat' (first | ((with_reducible refine R.shape_WO ?_); first | refine R.WO_v R.ov ?_) | ((with_reducible refine R.shape_WL ?_); first | ((with_reducible refine R.sh_gn ?_); first | refine R.WL_ops rfl rfl rfl ?_ | refine R.WL_opn rfl rfl ?_) | ((with_reducible refine R.sh_gs ?_); first | refine R.WL_skips rfl rfl rfl rfl rfl rfl ?_ | refine R.WL_takes rfl rfl rfl rfl rfl ?_ | refine R.WL_split_dt rfl rfl rfl (by omega) ?_ | refine R.WL_split_df rfl rfl rfl (by omega) ?_ | refine R.WL_split_dec rfl rfl rfl (fun _ => ?_) (fun _ => ?_) | refine R.WL_split rfl rfl rfl (fun _ => ?_) (fun _ => ?_)) | ((with_reducible refine R.sh_nil ?_); refine R.WL_nil ?_)) | ((with_reducible refine R.shape_WC ?_); first | (with_reducible refine R.WC_seq ?_) | (with_reducible refine R.WC_region ?_) | ((with_reducible refine R.sh_cond ?_); first | refine R.WC_cond_t rfl ?_ | refine R.WC_cond_f rfl ?_ | refine R.WC_cond_dt rfl (by omega) ?_ | refine R.WC_cond_df rfl (by omega) ?_ | refine R.WC_cond_dec rfl (fun _ => ?_) (fun _ => ?_) | refine R.WC_cond rfl (fun _ => ?_) (fun _ => ?_)) | (with_reducible refine R.WC_block ?_) | (with_reducible refine R.WC_skip ?_) | (with_reducible refine R.WC_ret ?_) | (with_reducible refine R.WC_exit ?_) | (with_reducible refine R.WC_label ?_)) | ((with_reducible refine R.shape_TQ ?_); first | (with_reducible refine R.then_n ?_) | (with_reducible refine R.then_r ?_) | (with_reducible refine R.then_e ?_)) | ((with_reducible refine R.shape_BQ ?_); first | (with_reducible refine R.block_n ?_) | (with_reducible refine R.block_r ?_) | refine R.block_e rfl ?_ | refine R.block_o rfl ?_) | ((with_reducible refine R.shape_RQ ?_); first | refine R.ret1 rfl R.vv ?_ | refine R.ret1n rfl R.vv ?_)))
  refine R.WC_loop (fun q : Nat × List Nat × Nat × Option Addr × Nat => [(0, .slice A xs.length c), (1, .slice A' ys.length c'), (5, .slice q.2.2.2.1 q.2.1.length q.2.2.2.2), (6, .int .u64 ((q.2.2.1 : Nat) : Int)), (7, .int .i64 ((q.1 : Nat) : Int))])
    (fun q w1 => q.1 ≤ max xs.length ys.length + 1 ∧ q.2.1.length = q.1 ∧ Dig q.2.1 ∧ q.2.2.1 ≤ 1 ∧ (max xs.length ys.length < q.1 → q.2.2.1 = 0) ∧ dval q.2.1 + 65536 ^ q.1 * q.2.2.1 = dval (xs.take q.1) + dval (ys.take q.1) ∧
      w1.ownsRow w.heap.size 42 1 (.slice q.2.2.2.1 q.2.1.length q.2.2.2.2) q.2.1.length (digV q.2.1) ∧ Below w.heap.size w w1) (fun q => max xs.length ys.length + 1 - q.1)
    ⟨(0, [], 0, _, _), ⟨rfl, rfl, rfl, rfl, rfl, trivial⟩, by omega, rfl, Dig.nil, Nat.zero_le _, fun _ => rfl, by simp [dval], R.own_of_alloc #[] _ _ 0 _ (Nat.le_refl _) (by decide) rfl, (Below.refl _ _).alloc (Nat.le_refl _) _⟩ ?_
  rintro ⟨i, zs, k, A1, c1⟩ f w1 ⟨hi, hl, hz, hk, hkz, hv, hown, hb⟩
  dsimp only at hi hl hz hk hkz hv hown ⊢
  by_cases hgo : i < xs.length ∨ i < ys.length ∨ 0 < k
  · have hi' : i ≤ max xs.length ys.length := by omega
    have hx1 := hx.ext hb (Nat.le_refl _)
    have hy1 := hy.ext hb (Nat.le_refl _)
    have hr := plus_round dx dy hz hk hl hv
    have g1 := dx.getD i
    have g2 := dy.getD i
    have hs := hb.size
    rcases (show i < xs.length ∨ ((¬ i < xs.length) ∧ i < ys.length) ∨ ((¬ i < xs.length) ∧ (¬ i < ys.length) ∧ 0 < k) by omega) with h1 | ⟨h1, h2⟩ | ⟨h1, h2, h3⟩
    all_goals
     (repeat' (first | ((with_reducible refine R.shape_WO ?_); first | ((with_reducible refine R.sh_call ?_); first | (refine R.WO_call2 rfl rfl R.vv R.vv ?_; (with_reducible refine (digit_nat _ _ _ _ _ _ hx1).mono ?_); rintro e w' ⟨rfl, rfl⟩; refine ⟨_, rfl, ?_⟩) | (refine R.WO_call2 rfl rfl R.vv R.vv ?_; (with_reducible refine (digit_nat _ _ _ _ _ _ hy1).mono ?_); rintro e w' ⟨rfl, rfl⟩; refine ⟨_, rfl, ?_⟩)) | refine R.WO_v R.ov ?_) | ((with_reducible refine R.shape_WL ?_); first | ((with_reducible refine R.sh_gn ?_); first | refine R.WL_ops rfl rfl rfl ?_ | refine R.WL_opn rfl rfl ?_) | ((with_reducible refine R.sh_gs ?_); first | refine R.WL_skips rfl rfl rfl rfl rfl rfl ?_ | refine R.WL_takes rfl rfl rfl rfl rfl ?_ | refine R.WL_split_dt rfl rfl rfl (by omega) ?_ | refine R.WL_split_df rfl rfl rfl (by omega) ?_ | refine R.WL_split_dec rfl rfl rfl (fun _ => ?_) (fun _ => ?_) | refine R.WL_split rfl rfl rfl (fun _ => ?_) (fun _ => ?_)) | ((with_reducible refine R.sh_nil ?_); refine R.WL_nil ?_)) | ((with_reducible refine R.shape_WC ?_); first | (with_reducible refine R.WC_seq ?_) | (with_reducible refine R.WC_region ?_) | ((with_reducible refine R.sh_cond ?_); first | refine R.WC_cond_t rfl ?_ | refine R.WC_cond_f rfl ?_ | refine R.WC_cond_dt rfl (by omega) ?_ | refine R.WC_cond_df rfl (by omega) ?_ | refine R.WC_cond_dec rfl (fun _ => ?_) (fun _ => ?_) | refine R.WC_cond rfl (fun _ => ?_) (fun _ => ?_)) | (with_reducible refine R.WC_block ?_) | (with_reducible refine R.WC_skip ?_) | (with_reducible refine R.WC_ret ?_) | (with_reducible refine R.WC_exit ?_) | (with_reducible refine R.WC_label ?_)) | ((with_reducible refine R.shape_TQ ?_); first | (with_reducible refine R.then_n ?_) | (with_reducible refine R.then_r ?_) | (with_reducible refine R.then_e ?_)) | ((with_reducible refine R.shape_BQ ?_); first | (with_reducible refine R.block_n ?_) | (with_reducible refine R.block_r ?_) | refine R.block_e rfl ?_ | refine R.block_o rfl ?_) | ((with_reducible refine R.shape_RQ ?_); first | refine R.ret1 rfl R.vv ?_ | refine R.ret1n rfl R.vv ?_)))
    all_goals
     refine R.WO_append rfl rfl (hown.alloc _) rfl (R.Cells.new w1 #[_] _ (w1.heap.size + 1) (by omega)) rfl (by intro u hu; simp at hu; subst hu; rfl) (by unfold maxLen; omega) (by omega) (by simp; omega) ?_
     intro A2 c2 w2 hown2 hg2
     have hb2 := R.Below.grown_ (hb.alloc hs _) hg2 (hown.alloc _) (Nat.le_refl _) (by simp; omega)
     rw [show digV zs ++ #[Value.int .u64 (((xs.getD i 0 : Nat) + (ys.getD i 0 : Nat) + (k : Nat) : Int) % 65536)].toList = digV (zs ++ [(xs.getD i 0 + ys.getD i 0 + k) % 65536]) from by rw [digV_append]; rfl] at hown2
     rw [show zs.length + 1 = (zs ++ [(xs.getD i 0 + ys.getD i 0 + k) % 65536]).length from by simp] at hown2 ⊢
     clear hown hg2
     (repeat' (first | ((with_reducible refine R.shape_WO ?_); first | refine R.WO_v R.ov ?_) | ((with_reducible refine R.shape_WL ?_); first | ((with_reducible refine R.sh_gn ?_); first | refine R.WL_ops rfl rfl rfl ?_ | refine R.WL_opn rfl rfl ?_) | ((with_reducible refine R.sh_gs ?_); first | refine R.WL_skips rfl rfl rfl rfl rfl rfl ?_ | refine R.WL_takes rfl rfl rfl rfl rfl ?_ | refine R.WL_split_dt rfl rfl rfl (by omega) ?_ | refine R.WL_split_df rfl rfl rfl (by omega) ?_ | refine R.WL_split_dec rfl rfl rfl (fun _ => ?_) (fun _ => ?_) | refine R.WL_split rfl rfl rfl (fun _ => ?_) (fun _ => ?_)) | ((with_reducible refine R.sh_nil ?_); refine R.WL_nil ?_)) | ((with_reducible refine R.shape_WC ?_); first | (with_reducible refine R.WC_seq ?_) | (with_reducible refine R.WC_region ?_) | ((with_reducible refine R.sh_cond ?_); first | refine R.WC_cond_t rfl ?_ | refine R.WC_cond_f rfl ?_ | refine R.WC_cond_dt rfl (by omega) ?_ | refine R.WC_cond_df rfl (by omega) ?_ | refine R.WC_cond_dec rfl (fun _ => ?_) (fun _ => ?_) | refine R.WC_cond rfl (fun _ => ?_) (fun _ => ?_)) | (with_reducible refine R.WC_block ?_) | (with_reducible refine R.WC_skip ?_) | (with_reducible refine R.WC_ret ?_) | (with_reducible refine R.WC_exit ?_) | (with_reducible refine R.WC_label ?_)) | ((with_reducible refine R.shape_TQ ?_); first | (with_reducible refine R.then_n ?_) | (with_reducible refine R.then_r ?_) | (with_reducible refine R.then_e ?_)) | ((with_reducible refine R.shape_BQ ?_); first | (with_reducible refine R.block_n ?_) | (with_reducible refine R.block_r ?_) | refine R.block_e rfl ?_ | refine R.block_o rfl ?_) | ((with_reducible refine R.shape_RQ ?_); first | refine R.ret1 rfl R.vv ?_ | refine R.ret1n rfl R.vv ?_)))
     refine ⟨(i + 1, zs ++ [(xs.getD i 0 + ys.getD i 0 + k) % 65536], (xs.getD i 0 + ys.getD i 0 + k) / 65536, A2, c2), ⟨rfl, rfl, rfl, R.viaI rfl (by (try dsimp only); omega), R.viaI rfl (by (try dsimp only); omega), trivial⟩, ⟨by dsimp only; omega, by dsimp only; simp; omega, hr.1, hr.2.1, ?_, hr.2.2, hown2, hb2⟩, by dsimp only; omega⟩
     dsimp only
     intro hmax
     have e1 : xs.getD i 0 = 0 := by rw [List.getD_eq_getElem?_getD, List.getElem?_eq_none (by omega)]; rfl
     have e2 : ys.getD i 0 = 0 := by rw [List.getD_eq_getElem?_getD, List.getElem?_eq_none (by omega)]; rfl
     omega
  · obtain rfl : k = 0 := by omega
    (repeat' (first | ((with_reducible refine R.shape_WO ?_); first | refine R.WO_v R.ov ?_) | ((with_reducible refine R.shape_WL ?_); first | ((with_reducible refine R.sh_gn ?_); first | refine R.WL_ops rfl rfl rfl ?_ | refine R.WL_opn rfl rfl ?_) | ((with_reducible refine R.sh_gs ?_); first | refine R.WL_skips rfl rfl rfl rfl rfl rfl ?_ | refine R.WL_takes rfl rfl rfl rfl rfl ?_ | refine R.WL_split_dt rfl rfl rfl (by omega) ?_ | refine R.WL_split_df rfl rfl rfl (by omega) ?_ | refine R.WL_split_dec rfl rfl rfl (fun _ => ?_) (fun _ => ?_) | refine R.WL_split rfl rfl rfl (fun _ => ?_) (fun _ => ?_)) | ((with_reducible refine R.sh_nil ?_); refine R.WL_nil ?_)) | ((with_reducible refine R.shape_WC ?_); first | (with_reducible refine R.WC_seq ?_) | (with_reducible refine R.WC_region ?_) | ((with_reducible refine R.sh_cond ?_); first | refine R.WC_cond_t rfl ?_ | refine R.WC_cond_f rfl ?_ | refine R.WC_cond_dt rfl (by omega) ?_ | refine R.WC_cond_df rfl (by omega) ?_ | refine R.WC_cond_dec rfl (fun _ => ?_) (fun _ => ?_) | refine R.WC_cond rfl (fun _ => ?_) (fun _ => ?_)) | (with_reducible refine R.WC_block ?_) | (with_reducible refine R.WC_skip ?_) | (with_reducible refine R.WC_ret ?_) | (with_reducible refine R.WC_exit ?_) | (with_reducible refine R.WC_label ?_)) | ((with_reducible refine R.shape_TQ ?_); first | (with_reducible refine R.then_n ?_) | (with_reducible refine R.then_r ?_) | (with_reducible refine R.then_e ?_)) | ((with_reducible refine R.shape_BQ ?_); first | (with_reducible refine R.block_n ?_) | (with_reducible refine R.block_r ?_) | refine R.block_e rfl ?_ | refine R.block_o rfl ?_) | ((with_reducible refine R.shape_RQ ?_); first | refine R.ret1 rfl R.vv ?_ | refine R.ret1n rfl R.vv ?_)))
    refine ⟨A1, c1, zs, rfl, hown, hz, ?_, by omega, hb⟩
    rw [List.take_of_length_le (by omega), List.take_of_length_le (by omega)] at hv
    omega

theorem plus_at (A A' : Option Addr) (xs ys : List Nat) (n m c c' : Nat) (w : World) (hn : xs.length = n) (hm : ys.length = m) (hx : R.Cells w w.heap.size A (digV xs)) (hy : R.Cells w w.heap.size A' (digV ys)) (dx : Dig xs) (dy : Dig ys) (lx : xs.length ≤ 1000000) (ly : ys.length ≤ 1000000) :
    Calls Tryz.prog 59 #[.slice A n c, .slice A' m c'] w fun e w' => ∃ A1 c1 zs, e = .returned (.slice A1 zs.length c1) ∧ w'.ownsRow w.heap.size 42 1 (.slice A1 zs.length c1) zs.length (digV zs) ∧
      Dig zs ∧ dval zs = dval xs + dval ys ∧ zs.length ≤ max xs.length ys.length + 1 ∧ Below w.heap.size w w' := by
  subst hn hm
  exact plus_any A A' xs ys c c' w hx hy dx dy lx ly

theorem less_at (A A' : Option Addr) (xs ys : List Nat) (n m c c' B : Nat) (w : World) (hn : xs.length = n) (hm : ys.length = m) (hx : R.Cells w B A (digV xs)) (hy : R.Cells w B A' (digV ys)) (dx : Dig xs) (dy : Dig ys) (lx : xs.length ≤ 1000000) (ly : ys.length ≤ 1000000) :
    Calls Tryz.prog 60 #[.slice A n c, .slice A' m c'] w fun e w' => e = .returned (.bool (decide (dval xs < dval ys))) ∧ w = w' := by
  subst hn hm
  rcases (show (ys.length ≤ xs.length ∧ max xs.length ys.length = xs.length) ∨ (xs.length < ys.length ∧ max xs.length ys.length = ys.length) by omega) with ⟨hl, hmx⟩ | ⟨hl, hmx⟩
  all_goals
   refine R.calls_of_WC (fn := Tryz.f60) Tryz.func60 rfl Tryz.ntmps60 (Nat.le_of_ble_eq_true rfl) ?_
   (repeat' (first | ((with_reducible refine R.shape_WO ?_); first | refine R.WO_v R.ov ?_) | ((with_reducible refine R.shape_WL ?_); first | ((with_reducible refine R.sh_gn ?_); first | refine R.WL_ops rfl rfl rfl ?_ | refine R.WL_opn rfl rfl ?_) | ((with_reducible refine R.sh_nil ?_); refine R.WL_nil ?_)) | ((with_reducible refine R.shape_WC ?_); first | (with_reducible refine R.WC_seq ?_) | (with_reducible refine R.WC_region ?_) | ((with_reducible refine R.sh_cond ?_); first | refine R.WC_cond_t rfl ?_ | refine R.WC_cond_f rfl ?_ | refine R.WC_cond_dt rfl (by omega) ?_ | refine R.WC_cond_df rfl (by omega) ?_ | refine R.WC_cond_dec rfl (fun _ => ?_) (fun _ => ?_) | refine R.WC_cond rfl (fun _ => ?_) (fun _ => ?_)) | (with_reducible refine R.WC_block ?_) | (with_reducible refine R.WC_skip ?_) | (with_reducible refine R.WC_ret ?_) | (with_reducible refine R.WC_exit ?_) | (with_reducible refine R.WC_label ?_)) | ((with_reducible refine R.shape_TQ ?_); first | (with_reducible refine R.then_n ?_) | (with_reducible refine R.then_r ?_) | (with_reducible refine R.then_e ?_)) | ((with_reducible refine R.shape_BQ ?_); first | (with_reducible refine R.block_n ?_) | (with_reducible refine R.block_r ?_) | refine R.block_e rfl ?_ | refine R.block_o rfl ?_) | ((with_reducible refine R.shape_RQ ?_); first | refine R.ret1 rfl R.vv ?_ | refine R.ret1n rfl R.vv ?_)))
   refine R.WC_loop (fun k : Nat => [(0, .slice A xs.length c), (1, .slice A' ys.length c'), (6, .int .i64 ((k : Int) - 1))]) (fun k w1 => k ≤ max xs.length ys.length ∧ dval (xs.drop k) = dval (ys.drop k) ∧ w = w1) (fun k => k)
     ⟨max xs.length ys.length, ⟨rfl, rfl, R.viaI rfl (by omega), trivial⟩, Nat.le_refl _, by rw [List.drop_eq_nil_of_le (by omega), List.drop_eq_nil_of_le (by omega)], rfl⟩ ?_
   rintro k f w1 ⟨hk, heq, rfl⟩
   by_cases h0 : 0 < k
   · obtain ⟨j, rfl⟩ : ∃ j, k = j + 1 := ⟨k - 1, by omega⟩
     have e : (((j + 1 : Nat) : Int) - 1).toNat = j := by omega
     (repeat' (first | ((with_reducible refine R.shape_WO ?_); first | ((with_reducible refine R.sh_call ?_); first | (refine R.WO_call2 rfl rfl R.vv R.vv ?_; (with_reducible refine (digit_any _ _ _ _ _ _ hx (by omega)).mono ?_); rintro e w' ⟨rfl, rfl⟩; refine ⟨_, rfl, ?_⟩) | (refine R.WO_call2 rfl rfl R.vv R.vv ?_; (with_reducible refine (digit_any _ _ _ _ _ _ hy (by omega)).mono ?_); rintro e w' ⟨rfl, rfl⟩; refine ⟨_, rfl, ?_⟩)) | refine R.WO_v R.ov ?_) | ((with_reducible refine R.shape_WL ?_); first | ((with_reducible refine R.sh_gn ?_); first | refine R.WL_ops rfl rfl rfl ?_ | refine R.WL_opn rfl rfl ?_) | ((with_reducible refine R.sh_nil ?_); refine R.WL_nil ?_)) | ((with_reducible refine R.shape_WC ?_); first | (with_reducible refine R.WC_seq ?_) | (with_reducible refine R.WC_region ?_) | ((with_reducible refine R.sh_cond ?_); first | refine R.WC_cond_t rfl ?_ | refine R.WC_cond_f rfl ?_ | refine R.WC_cond_dt rfl (by omega) ?_ | refine R.WC_cond_df rfl (by omega) ?_ | refine R.WC_cond_dec rfl (fun _ => ?_) (fun _ => ?_) | refine R.WC_cond rfl (fun _ => ?_) (fun _ => ?_)) | (with_reducible refine R.WC_block ?_) | (with_reducible refine R.WC_skip ?_) | (with_reducible refine R.WC_ret ?_) | (with_reducible refine R.WC_exit ?_) | (with_reducible refine R.WC_label ?_)) | ((with_reducible refine R.shape_TQ ?_); first | (with_reducible refine R.then_n ?_) | (with_reducible refine R.then_r ?_) | (with_reducible refine R.then_e ?_)) | ((with_reducible refine R.shape_BQ ?_); first | (with_reducible refine R.block_n ?_) | (with_reducible refine R.block_r ?_) | refine R.block_e rfl ?_ | refine R.block_o rfl ?_) | ((with_reducible refine R.shape_RQ ?_); first | refine R.ret1 rfl R.vv ?_ | refine R.ret1n rfl R.vv ?_)))
     · rename_i h1
       rw [e] at h1 ⊢
       rcases Nat.lt_trichotomy (xs.getD j 0) (ys.getD j 0) with h2 | h2 | h2
       · have := dval_lt_of_top dx dy j heq h2
         rw [decide_eq_true this, decide_eq_true (by omega)]
         exact ⟨rfl, rfl⟩
       · omega
       · have := dval_lt_of_top dy dx j heq.symm h2
         rw [decide_eq_false (by omega), decide_eq_false (by omega)]
         exact ⟨rfl, rfl⟩
     · rename_i h1
       rw [e] at h1
       refine ⟨j, ⟨rfl, rfl, R.viaI rfl (by omega), trivial⟩, ⟨by omega, ?_, rfl⟩, by omega⟩
       rw [dval_drop_succ, dval_drop_succ ys, heq]
       omega
   · obtain rfl : k = 0 := by omega
     (repeat' (first | ((with_reducible refine R.shape_WO ?_); first | refine R.WO_v R.ov ?_) | ((with_reducible refine R.shape_WL ?_); first | ((with_reducible refine R.sh_gn ?_); first | refine R.WL_ops rfl rfl rfl ?_ | refine R.WL_opn rfl rfl ?_) | ((with_reducible refine R.sh_nil ?_); refine R.WL_nil ?_)) | ((with_reducible refine R.shape_WC ?_); first | (with_reducible refine R.WC_seq ?_) | (with_reducible refine R.WC_region ?_) | ((with_reducible refine R.sh_cond ?_); first | refine R.WC_cond_t rfl ?_ | refine R.WC_cond_f rfl ?_ | refine R.WC_cond_dt rfl (by omega) ?_ | refine R.WC_cond_df rfl (by omega) ?_ | refine R.WC_cond_dec rfl (fun _ => ?_) (fun _ => ?_) | refine R.WC_cond rfl (fun _ => ?_) (fun _ => ?_)) | (with_reducible refine R.WC_block ?_) | (with_reducible refine R.WC_skip ?_) | (with_reducible refine R.WC_ret ?_) | (with_reducible refine R.WC_exit ?_) | (with_reducible refine R.WC_label ?_)) | ((with_reducible refine R.shape_TQ ?_); first | (with_reducible refine R.then_n ?_) | (with_reducible refine R.then_r ?_) | (with_reducible refine R.then_e ?_)) | ((with_reducible refine R.shape_BQ ?_); first | (with_reducible refine R.block_n ?_) | (with_reducible refine R.block_r ?_) | refine R.block_e rfl ?_ | refine R.block_o rfl ?_) | ((with_reducible refine R.shape_RQ ?_); first | refine R.ret1 rfl R.vv ?_ | refine R.ret1n rfl R.vv ?_)))
     simp only [List.drop_zero] at heq
     rw [decide_eq_false (by omega)]
     exact ⟨rfl, rfl⟩
end Go.Proofs.YtmoppmfbfpjdnaaGreat
