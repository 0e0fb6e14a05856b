/- snicketref06: a part of a number. -/
import Derived.Test.YtoainfnhmdcpoaaRa
import Derived.Test.YtoainfnhmdcpoaaOv
namespace Go.Proofs.Ytoainfnhmdcpoaa
open Go.RowKit
open R (In64 InU64 lo64 nth)

theorem part_nat {n num den : Int} (hn : 0 ≤ n) (hm : 0 ≤ num) (hd : 0 ≤ den) : ((n.toNat * num.toNat / den.toNat : Nat) : Int) = n * num / den := by
  rw [Int.natCast_ediv, Int.natCast_mul, Int.toNat_of_nonneg hn, Int.toNat_of_nonneg hm, Int.toNat_of_nonneg hd]
attribute [local irreducible] W512 dig4I in
set_option maxHeartbeats 2000000 in
theorem part6 (n num den : Int) (hn : In64 n) (hm : In64 num) (hd : In64 den) (hb : ¬ badP n num den) (w : World) : Calls Try.prog 20 #[.int .i64 n, .int .i64 num, .int .i64 den] w fun e w' => e = .returned (.int .i64 (n * num / den)) ∧ Below w.heap.size w w' := by
  have hM := R.Own.start [] w
  obtain ⟨-, e4, e5⟩ := part_div hn hm hd hb
  unfold badP at hb
  unfold In64 at hn hm hd
  have h1 := dig4I_dig (a := n) (by unfold InU64; omega)
  have h2 := dig4I_dig (a := num) (by unfold InU64; omega)
  have h3 := dig4I_dig (a := den) (by unfold InU64; omega)
  have l1 := dig4I_len n
  have l2 := dig4I_len num
  have l3 := dig4I_len den
  have d1 := dig4I_dv n
  have d2 := dig4I_dv num
  have d3 := dig4I_dv den
  have hq := part_nat (n := n) (num := num) (den := den) (by omega) (by omega) (by omega)
  refine R.calls_of_WC (fn := Try.f20) Try.func20 rfl Try.ntmps20 (Nat.le_of_ble_eq_true rfl) ?_
  (refine R.stepV ?_; (repeat' (first | (with_reducible refine And.intro ?_ ?_) | (with_reducible intro _))); all_goals refine R.Lft.mk ?_; (all_goals (try (exact ⟨rfl, R.Own.below (by assumption)⟩))))
  rename_i A1 c1 w1 _ A2 c2 w2 hM
  refine R.WO_call2 rfl rfl R.vv R.vv ?_
  refine (times_i _ _ _ _ _ _ _ _ _ (R.Own.inp hM (.tail _ (.head _))) l1.symm h1 (by omega) (R.Own.inp hM (.head _)) l2.symm h2 (by omega)).mono ?_
  rintro e w3 ⟨A3, zs, rfl, hG, hn3, hz, hv⟩
  have hM := R.Own.give hM hG
  refine ⟨_, rfl, ?_⟩
  (refine R.stepV ?_; (repeat' (first | (with_reducible refine And.intro ?_ ?_) | (with_reducible intro _))); all_goals refine R.Lft.mk ?_; (all_goals (try (exact ⟨rfl, R.Own.below (by assumption)⟩))))
  rename_i hM
  refine R.WO_call2 rfl rfl R.vv R.vv ?_
  refine (over_i _ _ _ _ _ _ _ _ _ (R.Own.inp hM (.tail _ (.head _))) hn3 hz (by omega) (R.Own.inp hM (.head _)) l3.symm (row_cap hM (.head _)) h3 (by omega) (by rw [d3]; omega)).mono ?_
  rintro e w4 ⟨A4, A5, k, c5, Q, zr, rfl, hO, hQl, hQ, hQv, hk, hzr, hzv, hkb⟩
  have hM := R.Own.callF (lc := []) (lc' := [_, _]) (by rw [List.append_nil]; exact hM) hO
  refine ⟨_, rfl, ?_⟩
  rw [hv, d1, d2, d3] at hQv
  have c1 : n * num / den = ((dv Q / 65536 ^ (0 : Int).toNat % 18446744073709551616 : Nat) : Int) := by
    rw [hQv, show (65536 : Nat) ^ (0 : Int).toNat = 1 from rfl, Nat.div_one, Nat.mod_eq_of_lt (by omega), hq]
  rw [c1] at e4 e5 ⊢
  clear hQv hzv hq c1
  (refine R.stepV ?_; (repeat' (first | (with_reducible refine And.intro ?_ ?_) | (with_reducible intro _))); all_goals refine R.Lft.mk ?_; (all_goals (try (exact ⟨rfl, R.Own.below (by assumption)⟩))))
instance con_part6 (n num den : Int) : R.ConB Try.prog 20 #[.int .i64 n, .int .i64 num, .int .i64 den] Unit (fun _ _ => In64 n ∧ In64 num ∧ In64 den ∧ ¬ badP n num den) (fun _ => .int .i64 (n * num / den)) := ⟨fun _ w h => part6 n num den h.1 h.2.1 h.2.2.1 h.2.2.2 w⟩
end Go.Proofs.Ytoainfnhmdcpoaa
