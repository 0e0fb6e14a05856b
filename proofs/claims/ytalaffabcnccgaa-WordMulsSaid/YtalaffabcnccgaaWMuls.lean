/- The law WordMuls. -/
import Derived.Test.YtalaffabcnccgaaDv
import Derived.Test.YtalaffabcnccgaaOv
import Derived.Test.YtalaffabcnccgaaOpn
import Derived.Test.YtalaffabcnccgaaOpen
namespace Go.Proofs.Ytalaffabcnccgaa
open Go.ChangeShapes Go.WideShapes Go.ChangeAt Go.RowKit
open R (In64 InU64 lo64 nth)
instance con_mulw (a b : Int) : R.ConP Try.prog 29 #[.int .u64 a, .int .u64 b] Unit (fun _ _ => InU64 a ∧ InU64 b) (fun _ => .tuple #[.int .u64 (hi64 (a * b)), .int .u64 (lo64 (a * b))]) := ⟨fun _ w h => mul_any a b h.1 h.2 w⟩
instance con_addw (a b c : Int) : R.ConP Try.prog 23 #[.int .u64 a, .int .u64 b, .int .u64 c] Unit (fun _ _ => InU64 a ∧ InU64 b ∧ 0 ≤ c) (fun _ => .tuple #[.int .u64 (lo64 (a + b + min c 1)), .int .u64 (hi64 (a + b + min c 1))]) := ⟨fun _ w h => add_any a b c h.1 h.2.1 h.2.2 w⟩
instance con_lenw (a : Int) : R.ConP Try.prog 31 #[.int .u64 a] Unit (fun _ _ => InU64 a) (fun _ => .int .i64 (bitLen a.toNat : Nat)) := ⟨fun _ w h => by
  have := len_any a h w
  rw [libLen_eq _ (by unfold InU64 at h; omega)] at this
  exact this⟩
instance con_awake02 : R.ConP Try.prog 22 #[] Unit (fun _ _ => True) (fun _ => .bool true) := ⟨fun _ w _ => awake02 w⟩
theorem dig4I_dig {a : Int} (h : InU64 a) : DigI (dig4I a) := DigI.of_nat (dig4_dig (by unfold InU64 at h; omega))
theorem dig4I_dv (a : Int) : dv (dig4I a) = a.toNat := by
  unfold dig4I
  rw [dv_of_nat, dig4_val]
theorem dig4I_len (a : Int) : (dig4I a).length = 4 := rfl
theorem hi_in (a b : Int) (ha : InU64 a) (hb : InU64 b) : InU64 (hi64 (a * b)) ∧ InU64 (lo64 (a * b)) := by
  unfold InU64 hi64 lo64 at *
  have h1 : 0 ≤ a * b := Int.mul_nonneg ha.1 hb.1
  have h2 : a * b ≤ 18446744073709551615 * 18446744073709551615 := Int.mul_le_mul (by omega) (by omega) hb.1 (by omega)
  omega
attribute [local irreducible] dig4I in
set_option maxHeartbeats 4000000 in
theorem wordMuls_any (a b y : Int) (ha : InU64 a) (hb : InU64 b) (hy : InU64 y) (w : World) :
    Calls Try.prog 5 #[.int .u64 a, .int .u64 b, .int .u64 y] w fun e w' => e = .returned (.bool true) ∧ Below w.heap.size w w' := by
  have hM := R.Own.start [] w
  have h1 := dig4I_dig ha
  have h2 := dig4I_dig hb
  have h3 := dig4I_dig hy
  have l1 := dig4I_len a
  have l2 := dig4I_len b
  have l3 := dig4I_len y
  have d1 := dig4I_dv a
  have d2 := dig4I_dv b
  have d3 := dig4I_dv y
  obtain ⟨i1, i2⟩ := hi_in a b ha hb
  refine R.calls_of_WC (fn := Try.f5) Try.func5 rfl Try.ntmps5 (Nat.le_of_ble_eq_true rfl) ?_
  unfold InU64 at ha hb hy i1 i2
  obtain ⟨P, hP⟩ : ∃ P : Nat, P = a.toNat * b.toNat := ⟨_, rfl⟩
  have hPI : (P : Int) = a * b := by rw [hP, Int.natCast_mul, Int.toNat_of_nonneg ha.1, Int.toNat_of_nonneg hb.1]
  have m1 : hi64 (a * b) = ((P / 65536 ^ (4 : Int).toNat % 18446744073709551616 : Nat) : Int) := by
    rw [← hPI] at i1 ⊢
    rw [show (65536 : Nat) ^ (4 : Int).toNat = 18446744073709551616 from rfl]
    unfold hi64 at *
    omega
  have m2 : lo64 (a * b) = ((P / 65536 ^ (0 : Int).toNat % 18446744073709551616 : Nat) : Int) := by
    rw [← hPI, show (65536 : Nat) ^ (0 : Int).toNat = 1 from rfl, Nat.div_one]
    unfold lo64
    omega
  (refine R.step ?_; (repeat' (first | (with_reducible refine And.intro ?_ ?_) | (with_reducible intro _))); all_goals refine R.Lft.mk ?_; (all_goals (try (exact ⟨rfl, R.Own.below (by assumption)⟩))))
  rename_i A1 c1 w1 _ A2 c2 w2 hM
  refine R.WO_call2 rfl rfl (by first | exact R.eI rfl | exact R.eB rfl | exact R.eS rfl | exact R.eA rfl | exact R.eP rfl | exact R.eStr rfl | exact R.eT rfl | exact R.eM rfl | exact R.eF rfl | exact R.eF0 rfl | exact R.eP0 rfl | exact R.eQ rfl) (by first | exact R.eI rfl | exact R.eB rfl | exact R.eS rfl | exact R.eA rfl | exact R.eP rfl | exact R.eStr rfl | exact R.eT rfl | exact R.eM rfl | exact R.eF rfl | exact R.eF0 rfl | exact R.eP0 rfl | exact R.eQ rfl) ?_
  refine (times_i _ _ _ _ _ _ _ _ _ (R.Own.inp hM (.tail _ (.head _))) l1.symm h1 (by omega) (R.Own.inp hM (.head _)) l2.symm h2 (by omega)).mono ?_
  rintro e w3 ⟨A3, zs, rfl, hG, hn, hz, hv⟩
  have hM := R.Own.give hM hG
  rw [d1, d2, ← hP] at hv
  refine ⟨_, rfl, ?_⟩
  have hn8 : zs.length = 8 := by omega
  rw [← hv] at m1 m2
  have m3 : ((bitLen a.toNat : Nat) : Int) = (bitLen (dv (dig4I a)) : Nat) := by rw [d1]
  by_cases hc : a < y
  · obtain ⟨N, hN⟩ : ∃ N : Nat, N = b.toNat + 65536 ^ 4 * a.toNat := ⟨_, rfl⟩
    have q0 : dvQ a b y = ((N / y.toNat : Nat) : Int) ∧ dvR a b y = ((N % y.toNat : Nat) : Int) := by
      unfold dvQ dvR
      rw [if_pos hc, if_pos hc, hN, Int.natCast_ediv, Int.natCast_emod, Int.natCast_add, Int.natCast_mul, Int.toNat_of_nonneg ha.1, Int.toNat_of_nonneg hb.1, Int.toNat_of_nonneg hy.1, Int.add_comm, Int.mul_comm a]
      exact ⟨rfl, rfl⟩
    obtain ⟨q, hq⟩ : ∃ q, N / y.toNat = q := ⟨_, rfl⟩
    obtain ⟨r, hr⟩ : ∃ r, N % y.toNat = r := ⟨_, rfl⟩
    rw [hq, hr] at q0
    obtain ⟨q1, q2⟩ := q0
    have hrl : r < y.toNat := by rw [← hr]; exact Nat.mod_lt _ (by omega)
    have hql : q < 18446744073709551616 := by
      rw [← hq]
      refine (Nat.div_lt_iff_lt_mul (by omega)).2 ?_
      rw [hN]
      have : (a.toNat + 1) * 18446744073709551616 ≤ y.toNat * 18446744073709551616 := Nat.mul_le_mul_right _ (by omega)
      omega
    have hsum : N = q * y.toNat + r := by
      have := Nat.div_add_mod N y.toNat
      rw [hq, hr, Nat.mul_comm] at this
      exact this.symm
    have hsumI : (q : Int) * y + r = b + 18446744073709551616 * a := by
      have h := congrArg (fun x : Nat => (x : Int)) hsum
      rw [hN, Int.natCast_add, Int.natCast_mul, Int.natCast_add, Int.natCast_mul, Int.toNat_of_nonneg ha.1, Int.toNat_of_nonneg hb.1, Int.toNat_of_nonneg hy.1] at h
      exact h.symm
    (refine R.step ?_; (repeat' (first | (with_reducible refine And.intro ?_ ?_) | (with_reducible intro _))); all_goals refine R.Lft.mk ?_; (all_goals (try (exact ⟨rfl, R.Own.below (by assumption)⟩))))
    all_goals (try exact absurd m1 (by assumption))
    all_goals (try exact absurd m2 (by assumption))
    all_goals (try exact absurd m3 (by assumption))
    rename_i hM
    refine R.WO_call2 rfl rfl (by first | exact R.eI rfl | exact R.eB rfl | exact R.eS rfl | exact R.eA rfl | exact R.eP rfl | exact R.eStr rfl | exact R.eT rfl | exact R.eM rfl | exact R.eF rfl | exact R.eF0 rfl | exact R.eP0 rfl | exact R.eQ rfl) (by first | exact R.eI rfl | exact R.eB rfl | exact R.eS rfl | exact R.eA rfl | exact R.eP rfl | exact R.eStr rfl | exact R.eT rfl | exact R.eM rfl | exact R.eF rfl | exact R.eF0 rfl | exact R.eP0 rfl | exact R.eQ rfl) ?_
    refine (over_i _ _ _ _ _ _ (dig4I b ++ dig4I a) (dig4I y) _ (R.Own.inp hM (.tail _ (.head _))) (by rw [List.length_append, l1, l2]) (h2.append h1) (by omega) (R.Own.inp hM (.head _)) l3.symm (row_cap hM (.head _)) h3 (by omega) (by rw [d3]; omega)).mono ?_
    rintro e w4 ⟨A4, A5, k, c5, Q, zr, rfl, hO, hQl, hQ, hQv, hk, hzr, hzv, hkb⟩
    have hM := R.Own.callF (lc := []) (lc' := [_, _]) (by rw [List.append_nil]; exact hM) hO
    refine ⟨_, rfl, ?_⟩
    rw [dv_append, d1, d2, d3, l2, ← hN] at hQv hzv
    rw [hq] at hQv
    rw [hr] at hzv
    have c1 : dvQ a b y = ((dv Q / 65536 ^ (0 : Int).toNat % 18446744073709551616 : Nat) : Int) := by
      rw [q1, hQv, show (65536 : Nat) ^ (0 : Int).toNat = 1 from rfl, Nat.div_one, Nat.mod_eq_of_lt hql]
    have c2 : dvR a b y = ((dv zr / 65536 ^ (0 : Int).toNat % 18446744073709551616 : Nat) : Int) := by
      rw [q2, hzv, show (65536 : Nat) ^ (0 : Int).toNat = 1 from rfl, Nat.div_one, Nat.mod_eq_of_lt (by omega)]
    rw [← q1, ← q2] at hsumI
    have hr0 : 0 ≤ dvR a b y ∧ dvR a b y < 18446744073709551616 := by rw [q2]; omega
    have hq0 : 0 ≤ dvQ a b y ∧ dvQ a b y < 18446744073709551616 := by rw [q1]; omega
    obtain ⟨X, hX⟩ : ∃ X, dvQ a b y * y = X := ⟨_, rfl⟩
    rw [hX] at hsumI
    have c0 : InU64 (lo64 (dvQ a b y * y)) := by rw [hX]; unfold InU64 lo64; omega
    have c3 : lo64 (lo64 (dvQ a b y * y) + dvR a b y + min 0 1) = b := by rw [hX]; unfold lo64; omega
    have c4 : lo64 (hi64 (dvQ a b y * y) + hi64 (lo64 (dvQ a b y * y) + dvR a b y + min 0 1)) = a := by rw [hX]; unfold lo64 hi64; omega
    clear hX hsumI hsum hq hr hQv hzv
    (refine R.step ?_; (repeat' (first | (with_reducible refine And.intro ?_ ?_) | (with_reducible intro _))); all_goals refine R.Lft.mk ?_; (all_goals (try (exact ⟨rfl, R.Own.below (by assumption)⟩))))
    all_goals first | exact absurd c1 (by assumption) | exact absurd c2 (by assumption) | exact absurd c3 (by assumption) | exact absurd c4 (by assumption) | (rename_i h; simp [hc] at h)
  · have q1 : dvQ a b y = 0 := by unfold dvQ; rw [if_neg hc]
    have q2 : dvR a b y = 0 := by unfold dvR; rw [if_neg hc]
    (refine R.step ?_; (repeat' (first | (with_reducible refine And.intro ?_ ?_) | (with_reducible intro _))); all_goals refine R.Lft.mk ?_; (all_goals (try (exact ⟨rfl, R.Own.below (by assumption)⟩))))
    all_goals (try exact absurd m1 (by assumption))
    all_goals (try exact absurd m2 (by assumption))
    all_goals (try exact absurd m3 (by assumption))
    all_goals (rename_i h; simp [hc] at h)
set_option maxRecDepth 100000 in
theorem walk_WordMuls {H : Type} {enc : TypeId × Value → H} (W : World) (base : Nat) (args : Array Value) (ds : List (DataW H)) (ps : List MemPlace) (hA : DataW.TrodAll enc Try.prog W 0 (fun _ => true) true [22, 22, 22] args.toList ds ps)
    (hval : ∀ (j : Nat) t v, #[22, 22, 22][j]? = some t → args[j]? = some v → Value.okWide Try.prog W .any base t v) :
    Calls Try.prog 5 args W fun e W' => e = .returned (.bool true) ∧ Below W.heap.size W W' := by
  obtain ⟨v0, v1, v2, d0, d1, d2, p0, p1, p2, rfl, rfl, rfl, h0, h1, h2⟩ := trodAll_three hA
  obtain ⟨a, rfl, rfl, rfl, wa⟩ := open_int (k := .u64) (by kernel_rfl) (hval 0 22 v0 rfl rfl) h0
  obtain ⟨b, rfl, rfl, rfl, wb⟩ := open_int (k := .u64) (by kernel_rfl) (hval 1 22 v1 rfl rfl) h1
  obtain ⟨c, rfl, rfl, rfl, wc⟩ := open_int (k := .u64) (by kernel_rfl) (hval 2 22 v2 rfl rfl) h2
  have h0 := bounds_u64 wa
  have h1 := bounds_u64 wb
  have h2 := bounds_u64 wc
  exact wordMuls_any a b c (by unfold InU64; omega) (by unfold InU64; omega) (by unfold InU64; omega) W
end Go.Proofs.Ytalaffabcnccgaa
