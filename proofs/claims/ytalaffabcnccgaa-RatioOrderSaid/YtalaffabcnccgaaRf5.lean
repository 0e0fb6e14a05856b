/- snicketref03: shifting. -/
import Derived.Test.YtalaffabcnccgaaRf4
namespace Go.Proofs.Ytalaffabcnccgaa
open Go.RowKit
open R (In64 InU64 lo64 nth)

/-- Where the bit comes from that lands at i. -/
def frm (c : Int) (i : Nat) : Int := if -512 < c ∧ c < 512 then (i : Int) - c else 512
theorem bit_zero {a n : Nat} (ha : a < W512) (h : 512 ≤ n) : a / 2 ^ n = 0 := by
  obtain ⟨N, hN, hw⟩ := W512_pow
  refine Nat.div_eq_of_lt (Nat.lt_of_lt_of_le ha ?_)
  rw [hw]
  exact Nat.pow_le_pow_right (by decide) (by omega)
theorem mod_bit (x i N : Nat) (h : i < N) : x % 2 ^ N / 2 ^ i % 2 = x / 2 ^ i % 2 := by
  obtain ⟨d, rfl⟩ : ∃ d, N = i + 1 + d := ⟨N - i - 1, by omega⟩
  have e : 2 ^ (i + 1 + d) = 2 ^ i * (2 * 2 ^ d) := by rw [Nat.pow_add, Nat.pow_succ, Nat.mul_assoc]
  rw [e, Nat.mod_mul_right_div_self, Nat.mod_mul_right_mod]
theorem shI_bit (a : Wd) (c : Int) (i : Nat) (hi : i < 512) : shI a.n c / 2 ^ i % 2 = if 0 ≤ frm c i ∧ frm c i < 512 then a.n / 2 ^ (frm c i).toNat % 2 else 0 := by
  obtain ⟨N, hN, hw⟩ := W512_pow
  unfold shI
  by_cases hc : c < 0
  · rw [if_pos hc, Nat.div_div_eq_div_mul, ← Nat.pow_add]
    unfold frm
    by_cases h1 : -512 < c
    · rw [if_pos (show -512 < c ∧ c < 512 by omega), show ((i : Int) - c).toNat = (-c).toNat + i by omega]
      by_cases h2 : (i : Int) - c < 512
      · rw [if_pos (by omega)]
      · rw [if_neg (by omega), bit_zero a.lt (by omega)]
    · rw [if_neg (show ¬ (-512 < c ∧ c < 512) by omega), if_neg (by omega), bit_zero a.lt (by omega)]
  · rw [if_neg hc, hw, mod_bit _ _ _ (by omega)]
    unfold frm
    by_cases h1 : c < 512
    · rw [if_pos (show -512 < c ∧ c < 512 by omega)]
      by_cases h2 : 0 ≤ (i : Int) - c
      · rw [if_pos (by omega)]
        obtain ⟨d, hd⟩ : ∃ d, i = d + c.toNat := ⟨i - c.toNat, by omega⟩
        rw [show ((i : Int) - c).toNat = d by omega, hd, Nat.pow_add, Nat.mul_div_mul_right _ _ (Nat.two_pow_pos _)]
      · rw [if_neg (by omega)]
        obtain ⟨d, hd⟩ : ∃ d, c.toNat = i + 1 + d := ⟨c.toNat - i - 1, by omega⟩
        rw [hd, show a.n * 2 ^ (i + 1 + d) = 2 ^ i * (2 * (a.n * 2 ^ d)) by rw [Nat.pow_add, Nat.pow_succ]; simp only [Nat.mul_assoc, Nat.mul_left_comm, Nat.mul_comm], Nat.mul_div_cancel_left _ (Nat.two_pow_pos _), Nat.mul_mod_right]
    · rw [if_neg (show ¬ (-512 < c ∧ c < 512) by omega), if_neg (by omega)]
      obtain ⟨d, hd⟩ : ∃ d, c.toNat = i + 1 + d := ⟨c.toNat - i - 1, by omega⟩
      rw [hd, show a.n * 2 ^ (i + 1 + d) = 2 ^ i * (2 * (a.n * 2 ^ d)) by rw [Nat.pow_add, Nat.pow_succ]; simp only [Nat.mul_assoc, Nat.mul_left_comm, Nat.mul_comm], Nat.mul_div_cancel_left _ (Nat.two_pow_pos _), Nat.mul_mod_right]
theorem pow_split (i : Nat) : 2 ^ i = 65536 ^ (i / 16) * 2 ^ (i % 16) := by
  rw [show (65536 : Nat) = 2 ^ 16 from rfl, ← Nat.pow_mul, ← Nat.pow_add]
  congr 1
  omega
/-- A bit is put. -/
theorem put_bit {E : List Int} {s i : Nat} (hl : i / 16 < E.length) (h : dv E = s % 2 ^ i) :
    dg E (i / 16) + 2 ^ (i % 16) < 65536 ∧ dv (E.set (i / 16) ((dg E (i / 16) + 2 ^ (i % 16) : Nat) : Int)) = s % 2 ^ i + 2 ^ i := by
  have h1 := dv_set E (i / 16) ((dg E (i / 16) + 2 ^ (i % 16) : Nat) : Int) hl
  have h2 := dg_le E (i / 16)
  have h3 := Nat.mod_lt s (Nat.two_pow_pos i)
  have h4 := pow_split i
  rw [Int.toNat_natCast, Nat.mul_add] at h1
  have h5 : dg E (i / 16) < 2 ^ (i % 16) := by
    refine Nat.lt_of_mul_lt_mul_left (a := 65536 ^ (i / 16)) ?_
    rw [← h4]
    omega
  have h6 : 2 ^ (i % 16) ≤ 2 ^ 15 := Nat.pow_le_pow_right (by decide) (by omega)
  rw [show (2 : Nat) ^ 15 = 32768 from rfl] at h6
  exact ⟨by omega, by omega⟩
theorem bit_take (s i : Nat) : s % 2 ^ (i + 1) = s % 2 ^ i + 2 ^ i * (s / 2 ^ i % 2) := by rw [Nat.pow_succ, Nat.mod_mul]
theorem digs_bit (a : Nat) {n : Nat} (h : n < 512) : dg (digsL a 32) (n / 16) / 2 ^ (n % 16) % 2 = a / 2 ^ n % 2 := by
  have e : dg (digsL a 32) (n / 16) = a / 65536 ^ (n / 16) % 65536 := by
    unfold dg digsL
    rw [List.map_map, List.getD_eq_getElem?_getD, List.getElem?_map, List.getElem?_range (by omega)]
    exact Int.toNat_natCast _
  rw [e, show (65536 : Nat) = 2 ^ 16 from rfl, mod_bit _ _ _ (by omega), Nat.div_div_eq_div_mul, ← Nat.pow_mul, ← Nat.pow_add]
  congr 3
  omega
/-- The low bits. -/
def lowb (s i : Nat) : Nat := s % 2 ^ i
attribute [local irreducible] W512 in
set_option maxRecDepth 20000 in
set_option maxHeartbeats 4000000 in
theorem shift3 (a : Wd) (c : Int) (hc : In64 c) (w : World) : Calls Try.prog 43 #[.agg (cW a).toArray, .int .i64 c] w fun e w' => e = .returned (.agg (cW (shW a c)).toArray) ∧ Below w.heap.size w w' := by
  have hM := R.Own.start [] w
  have h1 := digsL_dig a.n 32
  have h3 := digsL_len a.n 32
  unfold In64 at hc
  refine R.calls_of_WC (fn := Try.f43) Try.func43 rfl Try.ntmps43 (Nat.le_of_ble_eq_true rfl) ?_
  (refine R.stepV ?_; (repeat' (first | (with_reducible refine And.intro ?_ ?_) | (with_reducible intro _))); all_goals refine R.Lft.mk ?_; (all_goals (try (exact ⟨rfl, R.Own.below (by assumption)⟩))))
  rename_i g0 _ _ g2 _ _ A1 c1 _ _ A2 w1 hM
  obtain ⟨M, hM5⟩ : ∃ M : Nat, M = 512 := ⟨512, rfl⟩
  refine R.WC_loop (fun s : Nat × List Int => [(1, .int .i64 c), (4, .pointer (some ⟨g2, 0, none⟩)), (5, .slice A1 32 c1), (6, .slice A2 32 32), (7, .int .i64 (s.1 : Nat))])
    (fun s w2 => s.1 ≤ M ∧ s.2.length = 32 ∧ DigI s.2 ∧ dv s.2 = lowb (shI a.n c) s.1 ∧ R.Own [] w w2 [.row A2 32 32 22 1 (s.2.flatMap R.cU), .row A1 32 c1 22 1 ((digsL a.n 32).flatMap R.cU), .blk g2 43 (cW (W 0)), .blk g0 43 (cW a)]) (fun s => M - s.1)
    ⟨(0, List.replicate 32 0), ⟨rfl, rfl, rfl, rfl, rfl, trivial⟩, by dsimp only; omega, by simp, fun x hx => by rw [List.eq_of_mem_replicate hx]; omega, ?_, hM⟩ ?_
  · dsimp only
    unfold lowb
    rw [Nat.pow_zero, Nat.mod_one]
    unfold dv
    rw [List.map_replicate]
    exact dval_replicate 32
  rintro ⟨i, E⟩ f w2 ⟨hi, hl, hd, hv, hM⟩
  dsimp only at hi hl hd hv hM ⊢
  by_cases hlt : i < 512
  · have hstay : (¬ (0 ≤ frm c i ∧ frm c i < 512)) → lowb (shI a.n c) (i + 1) = lowb (shI a.n c) i := fun h => by
      unfold lowb
      rw [bit_take, shI_bit a c i hlt, if_neg h, Nat.mul_zero, Nat.add_zero]
    by_cases hcc : -512 < c ∧ c < 512
    · have hfr : frm c i = (i : Int) - c := by unfold frm; rw [if_pos hcc]
      rw [hfr] at hstay
      by_cases hin : 0 ≤ (i : Int) - c ∧ (i : Int) - c < 512
      · obtain ⟨n, hn⟩ : ∃ n : Nat, (i : Int) - c = n := ⟨((i : Int) - c).toNat, by omega⟩
        have i1 : (((i : Int) - c) / 16).toNat = n / 16 := by omega
        have i2 : (((i : Int) - c) % 16).toNat = n % 16 := by omega
        have i3 : ((i : Int) / 16).toNat = i / 16 := by omega
        have i4 : ((i : Int) % 16).toNat = i % 16 := by omega
        obtain ⟨q, hq⟩ : ∃ q, dg (digsL a.n 32) (n / 16) / 2 ^ (n % 16) = q := ⟨_, rfl⟩
        have hq2 : q ≤ 65535 := by rw [← hq]; exact Nat.le_trans (Nat.div_le_self _ _) (by have := dg_lt h1 (n / 16); omega)
        have v1 : nth (digsL a.n 32) (((i : Int) - c) / 16).toNat / 2 ^ (((i : Int) - c) % 16).toNat = (q : Nat) := by
          rw [i1, i2, dg_nth h1 (by omega), ← hq]; norm_cast
        obtain ⟨p1, p2⟩ := put_bit (s := shI a.n c) (i := i) (by omega : i / 16 < E.length) hv
        have hpw : 2 ^ (i % 16) ≤ 32768 := by
          have : 2 ^ (i % 16) ≤ 2 ^ 15 := Nat.pow_le_pow_right (by decide) (by omega)
          exact this
        obtain ⟨r, hr⟩ : ∃ r : Nat, 2 ^ (i % 16) = r := ⟨_, rfl⟩
        rw [hr] at hpw p1 p2
        have v2 : lo64 (1 * 2 ^ ((i : Int) % 16).toNat) = (r : Nat) := by
          rw [i4, Int.one_mul]
          have : ((2 : Int) ^ (i % 16)) = ((2 ^ (i % 16) : Nat) : Int) := by norm_cast
          rw [this, hr]
          exact R.lo64_in (by unfold InU64; omega)
        have v3 : nth E ((i : Int) / 16).toNat = (dg E (i / 16) : Nat) := by rw [i3, dg_nth hd (by omega)]
        have hbit := shI_bit a c i hlt
        rw [hfr, if_pos hin, hn, Int.toNat_natCast, ← digs_bit a.n (by omega : n < 512), hq] at hbit
        have htk : lowb (shI a.n c) (i + 1) = lowb (shI a.n c) i + 2 ^ i * (q % 2) := by unfold lowb; rw [bit_take, hbit]
        clear hbit
        obtain ⟨y, hy⟩ : ∃ y, 2 ^ i * (q % 2) = y := ⟨_, rfl⟩
        rw [hy] at htk
        clear hr
        (refine R.stepV ?_; (repeat' (first | (with_reducible refine And.intro ?_ ?_) | (with_reducible intro _))); all_goals refine R.Lft.mk ?_; (all_goals (try (exact ⟨rfl, R.Own.below (by assumption)⟩))))
        · rename_i hb w5 hM
          rw [v1] at hb
          have hq1 : q % 2 = 1 := by omega
          rw [v2, v3, i3, ← Int.natCast_add] at hM
          refine ⟨(i + 1, E.set (i / 16) ((dg E (i / 16) + r : Nat) : Int)), ⟨rfl, rfl, rfl, rfl, R.viaI rfl (by dsimp only; omega), trivial⟩, ⟨by dsimp only; omega, by simp [hl], hd.set _ (by omega) (by omega), ?_, hM⟩, by dsimp only; omega⟩
          dsimp only
          rw [htk, ← hy, hq1, Nat.mul_one]
          exact p2
        · rename_i hb
          rw [v1] at hb
          have hq1 : q % 2 = 0 := by omega
          refine ⟨(i + 1, E), ⟨rfl, rfl, rfl, rfl, R.viaI rfl (by dsimp only; omega), trivial⟩, ⟨by dsimp only; omega, hl, hd, ?_, hM⟩, by dsimp only; omega⟩
          dsimp only
          rw [htk, ← hy, hq1, Nat.mul_zero, Nat.add_zero]
          exact hv
      · (refine R.stepV ?_; (repeat' (first | (with_reducible refine And.intro ?_ ?_) | (with_reducible intro _))); all_goals refine R.Lft.mk ?_; (all_goals (try (exact ⟨rfl, R.Own.below (by assumption)⟩))))
        all_goals exact ⟨(i + 1, E), ⟨rfl, rfl, rfl, rfl, R.viaI rfl (by dsimp only; omega), trivial⟩, ⟨by dsimp only; omega, hl, hd, by dsimp only; rw [hstay hin]; exact hv, hM⟩, by dsimp only; omega⟩
    · have hfr : frm c i = 512 := by unfold frm; rw [if_neg hcc]
      rw [hfr] at hstay
      (refine R.stepV ?_; (repeat' (first | (with_reducible refine And.intro ?_ ?_) | (with_reducible intro _))); all_goals refine R.Lft.mk ?_; (all_goals (try (exact ⟨rfl, R.Own.below (by assumption)⟩))))
      all_goals exact ⟨(i + 1, E), ⟨rfl, rfl, rfl, rfl, R.viaI rfl (by dsimp only; omega), trivial⟩, ⟨by dsimp only; omega, hl, hd, by dsimp only; rw [hstay (by omega)]; exact hv, hM⟩, by dsimp only; omega⟩
  · (refine R.stepV ?_; (repeat' (first | (with_reducible refine And.intro ?_ ?_) | (with_reducible intro _))); all_goals refine R.Lft.mk ?_; (all_goals (try (exact ⟨rfl, R.Own.below (by assumption)⟩))))
    obtain ⟨N, hN, hw⟩ := W512_pow
    have e1 : W (dv E) = shW a c := Wd.ext_ (by
      show dv E % W512 = shI a.n c
      obtain rfl : i = N := by omega
      unfold lowb at hv
      rw [hv, ← hw, Nat.mod_mod, Nat.mod_eq_of_lt (shI_lt a.lt c)])
    rw [e1]
    exact ⟨rfl, R.Own.below (by assumption)⟩
instance con_shift3 (a : Wd) (c : Int) : R.ConB Try.prog 43 #[.agg (cW a).toArray, .int .i64 c] Unit (fun _ _ => In64 c) (fun _ => .agg (cW (shW a c)).toArray) := ⟨fun _ w h => shift3 a c h w⟩
theorem row_cap {F : List Nat} {W w : World} {l : List R.Res} {A : Option Addr} {n c : Nat} {e : TypeId} {sz : Nat} {cs : List Value} (hM : R.Own F W w l) (hm : .row A n c e sz cs ∈ l) : n ≤ c := by
  have h := hM.ok _ hm
  rcases h.2 with ⟨h1, h2⟩ | ⟨g, cap, cur, h1, _, _, h2, _⟩
  · omega
  · cases h1; exact h2
end Go.Proofs.Ytalaffabcnccgaa
