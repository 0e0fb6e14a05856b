/- snicketref03: numbers of eight words as digits and back. -/
import Derived.Test.YtalaffabcnccgaaRf
namespace Go.Proofs.Ytalaffabcnccgaa
open Go.RowKit
open R (In64 InU64 lo64 nth)

/-- The first k digits of a number. -/
def digsL (a k : Nat) : List Int := (List.range k).map fun i => ((a / 65536 ^ i % 65536 : Nat) : Int)
theorem digsL_len (a k : Nat) : (digsL a k).length = k := by simp [digsL]
theorem digsL_dig (a k : Nat) : DigI (digsL a k) := fun x hx => by
  obtain ⟨i, _, rfl⟩ := List.mem_map.1 hx
  have := Nat.mod_lt (a / 65536 ^ i) (show 0 < 65536 by decide)
  omega
theorem digsL_succ (a k : Nat) : digsL a (k + 1) = digsL a k ++ [((a / 65536 ^ k % 65536 : Nat) : Int)] := by simp [digsL, List.range_succ]
theorem dv_append (a b : List Int) : dv (a ++ b) = dv a + 65536 ^ a.length * dv b := by
  unfold dv
  rw [List.map_append, dval_append, List.length_map]
theorem dv_one (x : Int) : dv [x] = x.toNat := by simp [dv, dval]
theorem digsL_val (a k : Nat) : dv (digsL a k) = a % 65536 ^ k := by
  induction k with
  | zero => simp [digsL, dv, dval, Nat.mod_one]
  | succ k ih => rw [digsL_succ, dv_append, ih, digsL_len, dv_one, Int.toNat_natCast, Nat.pow_succ, Nat.mod_mul]
theorem pow16 (k : Nat) : 65536 ^ (4 * k) = 2 ^ (64 * k) := by
  rw [show 64 * k = 16 * (4 * k) by omega, Nat.pow_mul 2 16]
theorem dig4_digs (a k : Nat) : digsL a (4 * k) ++ dig4I ((wd a k : Nat) : Int) = digsL a (4 * (k + 1)) := by
  rw [show 4 * (k + 1) = 4 * k + 1 + 1 + 1 + 1 by omega, digsL_succ, digsL_succ, digsL_succ, digsL_succ]
  simp only [List.append_assoc, List.cons_append, List.nil_append]
  congr 1
  simp only [dig4I, dig4, Int.toNat_natCast, List.map_cons, List.map_nil, Int.ofNat_eq_natCast]
  simp only [Nat.pow_succ, ← Nat.div_div_eq_div_mul, pow16, wd]
  generalize a / 2 ^ (64 * k) = x
  simp only [List.cons.injEq, and_true]
  refine ⟨?_, ?_, ?_, ?_⟩ <;> omega
theorem wsz_dig (M : Nat) : wsz M = 65536 ^ (4 * M) := (pow16 M).symm
theorem W512_dig : ∃ N : Nat, N = 32 ∧ W512 = 65536 ^ N := ⟨4 * 8, rfl, wsz_dig 8⟩
theorem digsL_whole (a : Wd) : dv (digsL a.n 32) = a.n := by
  obtain ⟨N, hN, hw⟩ := W512_dig
  rw [← hN, digsL_val, ← hw, Nat.mod_eq_of_lt a.lt]
theorem digits3 (a : Wd) (w : World) : Calls Try.prog 42 #[.agg (cW a).toArray] w fun e w' => ∃ A c, e = .returned (.slice A 32 c) ∧ R.Gives w w' A 32 c 22 1 ((digsL a.n 32).flatMap R.cU) := by
  have hM := R.Own.start [] w
  refine R.calls_of_WC (fn := Try.f42) Try.func42 rfl Try.ntmps42 (Nat.le_of_ble_eq_true rfl) ?_
  (refine R.stepV ?_; (repeat' (first | (with_reducible refine And.intro ?_ ?_) | (with_reducible intro _))); all_goals refine R.Lft.mk ?_)
  rename_i g w1 _ A1 c1 w2 hM
  refine R.WC_loop (fun s : Nat × Option Addr × Nat => [(1, .pointer (some ⟨g, 0, none⟩)), (2, .slice none 0 0), (3, .slice s.2.1 (4 * s.1) s.2.2), (4, .int .i64 (s.1 : Nat))])
    (fun s w3 => s.1 ≤ 8 ∧ R.Own [] w w3 [.row s.2.1 (4 * s.1) s.2.2 22 1 ((digsL a.n (4 * s.1)).flatMap R.cU), .blk g 43 (cW a)]) (fun s => 8 - s.1)
    ⟨(0, A1, c1), ⟨rfl, rfl, rfl, rfl, trivial⟩, by omega, hM⟩ ?_
  rintro ⟨k, A2, c2⟩ f w3 ⟨hk, hM⟩
  dsimp only at hk hM ⊢
  by_cases hlt : k < 8
  · have hl := digsL_len a.n (4 * k)
    have hw := wd_range a.n k
    (refine R.stepV ?_; (repeat' (first | (with_reducible refine And.intro ?_ ?_) | (with_reducible intro _))); all_goals refine R.Lft.mk ?_)
    rename_i A3 c3 w5 hM
    rw [dig4_digs] at hM
    exact ⟨(k + 1, A3, c3), ⟨rfl, rfl, rfl, R.viaI rfl (by dsimp only; omega), trivial⟩, ⟨by dsimp only; omega, hM⟩, by dsimp only; omega⟩
  · obtain rfl : k = 8 := by omega
    (refine R.stepV ?_; (repeat' (first | (with_reducible refine And.intro ?_ ?_) | (with_reducible intro _))); all_goals refine R.Lft.mk ?_)
    exact ⟨_, _, rfl, hM.gives⟩
instance con_digits3 (a : Wd) : R.ConR Try.prog 42 #[.agg (cW a).toArray] Unit (fun _ _ => True) 22 1 (fun _ => 32) (fun _ => (digsL a.n 32).flatMap R.cU) := ⟨fun _ w _ => digits3 a w⟩
theorem cmp3 (a b : Wd) (w : World) : Calls Try.prog 49 #[.agg (cW a).toArray, .agg (cW b).toArray] w fun e w' => e = .returned (.int .i64 (cmpI a.n b.n)) ∧ Below w.heap.size w w' := by
  have hM := R.Own.start [] w
  have h1 := digsL_dig a.n 32
  have h2 := digsL_dig b.n 32
  have h3 := digsL_len a.n 32
  have h4 := digsL_len b.n 32
  have h5 := digsL_whole a
  have h6 := digsL_whole b
  refine R.calls_of_WC (fn := Try.f49) Try.func49 rfl Try.ntmps49 (Nat.le_of_ble_eq_true rfl) ?_
  (refine R.stepV ?_; (repeat' (first | (with_reducible refine And.intro ?_ ?_) | (with_reducible intro _))); all_goals refine R.Lft.mk ?_; (all_goals (try (exact ⟨rfl, R.Own.below (by assumption)⟩))))
  refine R.WC_planO [(0, false), (2, false), (1, true), (3, true), (4, true)] R.mixed (by decide +kernel) R.ohm ?_
  (refine R.stepV ?_; (repeat' (first | (with_reducible refine And.intro ?_ ?_) | (with_reducible intro _))); all_goals refine R.Lft.mk ?_; (all_goals (try (exact ⟨rfl, R.Own.below (by assumption)⟩))))
  refine R.WO_call2 rfl rfl R.vv R.vv ?_
  refine (less_i _ _ _ _ _ _ _ _ _ (R.Own.inp R.ohm R.memb) h3.symm h1 (by omega) (R.Own.inp R.ohm R.memb) h4.symm h2 (by omega)).mono ?_
  rintro e w' ⟨rfl, rfl⟩
  refine ⟨_, rfl, ?_⟩
  rw [h5, h6]
  (refine R.stepV ?_; (repeat' (first | (with_reducible refine And.intro ?_ ?_) | (with_reducible intro _))); all_goals refine R.Lft.mk ?_; (all_goals (try (exact ⟨rfl, R.Own.below (by assumption)⟩))))
  · rename_i h
    exact ⟨by rw [show cmpI a.n b.n = -1 by unfold cmpI; rw [if_pos h]], R.Own.below (by assumption)⟩
  · rename_i h h'
    subst h'
    exact ⟨by rw [show cmpI a.n a.n = 0 by unfold cmpI; rw [if_neg h, if_neg h]], R.Own.below (by assumption)⟩
  · rename_i h h'
    have : ¬ a.n = b.n := fun e => h' (Wd.ext_ e)
    exact ⟨by rw [show cmpI a.n b.n = 1 by unfold cmpI; rw [if_neg h, if_pos (by omega)]], R.Own.below (by assumption)⟩
instance con_cmp3 (a b : Wd) : R.ConB Try.prog 49 #[.agg (cW a).toArray, .agg (cW b).toArray] Unit (fun _ _ => True) (fun _ => .int .i64 (cmpI a.n b.n)) := ⟨fun _ w _ => cmp3 a b w⟩
/-- A number made of digits. -/
theorem wide_round {n k : Nat} (hk : k < 8) : stW (W (n % wsz k)) k ((n / 65536 ^ (4 * k) % 18446744073709551616 : Nat) : Int) = W (n % wsz (k + 1)) := by
  have hlt : n % wsz k < W512 := Nat.lt_of_lt_of_le (Nat.mod_lt _ (wsz_pos k)) (wsz_le (by omega))
  have hlt2 : n % wsz (k + 1) < W512 := Nat.lt_of_lt_of_le (Nat.mod_lt _ (wsz_pos (k + 1))) (wsz_le (by omega))
  refine Wd.ext_ ?_
  rw [pow16]
  show (stW _ k ((wd n k : Nat) : Int)).n = _
  rw [stW_n hk (wd_range n k), W_n hlt, W_n hlt2, Int.toNat_natCast]
  have h1 : n % wsz k / wsz (k + 1) = 0 := Nat.div_eq_of_lt (Nat.lt_of_lt_of_le (Nat.mod_lt _ (wsz_pos k)) (wsz_le (by omega : k ≤ k + 1)))
  have h2 := mod_succ_word n k
  unfold setw
  simp only [wsz_eq] at h2 ⊢
  rw [h2, Nat.mod_mod, h1, Nat.mul_zero, Nat.add_zero]
theorem W_mod (n : Nat) : W (n % wsz 8) = W n := Wd.ext_ (Nat.mod_mod _ _)
theorem dv_take_succ (L : List Int) (i : Nat) : dv (L.take (i + 1)) = dv (L.take i) + 65536 ^ i * dg L i := by
  unfold dv dg
  rw [List.map_take, List.map_take, dval_take_succ]
theorem wide_fits {L : List Int} (hL : DigI L) (i : Nat) (h : 32 ≤ i) (hi : i < L.length) : decide (dv (L.take (i + 1)) < W512) = (decide (dv (L.take i) < W512) && decide (nth L i = 0)) := by
  obtain ⟨N, hN, hw⟩ := W512_dig
  have h1 : W512 ≤ 65536 ^ i := by rw [hw]; exact Nat.pow_le_pow_right (by decide) (by omega)
  rw [dv_take_succ, dg_nth hL hi]
  by_cases h0 : dg L i = 0
  · rw [h0]; simp
  · have : 65536 ^ i * 1 ≤ 65536 ^ i * dg L i := Nat.mul_le_mul_left _ (by omega)
    rw [decide_eq_false (by omega), decide_eq_false (by omega : ¬ ((dg L i : Nat) : Int) = 0), Bool.and_false]
theorem dv_take_lt {L : List Int} (hL : DigI L) (i : Nat) : dv (L.take i) < 65536 ^ i := by
  unfold dv
  rw [List.map_take]
  exact dval_take_lt hL.dig i
attribute [local irreducible] W512 in
set_option maxHeartbeats 1000000 in
theorem wide3 (A : Option Addr) (n c : Nat) (L : List Int) (w : World) (hA : R.Inp [] w A n 1 (L.flatMap R.cU)) (hn : n = L.length) (hd : DigI L) (hb : n ≤ 100000) :
    Calls Try.prog 46 #[.slice A n c] w fun e w' => e = .returned (.tuple #[.agg (cW (W (dv L))).toArray, .bool (decide (dv L < W512))]) ∧ Below w.heap.size w w' := by
  have hM := R.Own.start [] w
  refine R.calls_of_WC (fn := Try.f46) Try.func46 rfl Try.ntmps46 (Nat.le_of_ble_eq_true rfl) ?_
  (refine R.stepV ?_; (repeat' (first | (with_reducible refine And.intro ?_ ?_) | (with_reducible intro _))); all_goals refine R.Lft.mk ?_)
  rename_i g1 _ _ g2 _ _ w1 hM
  refine R.WC_loop (fun k : Nat => [(0, .slice A n c), (2, .pointer (some ⟨g1, 0, none⟩)), (3, .bool false), (4, .pointer (some ⟨g2, 0, none⟩)), (5, .int .i64 (k : Nat))])
    (fun k w2 => k ≤ 8 ∧ R.Own [] w w2 [.blk g2 43 (cW (W (dv L % wsz k))), .blk g1 43 (cW (W 0))]) (fun k => 8 - k)
    ⟨0, ⟨rfl, rfl, rfl, rfl, rfl, trivial⟩, by omega, by rw [show wsz 0 = 1 from rfl, Nat.mod_one]; exact hM⟩ ?_
  rintro k f w2 ⟨hk, hM⟩
  by_cases hlt : k < 8
  · have hwr := wide_round (n := dv L) hlt
    have hrng : InU64 ((dv L / 65536 ^ (4 * (k : Int)).toNat % 18446744073709551616 : Nat) : Int) := by
      have := Nat.mod_lt (dv L / 65536 ^ (4 * (k : Int)).toNat) (show 0 < 18446744073709551616 by decide)
      unfold InU64; omega
    (refine R.stepV ?_; (repeat' (first | (with_reducible refine And.intro ?_ ?_) | (with_reducible intro _))); all_goals refine R.Lft.mk ?_)
    rename_i w5 hM
    rw [show (4 * (k : Int)).toNat = 4 * k by omega, hwr] at hM
    exact ⟨k + 1, ⟨rfl, rfl, rfl, rfl, R.viaI rfl (by omega), trivial⟩, ⟨by omega, hM⟩, by omega⟩
  · obtain rfl : k = 8 := by omega
    rw [W_mod] at hM
    (refine R.stepV ?_; (repeat' (first | (with_reducible refine And.intro ?_ ?_) | (with_reducible intro _))); all_goals refine R.Lft.mk ?_)
    refine R.WC_loop (fun k : Nat => [(0, .slice A n c), (2, .pointer (some ⟨g1, 0, none⟩)), (3, .bool false), (4, .pointer (some ⟨g2, 0, none⟩)), (6, .bool (decide (dv (L.take k) < W512))), (7, .int .i64 (k : Nat))])
      (fun k w3 => 32 ≤ k ∧ k ≤ max n 32 ∧ R.Own [] w w3 [.blk g2 43 (cW (W (dv L))), .blk g1 43 (cW (W 0))]) (fun k => max n 32 - k)
      ⟨32, ⟨rfl, rfl, rfl, rfl, R.viaB rfl ?_, rfl, trivial⟩, by omega, by omega, hM⟩ ?_
    · obtain ⟨N, hN, hw⟩ := W512_dig
      have := dv_take_lt hd N
      rw [← hw] at this
      rw [← hN, decide_eq_true this]
    rintro k f w3 ⟨hk, hk2, hM⟩
    by_cases hlt : k < n
    · have hf := wide_fits hd k hk (by omega)
      (refine R.stepV ?_; (repeat' (first | (with_reducible refine And.intro ?_ ?_) | (with_reducible intro _))); all_goals refine R.Lft.mk ?_)
      · rename_i h
        rw [decide_eq_true h, Bool.true_and] at hf
        exact ⟨k + 1, ⟨rfl, rfl, rfl, rfl, R.viaB rfl hf.symm, R.viaI rfl (by omega), trivial⟩, ⟨by omega, by omega, by assumption⟩, by omega⟩
      · rename_i h
        rw [decide_eq_false h, Bool.false_and] at hf
        exact ⟨k + 1, ⟨rfl, rfl, rfl, rfl, R.viaB rfl hf.symm, R.viaI rfl (by omega), trivial⟩, ⟨by omega, by omega, by assumption⟩, by omega⟩
    · (refine R.stepV ?_; (repeat' (first | (with_reducible refine And.intro ?_ ?_) | (with_reducible intro _))); all_goals refine R.Lft.mk ?_)
      rw [List.take_of_length_le (by omega : L.length ≤ k)]
      exact ⟨rfl, R.Own.below (by assumption)⟩
instance con_wide3 (A : Option Addr) (n c : Nat) : R.ConB Try.prog 46 #[.slice A n c] (List Int) (fun L w => R.Inp [] w A n 1 (L.flatMap R.cU) ∧ n = L.length ∧ DigI L ∧ n ≤ 100000) (fun L => .tuple #[.agg (cW (W (dv L))).toArray, .bool (decide (dv L < W512))]) := ⟨fun L w h => wide3 A n c L w h.1 h.2.1 h.2.2.1 h.2.2.2⟩
/-! ### taking away -/
/-- What taking away has come to behind i rounds. -/
theorem minus_round {xs ys zs : List Int} {i k : Nat} (hx : DigI xs) (hy : DigI ys) (hz : DigI zs) (hk : k ≤ 1) (hl : zs.length = i) (h : dv zs + dv (ys.take i) = dv (xs.take i) + 65536 ^ i * k) :
    DigI (zs ++ [(((65536 + dg xs i - dg ys i - k) % 65536 : Nat) : Int)]) ∧ dv (zs ++ [(((65536 + dg xs i - dg ys i - k) % 65536 : Nat) : Int)]) + dv (ys.take (i + 1)) = dv (xs.take (i + 1)) + 65536 ^ (i + 1) * (1 - (65536 + dg xs i - dg ys i - k) / 65536) := by
  have h1 := dg_lt hx i
  have h2 := dg_lt hy i
  refine ⟨hz.append (DigI.one (by omega) (by omega)), ?_⟩
  rw [dv_append, dv_take_succ, dv_take_succ, hl, dv_one, Int.toNat_natCast, Nat.pow_succ]
  have h3 : (65536 + dg xs i - dg ys i - k) % 65536 + dg ys i + k = dg xs i + 65536 * (1 - (65536 + dg xs i - dg ys i - k) / 65536) := by omega
  generalize (65536 + dg xs i - dg ys i - k) % 65536 = r at *
  generalize 1 - (65536 + dg xs i - dg ys i - k) / 65536 = q at *
  have h4 : 65536 ^ i * (r + dg ys i + k) = 65536 ^ i * (dg xs i + 65536 * q) := by rw [h3]
  grind
theorem minus_end {xs ys zs : List Int} {k : Nat} (hx : DigI xs) (hz : DigI zs) (hl : zs.length = xs.length) (hk : k ≤ 1) (hle : dv ys ≤ dv xs) (h : dv zs + dv (ys.take xs.length) = dv (xs.take xs.length) + 65536 ^ xs.length * k) : dv zs = dv xs - dv ys := by
  have e : ys.take xs.length ++ ys.drop xs.length = ys := List.take_append_drop _ _
  have hs : dv ys = dv (ys.take xs.length) + 65536 ^ (ys.take xs.length).length * dv (ys.drop xs.length) := by rw [← dv_append, e]
  have h1 := dv_take_lt hx xs.length
  have h2 := dv_take_lt hz xs.length
  rw [List.take_length] at h1 h
  rw [← hl, List.take_length, hl] at h2
  rcases Nat.lt_or_ge xs.length ys.length with hlt | hge
  · rw [List.length_take, Nat.min_eq_left (by omega)] at hs
    have h3 : dv (ys.drop xs.length) = 0 := by
      rcases Nat.eq_zero_or_pos (dv (ys.drop xs.length)) with h4 | h4
      · exact h4
      · have : 65536 ^ xs.length * 1 ≤ 65536 ^ xs.length * dv (ys.drop xs.length) := Nat.mul_le_mul_left _ h4
        omega
    rw [h3] at hs
    rcases (by omega : k = 0 ∨ k = 1) with rfl | rfl <;> omega
  · rw [List.take_of_length_le hge] at h
    rcases (by omega : k = 0 ∨ k = 1) with rfl | rfl <;> omega
set_option maxHeartbeats 1000000 in
theorem minus_i (A B : Option Addr) (n c m d : Nat) (xs ys : List Int) (w : World) (hA : R.Inp [] w A n 1 (xs.flatMap R.cU)) (hn : n = xs.length) (hx : DigI xs) (hnb : n ≤ 100000) (hB : R.Inp [] w B m 1 (ys.flatMap R.cU)) (hm : m = ys.length) (hy : DigI ys) (_hmb : m ≤ 100000) (hle : dv ys ≤ dv xs) :
    Calls Try.prog 99 #[.slice A n c, .slice B m d] w fun e w' => ∃ A1 c1 zs, e = .returned (.slice A1 n c1) ∧ R.Gives w w' A1 n c1 22 1 (zs.flatMap R.cU) ∧ n = zs.length ∧ DigI zs ∧ dv zs = dv xs - dv ys := by
  have hM := R.Own.start [] w
  refine R.calls_of_WC (fn := Try.f99) Try.func99 rfl Try.ntmps99 (Nat.le_of_ble_eq_true rfl) ?_
  (refine R.stepV ?_; (repeat' (first | (with_reducible refine And.intro ?_ ?_) | (with_reducible intro _))); all_goals refine R.Lft.mk ?_)
  rename_i A1 c1 w1 hM
  refine R.WC_loop (fun s : Nat × List Int × Nat × Option Addr × Nat => [(0, .slice A n c), (1, .slice B m d), (4, .slice none 0 0), (5, .slice s.2.2.2.1 s.1 s.2.2.2.2), (6, .int .u64 (s.2.2.1 : Nat)), (7, .int .i64 (s.1 : Nat))])
    (fun s w2 => s.1 ≤ n ∧ s.2.1.length = s.1 ∧ DigI s.2.1 ∧ s.2.2.1 ≤ 1 ∧ dv s.2.1 + dv (ys.take s.1) = dv (xs.take s.1) + 65536 ^ s.1 * s.2.2.1 ∧ R.Own [] w w2 [.row s.2.2.2.1 s.1 s.2.2.2.2 22 1 (s.2.1.flatMap R.cU)]) (fun s => n - s.1)
    ⟨(0, [], 0, A1, c1), ⟨rfl, rfl, rfl, rfl, rfl, rfl, trivial⟩, by dsimp only; omega, rfl, DigI.nil, by dsimp only; omega, by simp [dv, dval], hM⟩ ?_
  rintro ⟨i, zs, k, A2, c2⟩ f w2 ⟨hi, hl, hz, hk, hv, hM⟩
  dsimp only at hi hl hz hk hv hM ⊢
  by_cases hlt : i < n
  · have hr := minus_round hx hy hz hk hl hv
    have e1 := dg_nth hx (i := i) (by omega)
    have e2 := dg_lt hx i
    have e3 := dg_lt hy (i : Int).toNat
    (refine R.stepV ?_; (repeat' (first | (with_reducible refine And.intro ?_ ?_) | (with_reducible intro _))); all_goals refine R.Lft.mk ?_)
    refine R.WC_planO [(0, false), (1, false), (2, false), (3, false), (4, false), (5, false), (6, false), (9, false), (7, true), (8, false), (10, false), (11, false)] R.mixed (by decide +kernel) R.ohm ?_
    (refine R.stepV ?_; (repeat' (first | (with_reducible refine And.intro ?_ ?_) | (with_reducible intro _))); all_goals refine R.Lft.mk ?_)
    rename_i A4 c4 w6 hM
    have e4 : (65536 + nth xs i - (dg ys (i : Int).toNat : Nat) - (k : Nat)) % 65536 = (((65536 + dg xs i - dg ys i - k) % 65536 : Nat) : Int) := by
      rw [e1, Int.toNat_natCast]
      rw [Int.toNat_natCast] at e3
      omega
    rw [e4] at hM
    refine ⟨(i + 1, zs ++ [(((65536 + dg xs i - dg ys i - k) % 65536 : Nat) : Int)], 1 - (65536 + dg xs i - dg ys i - k) / 65536, A4, c4), ⟨rfl, rfl, rfl, rfl, R.viaI rfl ?_, R.viaI rfl (by dsimp only; omega), trivial⟩, ⟨by dsimp only; omega, by simp [hl], hr.1, by dsimp only; omega, hr.2, hM⟩, by dsimp only; omega⟩
    rw [e1, Int.toNat_natCast]
    rw [Int.toNat_natCast] at e3
    dsimp only
    omega
  · obtain rfl : i = n := by omega
    (refine R.stepV ?_; (repeat' (first | (with_reducible refine And.intro ?_ ?_) | (with_reducible intro _))); all_goals refine R.Lft.mk ?_)
    refine ⟨_, _, zs, rfl, hM.gives, hl.symm, hz, ?_⟩
    subst hn
    exact minus_end hx hz hl hk hle hv
theorem top_dig : DigI (List.replicate 32 0 ++ [1]) := fun x hx => by
  rcases List.mem_append.1 hx with h | h
  · rw [List.eq_of_mem_replicate h]; omega
  · rw [List.mem_singleton.1 h]; omega
theorem top_val : dv (List.replicate 32 0 ++ [1]) = W512 := by
  obtain ⟨N, hN, hw⟩ := W512_dig
  have h0 : dv (List.replicate N 0) = 0 := by
    unfold dv
    rw [List.map_replicate]
    exact dval_replicate N
  rw [← hN, dv_append, h0, List.length_replicate, dv_one, hw]
  simp
attribute [local irreducible] W512 in
set_option maxHeartbeats 1000000 in
theorem sub3 (a b : Wd) (w : World) : Calls Try.prog 47 #[.agg (cW a).toArray, .agg (cW b).toArray] w fun e w' => e = .returned (.tuple #[.agg (cW (difW a b)).toArray, .bool (decide (b.n ≤ a.n))]) ∧ Below w.heap.size w w' := by
  have hM := R.Own.start [] w
  have h1 := digsL_dig a.n 32
  have h2 := digsL_dig b.n 32
  have h3 := digsL_len a.n 32
  have h4 := digsL_len b.n 32
  have h5 := digsL_whole a
  have h6 := digsL_whole b
  refine R.calls_of_WC (fn := Try.f47) Try.func47 rfl Try.ntmps47 (Nat.le_of_ble_eq_true rfl) ?_
  (refine R.stepV ?_; (repeat' (first | (with_reducible refine And.intro ?_ ?_) | (with_reducible intro _))); all_goals refine R.Lft.mk ?_; (all_goals (try (exact ⟨rfl, R.Own.below (by assumption)⟩))))
  refine R.WC_planO [(0, false), (2, false), (1, true), (3, true), (4, false), (5, false)] R.mixed (by decide +kernel) R.ohm ?_
  (refine R.stepV ?_; (repeat' (first | (with_reducible refine And.intro ?_ ?_) | (with_reducible intro _))); all_goals refine R.Lft.mk ?_; (all_goals (try (exact ⟨rfl, R.Own.below (by assumption)⟩))))
  refine R.WO_call2 rfl rfl R.vv R.vv ?_
  refine (less_i _ _ _ _ _ _ _ _ _ (R.Own.inp R.ohm R.memb) h3.symm h1 (by omega) (R.Own.inp R.ohm R.memb) h4.symm h2 (by omega)).mono ?_
  rintro e w' ⟨rfl, rfl⟩
  refine ⟨_, rfl, ?_⟩
  rw [h5, h6]
  (refine R.stepV ?_; (repeat' (first | (with_reducible refine And.intro ?_ ?_) | (with_reducible intro _))); all_goals refine R.Lft.mk ?_; (all_goals (try (exact ⟨rfl, R.Own.below (by assumption)⟩))))
  · rename_i h
    have hle : b.n ≤ a.n := by simpa using h
    refine R.WO_call2 rfl rfl R.vv R.vv ?_
    refine (minus_i _ _ _ _ _ _ _ _ _ (R.Own.inp R.ohm R.memb) h3.symm h1 (by omega) (R.Own.inp R.ohm R.memb) h4.symm h2 (by omega) (by omega)).mono ?_
    rintro e w' ⟨A1, c1, zs, rfl, hG, hn, hd, hv⟩
    have hM := R.Own.give R.ohm hG
    refine ⟨_, rfl, ?_⟩
    (refine R.stepV ?_; (repeat' (first | (with_reducible refine And.intro ?_ ?_) | (with_reducible intro _))); all_goals refine R.Lft.mk ?_; (all_goals (try (exact ⟨rfl, R.Own.below (by assumption)⟩))))
    have e1 : W (dv zs) = difW a b := Wd.ext_ (by rw [W_n (by have := a.lt; omega), hv, h5, h6]; exact (dif_of_le a.lt hle).symm)
    rw [e1, decide_eq_true hle]
    exact ⟨rfl, R.Own.below (by assumption)⟩
  · rename_i h _ _ _ _ _ _ _ _ _ _ hM
    have hlt : a.n < b.n := by simpa using h
    refine R.WO_call2 rfl rfl R.vv R.vv ?_
    refine (plus_i _ _ _ _ _ _ _ _ _ (R.Own.inp R.ohm R.memb) h3.symm h1 (by omega) (R.Own.inp hM (.head _)) (by simp) top_dig (by decide)).mono ?_
    rintro e w' ⟨A1, c1, n1, zs, rfl, hG, hn, hd, hv, hnm⟩
    rw [h5, show dv (List.replicate (Int.toNat 32) 0 ++ [1]) = W512 from top_val] at hv
    have hM := hM.give hG
    refine ⟨_, rfl, ?_⟩
    have hn1 : n1 ≤ 100 := Nat.le_trans hnm (by decide)
    have hb := b.lt
    (refine R.stepV ?_; (repeat' (first | (with_reducible refine And.intro ?_ ?_) | (with_reducible intro _))); all_goals refine R.Lft.mk ?_; (all_goals (try (exact ⟨rfl, R.Own.below (by assumption)⟩))))
    refine R.WO_call2 rfl rfl R.vv R.vv ?_
    refine (minus_i _ _ _ _ _ _ _ _ _ (R.Own.inp R.ohm R.memb) hn hd (by omega) (R.Own.inp R.ohm R.memb) h4.symm h2 (by omega) (by omega)).mono ?_
    rintro e w' ⟨A2, c2, ys, rfl, hG, hn2, hd2, hv2⟩
    have hM := R.Own.give R.ohm hG
    refine ⟨_, rfl, ?_⟩
    (refine R.stepV ?_; (repeat' (first | (with_reducible refine And.intro ?_ ?_) | (with_reducible intro _))); all_goals refine R.Lft.mk ?_; (all_goals (try (exact ⟨rfl, R.Own.below (by assumption)⟩))))
    have e1 : W (dv ys) = difW a b := Wd.ext_ (by
      show dv ys % W512 = dif a.n b.n
      rw [hv2, hv, h6]
      unfold dif
      rw [Nat.add_sub_assoc (by omega)])
    rw [e1, decide_eq_false (by omega)]
    exact ⟨rfl, R.Own.below (by assumption)⟩
instance con_sub3 (a b : Wd) : R.ConB Try.prog 47 #[.agg (cW a).toArray, .agg (cW b).toArray] Unit (fun _ _ => True) (fun _ => .tuple #[.agg (cW (difW a b)).toArray, .bool (decide (b.n ≤ a.n))]) := ⟨fun _ w _ => sub3 a b w⟩
end Go.Proofs.Ytalaffabcnccgaa
