/- snicketref03: numbers of eight words as digits and back. snicketref02: times, and the length in bits. snicketref03: shifting. -/
import Derived.Test.YtmoppmfbfpjdnaaGreatRf
namespace Go.Proofs.YtmoppmfbfpjdnaaGreat
open Go.RowKit
open R (In64 InU64 lo64 nth)

/-- The first k digits of a number. -/
def digsL (a k : Nat) : List Int := (List.range k).map fun i => ((a / 65536 ^ i % 65536 : Nat) : Int)
theorem digsL_len (a k : Nat) : (digsL a k).length = k := by simp [digsL]
theorem digsL_dig (a k : Nat) : DigI (digsL a k) := fun x hx => by
  obtain ⟨i, _, rfl⟩ := List.mem_map.1 hx
  have := Nat.mod_lt (a / 65536 ^ i) (show 0 < 65536 by decide)
  omega
theorem digsL_succ (a k : Nat) : digsL a (k + 1) = digsL a k ++ [((a / 65536 ^ k % 65536 : Nat) : Int)] := by simp [digsL, List.range_succ]
theorem dv_append (a b : List Int) : dv (a ++ b) = dv a + 65536 ^ a.length * dv b := by
  unfold dv
  rw [List.map_append, dval_append, List.length_map]
theorem dv_one (x : Int) : dv [x] = x.toNat := by simp [dv, dval]
theorem digsL_val (a k : Nat) : dv (digsL a k) = a % 65536 ^ k := by
  induction k with
  | zero => simp [digsL, dv, dval, Nat.mod_one]
  | succ k ih => rw [digsL_succ, dv_append, ih, digsL_len, dv_one, Int.toNat_natCast, Nat.pow_succ, Nat.mod_mul]
theorem pow16 (k : Nat) : 65536 ^ (4 * k) = 2 ^ (64 * k) := by
  rw [show 64 * k = 16 * (4 * k) by omega, Nat.pow_mul 2 16]
theorem dig4_digs (a k : Nat) : digsL a (4 * k) ++ dig4I ((wd a k : Nat) : Int) = digsL a (4 * (k + 1)) := by
  rw [show 4 * (k + 1) = 4 * k + 1 + 1 + 1 + 1 by omega, digsL_succ, digsL_succ, digsL_succ, digsL_succ]
  simp only [List.append_assoc, List.cons_append, List.nil_append]
  congr 1
  simp only [dig4I, dig4, Int.toNat_natCast, List.map_cons, List.map_nil, Int.ofNat_eq_natCast]
  simp only [Nat.pow_succ, ← Nat.div_div_eq_div_mul, pow16, wd]
  generalize a / 2 ^ (64 * k) = x
  simp only [List.cons.injEq, and_true]
  refine ⟨?_, ?_, ?_, ?_⟩ <;> omega
theorem wsz_dig (M : Nat) : wsz M = 65536 ^ (4 * M) := (pow16 M).symm
theorem W512_dig : ∃ N : Nat, N = 32 ∧ W512 = 65536 ^ N := ⟨4 * 8, rfl, wsz_dig 8⟩
theorem digsL_whole (a : Wd) : dv (digsL a.n 32) = a.n := by
  obtain ⟨N, hN, hw⟩ := W512_dig
  rw [← hN, digsL_val, ← hw, Nat.mod_eq_of_lt a.lt]
theorem digits3 (a : Wd) (w : World) : Calls Tryz.prog 29 #[.agg (cW a).toArray] w fun e w' => ∃ A c, e = .returned (.slice A 32 c) ∧ R.Gives w w' A 32 c 42 1 ((digsL a.n 32).flatMap R.cU) := by
  have hM := R.Own.start [] w
  refine R.calls_of_WC (fn := Tryz.f29) Tryz.func29 rfl Tryz.ntmps29 (Nat.le_of_ble_eq_true rfl) ?_
  (refine R.stepV ?_; (repeat' (first | (with_reducible refine And.intro ?_ ?_) | (with_reducible intro _))); all_goals refine R.Lft.mk ?_)
  rename_i g w1 _ A1 c1 w2 hM
  refine R.WC_loop (fun s : Nat × Option Addr × Nat => [(1, .pointer (some ⟨g, 0, none⟩)), (2, .slice none 0 0), (3, .slice s.2.1 (4 * s.1) s.2.2), (4, .int .i64 (s.1 : Nat))])
    (fun s w3 => s.1 ≤ 8 ∧ R.Own [] w w3 [.row s.2.1 (4 * s.1) s.2.2 42 1 ((digsL a.n (4 * s.1)).flatMap R.cU), .blk g 44 (cW a)]) (fun s => 8 - s.1)
    ⟨(0, A1, c1), ⟨rfl, rfl, rfl, rfl, trivial⟩, by omega, hM⟩ ?_
  rintro ⟨k, A2, c2⟩ f w3 ⟨hk, hM⟩
  dsimp only at hk hM ⊢
  by_cases hlt : k < 8
  · have hl := digsL_len a.n (4 * k)
    have hw := wd_range a.n k
    (refine R.stepV ?_; (repeat' (first | (with_reducible refine And.intro ?_ ?_) | (with_reducible intro _))); all_goals refine R.Lft.mk ?_)
    rename_i A3 c3 w5 hM
    rw [dig4_digs] at hM
    exact ⟨(k + 1, A3, c3), ⟨rfl, rfl, rfl, R.viaI rfl (by dsimp only; omega), trivial⟩, ⟨by dsimp only; omega, hM⟩, by dsimp only; omega⟩
  · obtain rfl : k = 8 := by omega
    (refine R.stepV ?_; (repeat' (first | (with_reducible refine And.intro ?_ ?_) | (with_reducible intro _))); all_goals refine R.Lft.mk ?_)
    exact ⟨_, _, rfl, hM.gives⟩
instance con_digits3 (a : Wd) : R.ConR Tryz.prog 29 #[.agg (cW a).toArray] Unit (fun _ _ => True) 42 1 (fun _ => 32) (fun _ => (digsL a.n 32).flatMap R.cU) := ⟨fun _ w _ => digits3 a w⟩
/-- A number made of digits. -/
theorem wide_round {n k : Nat} (hk : k < 8) : stW (W (n % wsz k)) k ((n / 65536 ^ (4 * k) % 18446744073709551616 : Nat) : Int) = W (n % wsz (k + 1)) := by
  have hlt : n % wsz k < W512 := Nat.lt_of_lt_of_le (Nat.mod_lt _ (wsz_pos k)) (wsz_le (by omega))
  have hlt2 : n % wsz (k + 1) < W512 := Nat.lt_of_lt_of_le (Nat.mod_lt _ (wsz_pos (k + 1))) (wsz_le (by omega))
  refine Wd.ext_ ?_
  rw [pow16]
  show (stW _ k ((wd n k : Nat) : Int)).n = _
  rw [stW_n hk (wd_range n k), W_n hlt, W_n hlt2, Int.toNat_natCast]
  have h1 : n % wsz k / wsz (k + 1) = 0 := Nat.div_eq_of_lt (Nat.lt_of_lt_of_le (Nat.mod_lt _ (wsz_pos k)) (wsz_le (by omega : k ≤ k + 1)))
  have h2 := mod_succ_word n k
  unfold setw
  simp only [wsz_eq] at h2 ⊢
  rw [h2, Nat.mod_mod, h1, Nat.mul_zero, Nat.add_zero]
theorem W_mod (n : Nat) : W (n % wsz 8) = W n := Wd.ext_ (Nat.mod_mod _ _)
theorem dv_take_succ (L : List Int) (i : Nat) : dv (L.take (i + 1)) = dv (L.take i) + 65536 ^ i * dg L i := by
  unfold dv dg
  rw [List.map_take, List.map_take, dval_take_succ]
theorem wide_fits {L : List Int} (hL : DigI L) (i : Nat) (h : 32 ≤ i) (hi : i < L.length) : decide (dv (L.take (i + 1)) < W512) = (decide (dv (L.take i) < W512) && decide (nth L i = 0)) := by
  obtain ⟨N, hN, hw⟩ := W512_dig
  have h1 : W512 ≤ 65536 ^ i := by rw [hw]; exact Nat.pow_le_pow_right (by decide) (by omega)
  rw [dv_take_succ, dg_nth hL hi]
  by_cases h0 : dg L i = 0
  · rw [h0]; simp
  · have : 65536 ^ i * 1 ≤ 65536 ^ i * dg L i := Nat.mul_le_mul_left _ (by omega)
    rw [decide_eq_false (by omega), decide_eq_false (by omega : ¬ ((dg L i : Nat) : Int) = 0), Bool.and_false]
theorem dv_take_lt {L : List Int} (hL : DigI L) (i : Nat) : dv (L.take i) < 65536 ^ i := by
  unfold dv
  rw [List.map_take]
  exact dval_take_lt hL.dig i
attribute [local irreducible] W512 in
set_option maxHeartbeats 1000000 in
theorem wide3 (A : Option Addr) (n c : Nat) (L : List Int) (w : World) (hA : R.Inp [] w A n 1 (L.flatMap R.cU)) (hn : n = L.length) (hd : DigI L) (hb : n ≤ 100000) :
    Calls Tryz.prog 63 #[.slice A n c] w fun e w' => e = .returned (.tuple #[.agg (cW (W (dv L))).toArray, .bool (decide (dv L < W512))]) ∧ Below w.heap.size w w' := by
  have hM := R.Own.start [] w
  refine R.calls_of_WC (fn := Tryz.f63) Tryz.func63 rfl Tryz.ntmps63 (Nat.le_of_ble_eq_true rfl) ?_
  (refine R.stepV ?_; (repeat' (first | (with_reducible refine And.intro ?_ ?_) | (with_reducible intro _))); all_goals refine R.Lft.mk ?_)
  rename_i g1 _ _ g2 _ _ w1 hM
  refine R.WC_loop (fun k : Nat => [(0, .slice A n c), (2, .pointer (some ⟨g1, 0, none⟩)), (3, .bool false), (4, .pointer (some ⟨g2, 0, none⟩)), (5, .int .i64 (k : Nat))])
    (fun k w2 => k ≤ 8 ∧ R.Own [] w w2 [.blk g2 44 (cW (W (dv L % wsz k))), .blk g1 44 (cW (W 0))]) (fun k => 8 - k)
    ⟨0, ⟨rfl, rfl, rfl, rfl, rfl, trivial⟩, by omega, by rw [show wsz 0 = 1 from rfl, Nat.mod_one]; exact hM⟩ ?_
  rintro k f w2 ⟨hk, hM⟩
  by_cases hlt : k < 8
  · have hwr := wide_round (n := dv L) hlt
    have hrng : InU64 ((dv L / 65536 ^ (4 * (k : Int)).toNat % 18446744073709551616 : Nat) : Int) := by
      have := Nat.mod_lt (dv L / 65536 ^ (4 * (k : Int)).toNat) (show 0 < 18446744073709551616 by decide)
      unfold InU64; omega
    (refine R.stepV ?_; (repeat' (first | (with_reducible refine And.intro ?_ ?_) | (with_reducible intro _))); all_goals refine R.Lft.mk ?_)
    rename_i w5 hM
    rw [show (4 * (k : Int)).toNat = 4 * k by omega, hwr] at hM
    exact ⟨k + 1, ⟨rfl, rfl, rfl, rfl, R.viaI rfl (by omega), trivial⟩, ⟨by omega, hM⟩, by omega⟩
  · obtain rfl : k = 8 := by omega
    rw [W_mod] at hM
    (refine R.stepV ?_; (repeat' (first | (with_reducible refine And.intro ?_ ?_) | (with_reducible intro _))); all_goals refine R.Lft.mk ?_)
    refine R.WC_loop (fun k : Nat => [(0, .slice A n c), (2, .pointer (some ⟨g1, 0, none⟩)), (3, .bool false), (4, .pointer (some ⟨g2, 0, none⟩)), (6, .bool (decide (dv (L.take k) < W512))), (7, .int .i64 (k : Nat))])
      (fun k w3 => 32 ≤ k ∧ k ≤ max n 32 ∧ R.Own [] w w3 [.blk g2 44 (cW (W (dv L))), .blk g1 44 (cW (W 0))]) (fun k => max n 32 - k)
      ⟨32, ⟨rfl, rfl, rfl, rfl, R.viaB rfl ?_, rfl, trivial⟩, by omega, by omega, hM⟩ ?_
    · obtain ⟨N, hN, hw⟩ := W512_dig
      have := dv_take_lt hd N
      rw [← hw] at this
      rw [← hN, decide_eq_true this]
    rintro k f w3 ⟨hk, hk2, hM⟩
    by_cases hlt : k < n
    · have hf := wide_fits hd k hk (by omega)
      (refine R.stepV ?_; (repeat' (first | (with_reducible refine And.intro ?_ ?_) | (with_reducible intro _))); all_goals refine R.Lft.mk ?_)
      · rename_i h
        rw [decide_eq_true h, Bool.true_and] at hf
        exact ⟨k + 1, ⟨rfl, rfl, rfl, rfl, R.viaB rfl hf.symm, R.viaI rfl (by omega), trivial⟩, ⟨by omega, by omega, by assumption⟩, by omega⟩
      · rename_i h
        rw [decide_eq_false h, Bool.false_and] at hf
        exact ⟨k + 1, ⟨rfl, rfl, rfl, rfl, R.viaB rfl hf.symm, R.viaI rfl (by omega), trivial⟩, ⟨by omega, by omega, by assumption⟩, by omega⟩
    · (refine R.stepV ?_; (repeat' (first | (with_reducible refine And.intro ?_ ?_) | (with_reducible intro _))); all_goals refine R.Lft.mk ?_)
      rw [List.take_of_length_le (by omega : L.length ≤ k)]
      exact ⟨rfl, R.Own.below (by assumption)⟩
instance con_wide3 (A : Option Addr) (n c : Nat) : R.ConB Tryz.prog 63 #[.slice A n c] (List Int) (fun L w => R.Inp [] w A n 1 (L.flatMap R.cU) ∧ n = L.length ∧ DigI L ∧ n ≤ 100000) (fun L => .tuple #[.agg (cW (W (dv L))).toArray, .bool (decide (dv L < W512))]) := ⟨fun L w h => wide3 A n c L w h.1 h.2.1 h.2.2.1 h.2.2.2⟩
/-! ### taking away -/
/-- What taking away has come to behind i rounds. -/
theorem minus_round {xs ys zs : List Int} {i k : Nat} (hx : DigI xs) (hy : DigI ys) (hz : DigI zs) (hk : k ≤ 1) (hl : zs.length = i) (h : dv zs + dv (ys.take i) = dv (xs.take i) + 65536 ^ i * k) :
    DigI (zs ++ [(((65536 + dg xs i - dg ys i - k) % 65536 : Nat) : Int)]) ∧ dv (zs ++ [(((65536 + dg xs i - dg ys i - k) % 65536 : Nat) : Int)]) + dv (ys.take (i + 1)) = dv (xs.take (i + 1)) + 65536 ^ (i + 1) * (1 - (65536 + dg xs i - dg ys i - k) / 65536) := by
  have h1 := dg_lt hx i
  have h2 := dg_lt hy i
  refine ⟨hz.append (DigI.one (by omega) (by omega)), ?_⟩
  rw [dv_append, dv_take_succ, dv_take_succ, hl, dv_one, Int.toNat_natCast, Nat.pow_succ]
  have h3 : (65536 + dg xs i - dg ys i - k) % 65536 + dg ys i + k = dg xs i + 65536 * (1 - (65536 + dg xs i - dg ys i - k) / 65536) := by omega
  generalize (65536 + dg xs i - dg ys i - k) % 65536 = r at *
  generalize 1 - (65536 + dg xs i - dg ys i - k) / 65536 = q at *
  have h4 : 65536 ^ i * (r + dg ys i + k) = 65536 ^ i * (dg xs i + 65536 * q) := by rw [h3]
  grind
theorem minus_end {xs ys zs : List Int} {k : Nat} (hx : DigI xs) (hz : DigI zs) (hl : zs.length = xs.length) (hk : k ≤ 1) (hle : dv ys ≤ dv xs) (h : dv zs + dv (ys.take xs.length) = dv (xs.take xs.length) + 65536 ^ xs.length * k) : dv zs = dv xs - dv ys := by
  have e : ys.take xs.length ++ ys.drop xs.length = ys := List.take_append_drop _ _
  have hs : dv ys = dv (ys.take xs.length) + 65536 ^ (ys.take xs.length).length * dv (ys.drop xs.length) := by rw [← dv_append, e]
  have h1 := dv_take_lt hx xs.length
  have h2 := dv_take_lt hz xs.length
  rw [List.take_length] at h1 h
  rw [← hl, List.take_length, hl] at h2
  rcases Nat.lt_or_ge xs.length ys.length with hlt | hge
  · rw [List.length_take, Nat.min_eq_left (by omega)] at hs
    have h3 : dv (ys.drop xs.length) = 0 := by
      rcases Nat.eq_zero_or_pos (dv (ys.drop xs.length)) with h4 | h4
      · exact h4
      · have : 65536 ^ xs.length * 1 ≤ 65536 ^ xs.length * dv (ys.drop xs.length) := Nat.mul_le_mul_left _ h4
        omega
    rw [h3] at hs
    rcases (by omega : k = 0 ∨ k = 1) with rfl | rfl <;> omega
  · rw [List.take_of_length_le hge] at h
    rcases (by omega : k = 0 ∨ k = 1) with rfl | rfl <;> omega
set_option maxHeartbeats 1000000 in
theorem minus_i (A B : Option Addr) (n c m d : Nat) (xs ys : List Int) (w : World) (hA : R.Inp [] w A n 1 (xs.flatMap R.cU)) (hn : n = xs.length) (hx : DigI xs) (hnb : n ≤ 100000) (hB : R.Inp [] w B m 1 (ys.flatMap R.cU)) (hm : m = ys.length) (hy : DigI ys) (_hmb : m ≤ 100000) (hle : dv ys ≤ dv xs) :
    Calls Tryz.prog 61 #[.slice A n c, .slice B m d] w fun e w' => ∃ A1 c1 zs, e = .returned (.slice A1 n c1) ∧ R.Gives w w' A1 n c1 42 1 (zs.flatMap R.cU) ∧ n = zs.length ∧ DigI zs ∧ dv zs = dv xs - dv ys := by
  have hM := R.Own.start [] w
  refine R.calls_of_WC (fn := Tryz.f61) Tryz.func61 rfl Tryz.ntmps61 (Nat.le_of_ble_eq_true rfl) ?_
  (refine R.stepV ?_; (repeat' (first | (with_reducible refine And.intro ?_ ?_) | (with_reducible intro _))); all_goals refine R.Lft.mk ?_)
  rename_i A1 c1 w1 hM
  refine R.WC_loop (fun s : Nat × List Int × Nat × Option Addr × Nat => [(0, .slice A n c), (1, .slice B m d), (4, .slice none 0 0), (5, .slice s.2.2.2.1 s.1 s.2.2.2.2), (6, .int .u64 (s.2.2.1 : Nat)), (7, .int .i64 (s.1 : Nat))])
    (fun s w2 => s.1 ≤ n ∧ s.2.1.length = s.1 ∧ DigI s.2.1 ∧ s.2.2.1 ≤ 1 ∧ dv s.2.1 + dv (ys.take s.1) = dv (xs.take s.1) + 65536 ^ s.1 * s.2.2.1 ∧ R.Own [] w w2 [.row s.2.2.2.1 s.1 s.2.2.2.2 42 1 (s.2.1.flatMap R.cU)]) (fun s => n - s.1)
    ⟨(0, [], 0, A1, c1), ⟨rfl, rfl, rfl, rfl, rfl, rfl, trivial⟩, by dsimp only; omega, rfl, DigI.nil, by dsimp only; omega, by simp [dv, dval], hM⟩ ?_
  rintro ⟨i, zs, k, A2, c2⟩ f w2 ⟨hi, hl, hz, hk, hv, hM⟩
  dsimp only at hi hl hz hk hv hM ⊢
  by_cases hlt : i < n
  · have hr := minus_round hx hy hz hk hl hv
    have e1 := dg_nth hx (i := i) (by omega)
    have e2 := dg_lt hx i
    have e3 := dg_lt hy (i : Int).toNat
    (refine R.stepV ?_; (repeat' (first | (with_reducible refine And.intro ?_ ?_) | (with_reducible intro _))); all_goals refine R.Lft.mk ?_)
    refine R.WC_planO [(0, false), (1, false), (2, false), (3, false), (4, false), (5, false), (6, false), (9, false), (7, true), (8, false), (10, false), (11, false)] R.mixed (by decide +kernel) R.ohm ?_
    (refine R.stepV ?_; (repeat' (first | (with_reducible refine And.intro ?_ ?_) | (with_reducible intro _))); all_goals refine R.Lft.mk ?_)
    rename_i A4 c4 w6 hM
    have e4 : (65536 + nth xs i - (dg ys (i : Int).toNat : Nat) - (k : Nat)) % 65536 = (((65536 + dg xs i - dg ys i - k) % 65536 : Nat) : Int) := by
      rw [e1, Int.toNat_natCast]
      rw [Int.toNat_natCast] at e3
      omega
    rw [e4] at hM
    refine ⟨(i + 1, zs ++ [(((65536 + dg xs i - dg ys i - k) % 65536 : Nat) : Int)], 1 - (65536 + dg xs i - dg ys i - k) / 65536, A4, c4), ⟨rfl, rfl, rfl, rfl, R.viaI rfl ?_, R.viaI rfl (by dsimp only; omega), trivial⟩, ⟨by dsimp only; omega, by simp [hl], hr.1, by dsimp only; omega, hr.2, hM⟩, by dsimp only; omega⟩
    rw [e1, Int.toNat_natCast]
    rw [Int.toNat_natCast] at e3
    dsimp only
    omega
  · obtain rfl : i = n := by omega
    (refine R.stepV ?_; (repeat' (first | (with_reducible refine And.intro ?_ ?_) | (with_reducible intro _))); all_goals refine R.Lft.mk ?_)
    refine ⟨_, _, zs, rfl, hM.gives, hl.symm, hz, ?_⟩
    subst hn
    exact minus_end hx hz hl hk hle hv
theorem top_dig : DigI (List.replicate 32 0 ++ [1]) := fun x hx => by
  rcases List.mem_append.1 hx with h | h
  · rw [List.eq_of_mem_replicate h]; omega
  · rw [List.mem_singleton.1 h]; omega
theorem top_val : dv (List.replicate 32 0 ++ [1]) = W512 := by
  obtain ⟨N, hN, hw⟩ := W512_dig
  have h0 : dv (List.replicate N 0) = 0 := by
    unfold dv
    rw [List.map_replicate]
    exact dval_replicate N
  rw [← hN, dv_append, h0, List.length_replicate, dv_one, hw]
  simp
end Go.Proofs.YtmoppmfbfpjdnaaGreat
namespace Go.Proofs.YtmoppmfbfpjdnaaGreat
open Go.RowKit
open R (In64 InU64 lo64 nth)

theorem DigI.set {L : List Int} (h : DigI L) (i : Nat) {v : Int} (h0 : 0 ≤ v) (h1 : v < 65536) : DigI (L.set i v) := fun x hx => by
  rcases List.mem_or_eq_of_mem_set hx with hx | rfl
  · exact h x hx
  · exact ⟨h0, h1⟩
theorem dv_set (L : List Int) (i : Nat) (v : Int) (hi : i < L.length) : dv (L.set i v) + 65536 ^ i * dg L i = dv L + 65536 ^ i * v.toNat := by
  unfold dv dg
  rw [List.map_set]
  exact dval_set _ i _ (by simpa using hi)
theorem dv_lt {L : List Int} (h : DigI L) : dv L < 65536 ^ L.length := by
  have := dv_take_lt h L.length
  rwa [List.take_length] at this
/-- The digit at a place, out of the number. -/
theorem dg_le (L : List Int) (i : Nat) : 65536 ^ i * dg L i ≤ dv L := by
  have h1 := dv_append (L.take (i + 1)) (L.drop (i + 1))
  rw [List.take_append_drop, dv_take_succ] at h1
  omega
theorem times_round {D ys : List Int} {i j k x P : Nat} (hj : i + j < D.length) (h : dv D + 65536 ^ (i + j) * k = P + 65536 ^ i * (x * dv (ys.take j))) :
    dv (D.set (i + j) (((dg D (i + j) + x * dg ys j + k) % 65536 : Nat) : Int)) + 65536 ^ (i + (j + 1)) * ((dg D (i + j) + x * dg ys j + k) / 65536) = P + 65536 ^ i * (x * dv (ys.take (j + 1))) := by
  have h1 := dv_set D (i + j) (((dg D (i + j) + x * dg ys j + k) % 65536 : Nat) : Int) hj
  rw [Int.toNat_natCast] at h1
  have h2 := Nat.div_add_mod (dg D (i + j) + x * dg ys j + k) 65536
  rw [dv_take_succ]
  generalize (dg D (i + j) + x * dg ys j + k) % 65536 = r at *
  generalize (dg D (i + j) + x * dg ys j + k) / 65536 = q at *
  have h3 : 65536 ^ (i + j) * (65536 * q + r) = 65536 ^ (i + j) * (dg D (i + j) + x * dg ys j + k) := by rw [h2]
  have h4 : 65536 ^ (i + (j + 1)) = 65536 ^ (i + j) * 65536 := by rw [← Nat.add_assoc, Nat.pow_succ]
  have h5 : 65536 ^ (i + j) = 65536 ^ i * 65536 ^ j := Nat.pow_add _ _ _
  have h6 : 65536 ^ (i + j) * (x * dg ys j) = 65536 ^ i * (x * (65536 ^ j * dg ys j)) := by rw [h5]; simp only [Nat.mul_assoc, Nat.mul_left_comm]
  rw [h4]
  simp only [Nat.mul_add] at h3 ⊢
  rw [Nat.mul_assoc]
  omega
theorem times_top {D xs ys : List Int} {i k : Nat} (hx : DigI xs) (hy : DigI ys) (hl : i + ys.length < D.length)
    (h : dv D + 65536 ^ (i + ys.length) * k = dv (xs.take i) * dv ys + 65536 ^ i * (dg xs i * dv ys)) :
    dg D (i + ys.length) + k < 65536 ∧ dv (D.set (i + ys.length) ((dg D (i + ys.length) + k : Nat) : Int)) = dv (xs.take (i + 1)) * dv ys := by
  have h1 := dv_take_succ xs i
  have h2 : dv (xs.take i) * dv ys + 65536 ^ i * (dg xs i * dv ys) = dv (xs.take (i + 1)) * dv ys := by rw [h1, Nat.add_mul, Nat.mul_assoc]
  rw [h2] at h
  have h3 := dv_take_lt hx (i + 1)
  have h4 := dv_lt hy
  have h5 : dv (xs.take (i + 1)) * dv ys < 65536 ^ (i + ys.length) * 65536 := by
    have : 65536 ^ (i + ys.length) * 65536 = 65536 ^ (i + 1) * 65536 ^ ys.length := by rw [← Nat.pow_succ, ← Nat.pow_add]; congr 1; omega
    rw [this]
    exact Nat.mul_lt_mul'' h3 h4
  have h6 := dg_le D (i + ys.length)
  have h7 := dv_set D (i + ys.length) ((dg D (i + ys.length) + k : Nat) : Int) hl
  rw [Int.toNat_natCast, Nat.mul_add] at h7
  refine ⟨?_, by omega⟩
  refine Nat.lt_of_mul_lt_mul_left (a := 65536 ^ (i + ys.length)) ?_
  rw [Nat.mul_add]
  omega
set_option maxHeartbeats 4000000 in
theorem times_i (A B : Option Addr) (n c m d : Nat) (xs ys : List Int) (w : World) (hA : R.Inp [] w A n 1 (xs.flatMap R.cU)) (hn : n = xs.length) (hx : DigI xs) (hnb : n ≤ 10000) (hB : R.Inp [] w B m 1 (ys.flatMap R.cU)) (hm : m = ys.length) (hy : DigI ys) (hmb : m ≤ 10000) :
    Calls Tryz.prog 62 #[.slice A n c, .slice B m d] w fun e w' => ∃ A1 zs, e = .returned (.slice A1 (n + m) (n + m)) ∧ R.Gives w w' A1 (n + m) (n + m) 42 1 (zs.flatMap R.cU) ∧ n + m = zs.length ∧ DigI zs ∧ dv zs = dv xs * dv ys := by
  have hM := R.Own.start [] w
  refine R.calls_of_WC (fn := Tryz.f62) Tryz.func62 rfl Tryz.ntmps62 (Nat.le_of_ble_eq_true rfl) ?_
  (refine R.stepV ?_; (repeat' (first | (with_reducible refine And.intro ?_ ?_) | (with_reducible intro _))); all_goals refine R.Lft.mk ?_)
  rename_i A1 w1 hM
  refine R.WC_loop (fun s : Nat × List Int => [(0, .slice A n c), (1, .slice B m d), (4, .slice none 0 0), (5, .slice A1 (n + m) (n + m)), (6, .int .i64 (s.1 : Nat))])
    (fun s w2 => s.1 ≤ n ∧ s.2.length = n + m ∧ DigI s.2 ∧ dv s.2 = dv (xs.take s.1) * dv ys ∧ R.Own [] w w2 [.row A1 (n + m) (n + m) 42 1 (s.2.flatMap R.cU)]) (fun s => n - s.1)
    ⟨(0, List.replicate (n + m) 0), ⟨rfl, rfl, rfl, rfl, rfl, trivial⟩, by dsimp only; omega, by simp, fun x hx => by rw [List.eq_of_mem_replicate hx]; omega, ?_, hM⟩ ?_
  · simp [dv, dval, dval_replicate]
  rintro ⟨i, D⟩ f w2 ⟨hi, hl, hd, hv, hM⟩
  dsimp only at hi hl hd hv hM ⊢
  by_cases hlt : i < n
  · have e1 := dg_nth hx (i := i) (by omega)
    have e2 := dg_lt hx i
    (refine R.stepV ?_; (repeat' (first | (with_reducible refine And.intro ?_ ?_) | (with_reducible intro _))); all_goals refine R.Lft.mk ?_)
    · rename_i h0
      refine ⟨(i + 1, D), ⟨rfl, rfl, rfl, rfl, R.viaI rfl (by dsimp only; omega), trivial⟩, ⟨by dsimp only; omega, hl, hd, ?_, hM⟩, by dsimp only; omega⟩
      dsimp only
      rw [hv, dv_take_succ, show dg xs i = 0 by omega, Nat.mul_zero, Nat.add_zero]
    refine R.WC_loop (fun s : Nat × List Int × Nat => [(0, .slice A n c), (1, .slice B m d), (4, .slice none 0 0), (5, .slice A1 (n + m) (n + m)), (6, .int .i64 (i : Nat)), (7, .int .u64 (s.2.2 : Nat)), (8, .int .i64 (s.1 : Nat))])
      (fun s w2 => s.1 ≤ m ∧ s.2.1.length = n + m ∧ DigI s.2.1 ∧ s.2.2 < 65536 ∧ dv s.2.1 + 65536 ^ (i + s.1) * s.2.2 = dv (xs.take i) * dv ys + 65536 ^ i * (dg xs i * dv (ys.take s.1)) ∧ R.Own [] w w2 [.row A1 (n + m) (n + m) 42 1 (s.2.1.flatMap R.cU)]) (fun s => m - s.1)
      ⟨(0, D, 0), ⟨rfl, rfl, rfl, rfl, rfl, rfl, rfl, trivial⟩, by dsimp only; omega, hl, hd, by dsimp only; omega, by rw [hv]; simp [dv, dval], hM⟩ ?_
    clear hM hl hd hv
    rintro ⟨j, D, k⟩ f w2 ⟨hj, hl, hd, hk, hv, hM⟩
    dsimp only at hj hl hd hk hv hM ⊢
    by_cases hjlt : j < m
    · have f1 := dg_nth hy (i := j) (by omega)
      have f2 := dg_lt hy j
      have f3 := dg_nth hd (i := i + j) (by omega)
      have f4 := dg_lt hd (i + j)
      have f5 : nth xs i * nth ys j = ((dg xs i * dg ys j : Nat) : Int) := by rw [e1, f1, Int.natCast_mul]
      have f6 : dg xs i * dg ys j ≤ 65535 * 65535 := Nat.mul_le_mul (by omega) (by omega)
      have hr := times_round (x := dg xs i) (P := dv (xs.take i) * dv ys) (by omega) hv
      (refine R.stepV ?_; (repeat' (first | (with_reducible refine And.intro ?_ ?_) | (with_reducible intro _))); all_goals refine R.Lft.mk ?_)
      rename_i w6 hM
      have g1 : (nth D (i + j) + nth xs i * nth ys j + (k : Nat)) = ((dg D (i + j) + dg xs i * dg ys j + k : Nat) : Int) := by rw [f5, f3]; omega
      have g2 : (nth D (i + j) + nth xs i * nth ys j + (k : Nat)) % 65536 = (((dg D (i + j) + dg xs i * dg ys j + k) % 65536 : Nat) : Int) := by rw [g1]; omega
      rw [g2] at hM
      refine ⟨(j + 1, D.set (i + j) (((dg D (i + j) + dg xs i * dg ys j + k) % 65536 : Nat) : Int), (dg D (i + j) + dg xs i * dg ys j + k) / 65536), ⟨rfl, rfl, rfl, rfl, rfl, R.viaI rfl ?_, R.viaI rfl (by dsimp only; omega), trivial⟩,
        ⟨by dsimp only; omega, by simp [hl], hd.set _ (by omega) (by omega), by dsimp only; omega, hr, hM⟩, by dsimp only; omega⟩
      rw [g1]
      dsimp only
      omega
    · obtain rfl : j = m := by omega
      have ht := times_top (k := k) hx hy (by omega : i + ys.length < D.length) (by rw [← hm]; rw [hm, List.take_length, ← hm] at hv; exact hv)
      rw [← hm] at ht
      have f3 := dg_nth hd (i := i + j) (by omega)
      have f4 := dg_lt hd (i + j)
      (refine R.stepV ?_; (repeat' (first | (with_reducible refine And.intro ?_ ?_) | (with_reducible intro _))); all_goals refine R.Lft.mk ?_)
      rename_i w6 hM
      rw [show nth D (i + j) + (k : Nat) = ((dg D (i + j) + k : Nat) : Int) by rw [f3]; omega] at hM
      exact ⟨(i + 1, D.set (i + j) ((dg D (i + j) + k : Nat) : Int)), ⟨rfl, rfl, rfl, rfl, R.viaI rfl (by dsimp only; omega), trivial⟩, ⟨by dsimp only; omega, by simp [hl], hd.set _ (by omega) (by omega), ht.2, hM⟩, by dsimp only; omega⟩
  · obtain rfl : i = n := by omega
    (refine R.stepV ?_; (repeat' (first | (with_reducible refine And.intro ?_ ?_) | (with_reducible intro _))); all_goals refine R.Lft.mk ?_)
    refine ⟨_, D, rfl, hM.gives, hl.symm, hd, ?_⟩
    rw [hv, hn, List.take_length]
theorem bitLen_at {x k : Nat} (h1 : 2 ^ k ≤ x) (h2 : x < 2 ^ (k + 1)) : bitLen x = k + 1 := by
  have h0 : x ≠ 0 := by have := Nat.two_pow_pos k; omega
  obtain ⟨h3, h4⟩ := bitLen_spec x
  have h4 := h4 h0
  have u1 := (Nat.pow_lt_pow_iff_right (by omega : 1 < 2)).1 (Nat.lt_of_le_of_lt h1 h3)
  have u2 := (Nat.pow_lt_pow_iff_right (by omega : 1 < 2)).1 (Nat.lt_of_le_of_lt h4 h2)
  omega
theorem len_found {L : List Int} {i b : Nat} (hL : DigI L) (h : dv (L.take (i + 1)) = dv L) (h1 : dg L i / 2 ^ (b + 1) = 0) (h2 : dg L i / 2 ^ b % 2 = 1) : bitLen (dv L) = 16 * i + b + 1 := by
  have h3 := dv_take_succ L i
  rw [h] at h3
  have h4 := dv_take_lt hL i
  have h5 : dg L i < 2 ^ (b + 1) := by
    rcases Nat.lt_or_ge (dg L i) (2 ^ (b + 1)) with h6 | h6
    · exact h6
    · have := Nat.div_pos h6 (Nat.two_pow_pos _); omega
  have h6 : 2 ^ b ≤ dg L i := by
    rcases Nat.lt_or_ge (dg L i) (2 ^ b) with h7 | h7
    · rw [Nat.div_eq_of_lt h7] at h2; omega
    · exact h7
  have e : 65536 ^ i = 2 ^ (16 * i) := by rw [Nat.pow_mul]
  have h7 : 65536 ^ i * 2 ^ b ≤ 65536 ^ i * dg L i := Nat.mul_le_mul_left _ h6
  have h8 : 65536 ^ i * (dg L i + 1) ≤ 65536 ^ i * 2 ^ (b + 1) := Nat.mul_le_mul_left _ h5
  rw [Nat.mul_add, Nat.mul_one] at h8
  rw [show 65536 ^ i * 2 ^ b = 2 ^ (16 * i + b) by rw [e, Nat.pow_add]] at h7
  rw [show 65536 ^ i * 2 ^ (b + 1) = 2 ^ (16 * i + b + 1) by rw [e, ← Nat.pow_add]; rfl] at h8
  exact bitLen_at (by omega) (by omega)
set_option maxHeartbeats 1000000 in
theorem len2 (A : Option Addr) (n c : Nat) (L : List Int) (w : World) (hA : R.Inp [] w A n 1 (L.flatMap R.cU)) (hn : n = L.length) (hd : DigI L) (hb : n ≤ 100000) :
    Calls Tryz.prog 58 #[.slice A n c] w fun e w' => e = .returned (.int .i64 (bitLen (dv L) : Nat)) ∧ Below w.heap.size w w' := by
  have hM := R.Own.start [] w
  refine R.calls_of_WC (fn := Tryz.f58) Tryz.func58 rfl Tryz.ntmps58 (Nat.le_of_ble_eq_true rfl) ?_
  (refine R.stepV ?_; (repeat' (first | (with_reducible refine And.intro ?_ ?_) | (with_reducible intro _))); all_goals refine R.Lft.mk ?_)
  refine R.WC_loop (fun k : Nat => [(0, .slice A n c), (2, .int .i64 0), (3, .int .i64 ((k : Int) - 1))])
    (fun k w1 => k ≤ n ∧ dv (L.take k) = dv L ∧ R.Own [] w w1 []) (fun k => k) ⟨n, ⟨rfl, rfl, rfl, trivial⟩, Nat.le_refl _, by rw [hn, List.take_length], hM⟩ ?_
  rintro k f w1 ⟨hk, hv, hM⟩
  rcases k with _ | i
  · have h0 : dv L = 0 := by rw [← hv]; simp [dv, dval]
    (refine R.stepV ?_; (repeat' (first | (with_reducible refine And.intro ?_ ?_) | (with_reducible intro _))); all_goals refine R.Lft.mk ?_)
    rw [h0]
    exact ⟨by rw [show bitLen 0 = 0 from rfl]; rfl, hM.below⟩
  · have e1 := dg_nth hd (i := i) (by omega)
    have e2 := dg_lt hd i
    have e3 : (((i + 1 : Nat) : Int) - 1) = (i : Nat) := by omega
    rw [e3]
    (refine R.stepV ?_; (repeat' (first | (with_reducible refine And.intro ?_ ?_) | (with_reducible intro _))); all_goals refine R.Lft.mk ?_)
    refine R.WC_loop (fun b : Nat => [(0, .slice A n c), (2, .int .i64 0), (3, .int .i64 (i : Nat)), (4, .int .i64 ((b : Int) - 1))])
      (fun b w1 => b ≤ 16 ∧ dg L i / 2 ^ b = 0 ∧ R.Own [] w w1 []) (fun b => b) ⟨16, ⟨rfl, rfl, rfl, rfl, trivial⟩, Nat.le_refl _, by rw [show (2 : Nat) ^ 16 = 65536 from rfl]; omega, hM⟩ ?_
    rintro b f w1 ⟨hb16, hz, hM⟩
    rcases b with _ | b
    · rw [Nat.pow_zero, Nat.div_one] at hz
      (refine R.stepV ?_; (repeat' (first | (with_reducible refine And.intro ?_ ?_) | (with_reducible intro _))); all_goals refine R.Lft.mk ?_)
      refine ⟨i, ⟨rfl, rfl, R.viaI rfl (by omega), trivial⟩, ⟨by omega, ?_, hM⟩, by omega⟩
      rw [← hv, dv_take_succ, hz, Nat.mul_zero, Nat.add_zero]
    · have e4 : (((b + 1 : Nat) : Int) - 1) = (b : Nat) := by omega
      rw [e4]
      have e5 : nth L i / 2 ^ (b : Int).toNat = ((dg L i / 2 ^ b : Nat) : Int) := by rw [e1, Int.toNat_natCast]; norm_cast
      obtain ⟨q, hq⟩ : ∃ q, dg L i / 2 ^ b = q := ⟨_, rfl⟩
      rw [hq] at e5
      have hq2 : q ≤ 65535 := by rw [← hq]; exact Nat.le_trans (Nat.div_le_self _ _) (by omega)
      (refine R.stepV ?_; (repeat' (first | (with_reducible refine And.intro ?_ ?_) | (with_reducible intro _))); all_goals refine R.Lft.mk ?_)
      · rename_i h
        have := len_found hd hv hz (by rw [hq]; omega)
        rw [this, show ((16 * i + b + 1 : Nat) : Int) = 16 * (i : Int) + b + 1 by omega]
        exact ⟨rfl, R.Own.below (by assumption)⟩
      · rename_i h
        refine ⟨b, ⟨rfl, rfl, rfl, R.viaI rfl (by omega), trivial⟩, ⟨by omega, ?_, hM⟩, by omega⟩
        rw [Nat.pow_succ, ← Nat.div_div_eq_div_mul, hq] at hz
        rw [hq]
        omega
instance con_len2 (A : Option Addr) (n c : Nat) : R.ConB Tryz.prog 58 #[.slice A n c] (List Int) (fun L w => R.Inp [] w A n 1 (L.flatMap R.cU) ∧ n = L.length ∧ DigI L ∧ n ≤ 100000) (fun L => .int .i64 (bitLen (dv L) : Nat)) := ⟨fun L w h => len2 A n c L w h.1 h.2.1 h.2.2.1 h.2.2.2⟩
end Go.Proofs.YtmoppmfbfpjdnaaGreat
namespace Go.Proofs.YtmoppmfbfpjdnaaGreat
open Go.RowKit
open R (In64 InU64 lo64 nth)

/-- Where the bit comes from that lands at i. -/
def frm (c : Int) (i : Nat) : Int := if -512 < c ∧ c < 512 then (i : Int) - c else 512
theorem bit_zero {a n : Nat} (ha : a < W512) (h : 512 ≤ n) : a / 2 ^ n = 0 := by
  obtain ⟨N, hN, hw⟩ := W512_pow
  refine Nat.div_eq_of_lt (Nat.lt_of_lt_of_le ha ?_)
  rw [hw]
  exact Nat.pow_le_pow_right (by decide) (by omega)
theorem mod_bit (x i N : Nat) (h : i < N) : x % 2 ^ N / 2 ^ i % 2 = x / 2 ^ i % 2 := by
  obtain ⟨d, rfl⟩ : ∃ d, N = i + 1 + d := ⟨N - i - 1, by omega⟩
  have e : 2 ^ (i + 1 + d) = 2 ^ i * (2 * 2 ^ d) := by rw [Nat.pow_add, Nat.pow_succ, Nat.mul_assoc]
  rw [e, Nat.mod_mul_right_div_self, Nat.mod_mul_right_mod]
theorem shI_bit (a : Wd) (c : Int) (i : Nat) (hi : i < 512) : shI a.n c / 2 ^ i % 2 = if 0 ≤ frm c i ∧ frm c i < 512 then a.n / 2 ^ (frm c i).toNat % 2 else 0 := by
  obtain ⟨N, hN, hw⟩ := W512_pow
  unfold shI
  by_cases hc : c < 0
  · rw [if_pos hc, Nat.div_div_eq_div_mul, ← Nat.pow_add]
    unfold frm
    by_cases h1 : -512 < c
    · rw [if_pos (show -512 < c ∧ c < 512 by omega), show ((i : Int) - c).toNat = (-c).toNat + i by omega]
      by_cases h2 : (i : Int) - c < 512
      · rw [if_pos (by omega)]
      · rw [if_neg (by omega), bit_zero a.lt (by omega)]
    · rw [if_neg (show ¬ (-512 < c ∧ c < 512) by omega), if_neg (by omega), bit_zero a.lt (by omega)]
  · rw [if_neg hc, hw, mod_bit _ _ _ (by omega)]
    unfold frm
    by_cases h1 : c < 512
    · rw [if_pos (show -512 < c ∧ c < 512 by omega)]
      by_cases h2 : 0 ≤ (i : Int) - c
      · rw [if_pos (by omega)]
        obtain ⟨d, hd⟩ : ∃ d, i = d + c.toNat := ⟨i - c.toNat, by omega⟩
        rw [show ((i : Int) - c).toNat = d by omega, hd, Nat.pow_add, Nat.mul_div_mul_right _ _ (Nat.two_pow_pos _)]
      · rw [if_neg (by omega)]
        obtain ⟨d, hd⟩ : ∃ d, c.toNat = i + 1 + d := ⟨c.toNat - i - 1, by omega⟩
        rw [hd, show a.n * 2 ^ (i + 1 + d) = 2 ^ i * (2 * (a.n * 2 ^ d)) by rw [Nat.pow_add, Nat.pow_succ]; simp only [Nat.mul_assoc, Nat.mul_left_comm, Nat.mul_comm], Nat.mul_div_cancel_left _ (Nat.two_pow_pos _), Nat.mul_mod_right]
    · rw [if_neg (show ¬ (-512 < c ∧ c < 512) by omega), if_neg (by omega)]
      obtain ⟨d, hd⟩ : ∃ d, c.toNat = i + 1 + d := ⟨c.toNat - i - 1, by omega⟩
      rw [hd, show a.n * 2 ^ (i + 1 + d) = 2 ^ i * (2 * (a.n * 2 ^ d)) by rw [Nat.pow_add, Nat.pow_succ]; simp only [Nat.mul_assoc, Nat.mul_left_comm, Nat.mul_comm], Nat.mul_div_cancel_left _ (Nat.two_pow_pos _), Nat.mul_mod_right]
theorem pow_split (i : Nat) : 2 ^ i = 65536 ^ (i / 16) * 2 ^ (i % 16) := by
  rw [show (65536 : Nat) = 2 ^ 16 from rfl, ← Nat.pow_mul, ← Nat.pow_add]
  congr 1
  omega
/-- A bit is put. -/
theorem put_bit {E : List Int} {s i : Nat} (hl : i / 16 < E.length) (h : dv E = s % 2 ^ i) :
    dg E (i / 16) + 2 ^ (i % 16) < 65536 ∧ dv (E.set (i / 16) ((dg E (i / 16) + 2 ^ (i % 16) : Nat) : Int)) = s % 2 ^ i + 2 ^ i := by
  have h1 := dv_set E (i / 16) ((dg E (i / 16) + 2 ^ (i % 16) : Nat) : Int) hl
  have h2 := dg_le E (i / 16)
  have h3 := Nat.mod_lt s (Nat.two_pow_pos i)
  have h4 := pow_split i
  rw [Int.toNat_natCast, Nat.mul_add] at h1
  have h5 : dg E (i / 16) < 2 ^ (i % 16) := by
    refine Nat.lt_of_mul_lt_mul_left (a := 65536 ^ (i / 16)) ?_
    rw [← h4]
    omega
  have h6 : 2 ^ (i % 16) ≤ 2 ^ 15 := Nat.pow_le_pow_right (by decide) (by omega)
  rw [show (2 : Nat) ^ 15 = 32768 from rfl] at h6
  exact ⟨by omega, by omega⟩
theorem bit_take (s i : Nat) : s % 2 ^ (i + 1) = s % 2 ^ i + 2 ^ i * (s / 2 ^ i % 2) := by rw [Nat.pow_succ, Nat.mod_mul]
theorem digs_bit (a : Nat) {n : Nat} (h : n < 512) : dg (digsL a 32) (n / 16) / 2 ^ (n % 16) % 2 = a / 2 ^ n % 2 := by
  have e : dg (digsL a 32) (n / 16) = a / 65536 ^ (n / 16) % 65536 := by
    unfold dg digsL
    rw [List.map_map, List.getD_eq_getElem?_getD, List.getElem?_map, List.getElem?_range (by omega)]
    exact Int.toNat_natCast _
  rw [e, show (65536 : Nat) = 2 ^ 16 from rfl, mod_bit _ _ _ (by omega), Nat.div_div_eq_div_mul, ← Nat.pow_mul, ← Nat.pow_add]
  congr 3
  omega
/-- The low bits. -/
def lowb (s i : Nat) : Nat := s % 2 ^ i
theorem row_cap {F : List Nat} {W w : World} {l : List R.Res} {A : Option Addr} {n c : Nat} {e : TypeId} {sz : Nat} {cs : List Value} (hM : R.Own F W w l) (hm : .row A n c e sz cs ∈ l) : n ≤ c := by
  have h := hM.ok _ hm
  rcases h.2 with ⟨h1, h2⟩ | ⟨g, cap, cur, h1, _, _, h2, _⟩
  · omega
  · cases h1; exact h2
end Go.Proofs.YtmoppmfbfpjdnaaGreat
