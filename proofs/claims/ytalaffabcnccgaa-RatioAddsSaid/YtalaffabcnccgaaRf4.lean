/- snicketref02: times, and the length in bits. -/
import Derived.Test.YtalaffabcnccgaaRf3
namespace Go.Proofs.Ytalaffabcnccgaa
open Go.RowKit
open R (In64 InU64 lo64 nth)

theorem DigI.set {L : List Int} (h : DigI L) (i : Nat) {v : Int} (h0 : 0 ≤ v) (h1 : v < 65536) : DigI (L.set i v) := fun x hx => by
  rcases List.mem_or_eq_of_mem_set hx with hx | rfl
  · exact h x hx
  · exact ⟨h0, h1⟩
theorem dv_set (L : List Int) (i : Nat) (v : Int) (hi : i < L.length) : dv (L.set i v) + 65536 ^ i * dg L i = dv L + 65536 ^ i * v.toNat := by
  unfold dv dg
  rw [List.map_set]
  exact dval_set _ i _ (by simpa using hi)
theorem dv_lt {L : List Int} (h : DigI L) : dv L < 65536 ^ L.length := by
  have := dv_take_lt h L.length
  rwa [List.take_length] at this
/-- The digit at a place, out of the number. -/
theorem dg_le (L : List Int) (i : Nat) : 65536 ^ i * dg L i ≤ dv L := by
  have h1 := dv_append (L.take (i + 1)) (L.drop (i + 1))
  rw [List.take_append_drop, dv_take_succ] at h1
  omega
theorem times_round {D ys : List Int} {i j k x P : Nat} (hj : i + j < D.length) (h : dv D + 65536 ^ (i + j) * k = P + 65536 ^ i * (x * dv (ys.take j))) :
    dv (D.set (i + j) (((dg D (i + j) + x * dg ys j + k) % 65536 : Nat) : Int)) + 65536 ^ (i + (j + 1)) * ((dg D (i + j) + x * dg ys j + k) / 65536) = P + 65536 ^ i * (x * dv (ys.take (j + 1))) := by
  have h1 := dv_set D (i + j) (((dg D (i + j) + x * dg ys j + k) % 65536 : Nat) : Int) hj
  rw [Int.toNat_natCast] at h1
  have h2 := Nat.div_add_mod (dg D (i + j) + x * dg ys j + k) 65536
  rw [dv_take_succ]
  generalize (dg D (i + j) + x * dg ys j + k) % 65536 = r at *
  generalize (dg D (i + j) + x * dg ys j + k) / 65536 = q at *
  have h3 : 65536 ^ (i + j) * (65536 * q + r) = 65536 ^ (i + j) * (dg D (i + j) + x * dg ys j + k) := by rw [h2]
  have h4 : 65536 ^ (i + (j + 1)) = 65536 ^ (i + j) * 65536 := by rw [← Nat.add_assoc, Nat.pow_succ]
  have h5 : 65536 ^ (i + j) = 65536 ^ i * 65536 ^ j := Nat.pow_add _ _ _
  have h6 : 65536 ^ (i + j) * (x * dg ys j) = 65536 ^ i * (x * (65536 ^ j * dg ys j)) := by rw [h5]; simp only [Nat.mul_assoc, Nat.mul_left_comm]
  rw [h4]
  simp only [Nat.mul_add] at h3 ⊢
  rw [Nat.mul_assoc]
  omega
theorem times_top {D xs ys : List Int} {i k : Nat} (hx : DigI xs) (hy : DigI ys) (hl : i + ys.length < D.length)
    (h : dv D + 65536 ^ (i + ys.length) * k = dv (xs.take i) * dv ys + 65536 ^ i * (dg xs i * dv ys)) :
    dg D (i + ys.length) + k < 65536 ∧ dv (D.set (i + ys.length) ((dg D (i + ys.length) + k : Nat) : Int)) = dv (xs.take (i + 1)) * dv ys := by
  have h1 := dv_take_succ xs i
  have h2 : dv (xs.take i) * dv ys + 65536 ^ i * (dg xs i * dv ys) = dv (xs.take (i + 1)) * dv ys := by rw [h1, Nat.add_mul, Nat.mul_assoc]
  rw [h2] at h
  have h3 := dv_take_lt hx (i + 1)
  have h4 := dv_lt hy
  have h5 : dv (xs.take (i + 1)) * dv ys < 65536 ^ (i + ys.length) * 65536 := by
    have : 65536 ^ (i + ys.length) * 65536 = 65536 ^ (i + 1) * 65536 ^ ys.length := by rw [← Nat.pow_succ, ← Nat.pow_add]; congr 1; omega
    rw [this]
    exact Nat.mul_lt_mul'' h3 h4
  have h6 := dg_le D (i + ys.length)
  have h7 := dv_set D (i + ys.length) ((dg D (i + ys.length) + k : Nat) : Int) hl
  rw [Int.toNat_natCast, Nat.mul_add] at h7
  refine ⟨?_, by omega⟩
  refine Nat.lt_of_mul_lt_mul_left (a := 65536 ^ (i + ys.length)) ?_
  rw [Nat.mul_add]
  omega
set_option maxHeartbeats 4000000 in
theorem times_i (A B : Option Addr) (n c m d : Nat) (xs ys : List Int) (w : World) (hA : R.Inp [] w A n 1 (xs.flatMap R.cU)) (hn : n = xs.length) (hx : DigI xs) (hnb : n ≤ 10000) (hB : R.Inp [] w B m 1 (ys.flatMap R.cU)) (hm : m = ys.length) (hy : DigI ys) (hmb : m ≤ 10000) :
    Calls Try.prog 30 #[.slice A n c, .slice B m d] w fun e w' => ∃ A1 zs, e = .returned (.slice A1 (n + m) (n + m)) ∧ R.Gives w w' A1 (n + m) (n + m) 22 1 (zs.flatMap R.cU) ∧ n + m = zs.length ∧ DigI zs ∧ dv zs = dv xs * dv ys := by
  have hM := R.Own.start [] w
  refine R.calls_of_WC (fn := Try.f30) Try.func30 rfl Try.ntmps30 (Nat.le_of_ble_eq_true rfl) ?_
  (refine R.stepV ?_; (repeat' (first | (with_reducible refine And.intro ?_ ?_) | (with_reducible intro _))); all_goals refine R.Lft.mk ?_)
  rename_i A1 w1 hM
  refine R.WC_loop (fun s : Nat × List Int => [(0, .slice A n c), (1, .slice B m d), (4, .slice none 0 0), (5, .slice A1 (n + m) (n + m)), (6, .int .i64 (s.1 : Nat))])
    (fun s w2 => s.1 ≤ n ∧ s.2.length = n + m ∧ DigI s.2 ∧ dv s.2 = dv (xs.take s.1) * dv ys ∧ R.Own [] w w2 [.row A1 (n + m) (n + m) 22 1 (s.2.flatMap R.cU)]) (fun s => n - s.1)
    ⟨(0, List.replicate (n + m) 0), ⟨rfl, rfl, rfl, rfl, rfl, trivial⟩, by dsimp only; omega, by simp, fun x hx => by rw [List.eq_of_mem_replicate hx]; omega, ?_, hM⟩ ?_
  · simp [dv, dval, dval_replicate]
  rintro ⟨i, D⟩ f w2 ⟨hi, hl, hd, hv, hM⟩
  dsimp only at hi hl hd hv hM ⊢
  by_cases hlt : i < n
  · have e1 := dg_nth hx (i := i) (by omega)
    have e2 := dg_lt hx i
    (refine R.stepV ?_; (repeat' (first | (with_reducible refine And.intro ?_ ?_) | (with_reducible intro _))); all_goals refine R.Lft.mk ?_)
    · rename_i h0
      refine ⟨(i + 1, D), ⟨rfl, rfl, rfl, rfl, R.viaI rfl (by dsimp only; omega), trivial⟩, ⟨by dsimp only; omega, hl, hd, ?_, hM⟩, by dsimp only; omega⟩
      dsimp only
      rw [hv, dv_take_succ, show dg xs i = 0 by omega, Nat.mul_zero, Nat.add_zero]
    refine R.WC_loop (fun s : Nat × List Int × Nat => [(0, .slice A n c), (1, .slice B m d), (4, .slice none 0 0), (5, .slice A1 (n + m) (n + m)), (6, .int .i64 (i : Nat)), (7, .int .u64 (s.2.2 : Nat)), (8, .int .i64 (s.1 : Nat))])
      (fun s w2 => s.1 ≤ m ∧ s.2.1.length = n + m ∧ DigI s.2.1 ∧ s.2.2 < 65536 ∧ dv s.2.1 + 65536 ^ (i + s.1) * s.2.2 = dv (xs.take i) * dv ys + 65536 ^ i * (dg xs i * dv (ys.take s.1)) ∧ R.Own [] w w2 [.row A1 (n + m) (n + m) 22 1 (s.2.1.flatMap R.cU)]) (fun s => m - s.1)
      ⟨(0, D, 0), ⟨rfl, rfl, rfl, rfl, rfl, rfl, rfl, trivial⟩, by dsimp only; omega, hl, hd, by dsimp only; omega, by rw [hv]; simp [dv, dval], hM⟩ ?_
    clear hM hl hd hv
    rintro ⟨j, D, k⟩ f w2 ⟨hj, hl, hd, hk, hv, hM⟩
    dsimp only at hj hl hd hk hv hM ⊢
    by_cases hjlt : j < m
    · have f1 := dg_nth hy (i := j) (by omega)
      have f2 := dg_lt hy j
      have f3 := dg_nth hd (i := i + j) (by omega)
      have f4 := dg_lt hd (i + j)
      have f5 : nth xs i * nth ys j = ((dg xs i * dg ys j : Nat) : Int) := by rw [e1, f1, Int.natCast_mul]
      have f6 : dg xs i * dg ys j ≤ 65535 * 65535 := Nat.mul_le_mul (by omega) (by omega)
      have hr := times_round (x := dg xs i) (P := dv (xs.take i) * dv ys) (by omega) hv
      (refine R.stepV ?_; (repeat' (first | (with_reducible refine And.intro ?_ ?_) | (with_reducible intro _))); all_goals refine R.Lft.mk ?_)
      rename_i w6 hM
      have g1 : (nth D (i + j) + nth xs i * nth ys j + (k : Nat)) = ((dg D (i + j) + dg xs i * dg ys j + k : Nat) : Int) := by rw [f5, f3]; omega
      have g2 : (nth D (i + j) + nth xs i * nth ys j + (k : Nat)) % 65536 = (((dg D (i + j) + dg xs i * dg ys j + k) % 65536 : Nat) : Int) := by rw [g1]; omega
      rw [g2] at hM
      refine ⟨(j + 1, D.set (i + j) (((dg D (i + j) + dg xs i * dg ys j + k) % 65536 : Nat) : Int), (dg D (i + j) + dg xs i * dg ys j + k) / 65536), ⟨rfl, rfl, rfl, rfl, rfl, R.viaI rfl ?_, R.viaI rfl (by dsimp only; omega), trivial⟩,
        ⟨by dsimp only; omega, by simp [hl], hd.set _ (by omega) (by omega), by dsimp only; omega, hr, hM⟩, by dsimp only; omega⟩
      rw [g1]
      dsimp only
      omega
    · obtain rfl : j = m := by omega
      have ht := times_top (k := k) hx hy (by omega : i + ys.length < D.length) (by rw [← hm]; rw [hm, List.take_length, ← hm] at hv; exact hv)
      rw [← hm] at ht
      have f3 := dg_nth hd (i := i + j) (by omega)
      have f4 := dg_lt hd (i + j)
      (refine R.stepV ?_; (repeat' (first | (with_reducible refine And.intro ?_ ?_) | (with_reducible intro _))); all_goals refine R.Lft.mk ?_)
      rename_i w6 hM
      rw [show nth D (i + j) + (k : Nat) = ((dg D (i + j) + k : Nat) : Int) by rw [f3]; omega] at hM
      exact ⟨(i + 1, D.set (i + j) ((dg D (i + j) + k : Nat) : Int)), ⟨rfl, rfl, rfl, rfl, R.viaI rfl (by dsimp only; omega), trivial⟩, ⟨by dsimp only; omega, by simp [hl], hd.set _ (by omega) (by omega), ht.2, hM⟩, by dsimp only; omega⟩
  · obtain rfl : i = n := by omega
    (refine R.stepV ?_; (repeat' (first | (with_reducible refine And.intro ?_ ?_) | (with_reducible intro _))); all_goals refine R.Lft.mk ?_)
    refine ⟨_, D, rfl, hM.gives, hl.symm, hd, ?_⟩
    rw [hv, hn, List.take_length]
theorem bitLen_at {x k : Nat} (h1 : 2 ^ k ≤ x) (h2 : x < 2 ^ (k + 1)) : bitLen x = k + 1 := by
  have h0 : x ≠ 0 := by have := Nat.two_pow_pos k; omega
  obtain ⟨h3, h4⟩ := bitLen_spec x
  have h4 := h4 h0
  have u1 := (Nat.pow_lt_pow_iff_right (by omega : 1 < 2)).1 (Nat.lt_of_le_of_lt h1 h3)
  have u2 := (Nat.pow_lt_pow_iff_right (by omega : 1 < 2)).1 (Nat.lt_of_le_of_lt h4 h2)
  omega
theorem len_found {L : List Int} {i b : Nat} (hL : DigI L) (h : dv (L.take (i + 1)) = dv L) (h1 : dg L i / 2 ^ (b + 1) = 0) (h2 : dg L i / 2 ^ b % 2 = 1) : bitLen (dv L) = 16 * i + b + 1 := by
  have h3 := dv_take_succ L i
  rw [h] at h3
  have h4 := dv_take_lt hL i
  have h5 : dg L i < 2 ^ (b + 1) := by
    rcases Nat.lt_or_ge (dg L i) (2 ^ (b + 1)) with h6 | h6
    · exact h6
    · have := Nat.div_pos h6 (Nat.two_pow_pos _); omega
  have h6 : 2 ^ b ≤ dg L i := by
    rcases Nat.lt_or_ge (dg L i) (2 ^ b) with h7 | h7
    · rw [Nat.div_eq_of_lt h7] at h2; omega
    · exact h7
  have e : 65536 ^ i = 2 ^ (16 * i) := by rw [Nat.pow_mul]
  have h7 : 65536 ^ i * 2 ^ b ≤ 65536 ^ i * dg L i := Nat.mul_le_mul_left _ h6
  have h8 : 65536 ^ i * (dg L i + 1) ≤ 65536 ^ i * 2 ^ (b + 1) := Nat.mul_le_mul_left _ h5
  rw [Nat.mul_add, Nat.mul_one] at h8
  rw [show 65536 ^ i * 2 ^ b = 2 ^ (16 * i + b) by rw [e, Nat.pow_add]] at h7
  rw [show 65536 ^ i * 2 ^ (b + 1) = 2 ^ (16 * i + b + 1) by rw [e, ← Nat.pow_add]; rfl] at h8
  exact bitLen_at (by omega) (by omega)
set_option maxHeartbeats 1000000 in
theorem len2 (A : Option Addr) (n c : Nat) (L : List Int) (w : World) (hA : R.Inp [] w A n 1 (L.flatMap R.cU)) (hn : n = L.length) (hd : DigI L) (hb : n ≤ 100000) :
    Calls Try.prog 32 #[.slice A n c] w fun e w' => e = .returned (.int .i64 (bitLen (dv L) : Nat)) ∧ Below w.heap.size w w' := by
  have hM := R.Own.start [] w
  refine R.calls_of_WC (fn := Try.f32) Try.func32 rfl Try.ntmps32 (Nat.le_of_ble_eq_true rfl) ?_
  (refine R.stepV ?_; (repeat' (first | (with_reducible refine And.intro ?_ ?_) | (with_reducible intro _))); all_goals refine R.Lft.mk ?_)
  refine R.WC_loop (fun k : Nat => [(0, .slice A n c), (2, .int .i64 0), (3, .int .i64 ((k : Int) - 1))])
    (fun k w1 => k ≤ n ∧ dv (L.take k) = dv L ∧ R.Own [] w w1 []) (fun k => k) ⟨n, ⟨rfl, rfl, rfl, trivial⟩, Nat.le_refl _, by rw [hn, List.take_length], hM⟩ ?_
  rintro k f w1 ⟨hk, hv, hM⟩
  rcases k with _ | i
  · have h0 : dv L = 0 := by rw [← hv]; simp [dv, dval]
    (refine R.stepV ?_; (repeat' (first | (with_reducible refine And.intro ?_ ?_) | (with_reducible intro _))); all_goals refine R.Lft.mk ?_)
    rw [h0]
    exact ⟨by rw [show bitLen 0 = 0 from rfl]; rfl, hM.below⟩
  · have e1 := dg_nth hd (i := i) (by omega)
    have e2 := dg_lt hd i
    have e3 : (((i + 1 : Nat) : Int) - 1) = (i : Nat) := by omega
    rw [e3]
    (refine R.stepV ?_; (repeat' (first | (with_reducible refine And.intro ?_ ?_) | (with_reducible intro _))); all_goals refine R.Lft.mk ?_)
    refine R.WC_loop (fun b : Nat => [(0, .slice A n c), (2, .int .i64 0), (3, .int .i64 (i : Nat)), (4, .int .i64 ((b : Int) - 1))])
      (fun b w1 => b ≤ 16 ∧ dg L i / 2 ^ b = 0 ∧ R.Own [] w w1 []) (fun b => b) ⟨16, ⟨rfl, rfl, rfl, rfl, trivial⟩, Nat.le_refl _, by rw [show (2 : Nat) ^ 16 = 65536 from rfl]; omega, hM⟩ ?_
    rintro b f w1 ⟨hb16, hz, hM⟩
    rcases b with _ | b
    · rw [Nat.pow_zero, Nat.div_one] at hz
      (refine R.stepV ?_; (repeat' (first | (with_reducible refine And.intro ?_ ?_) | (with_reducible intro _))); all_goals refine R.Lft.mk ?_)
      refine ⟨i, ⟨rfl, rfl, R.viaI rfl (by omega), trivial⟩, ⟨by omega, ?_, hM⟩, by omega⟩
      rw [← hv, dv_take_succ, hz, Nat.mul_zero, Nat.add_zero]
    · have e4 : (((b + 1 : Nat) : Int) - 1) = (b : Nat) := by omega
      rw [e4]
      have e5 : nth L i / 2 ^ (b : Int).toNat = ((dg L i / 2 ^ b : Nat) : Int) := by rw [e1, Int.toNat_natCast]; norm_cast
      obtain ⟨q, hq⟩ : ∃ q, dg L i / 2 ^ b = q := ⟨_, rfl⟩
      rw [hq] at e5
      have hq2 : q ≤ 65535 := by rw [← hq]; exact Nat.le_trans (Nat.div_le_self _ _) (by omega)
      (refine R.stepV ?_; (repeat' (first | (with_reducible refine And.intro ?_ ?_) | (with_reducible intro _))); all_goals refine R.Lft.mk ?_)
      · rename_i h
        have := len_found hd hv hz (by rw [hq]; omega)
        rw [this, show ((16 * i + b + 1 : Nat) : Int) = 16 * (i : Int) + b + 1 by omega]
        exact ⟨rfl, R.Own.below (by assumption)⟩
      · rename_i h
        refine ⟨b, ⟨rfl, rfl, rfl, R.viaI rfl (by omega), trivial⟩, ⟨by omega, ?_, hM⟩, by omega⟩
        rw [Nat.pow_succ, ← Nat.div_div_eq_div_mul, hq] at hz
        rw [hq]
        omega
instance con_len2 (A : Option Addr) (n c : Nat) : R.ConB Try.prog 32 #[.slice A n c] (List Int) (fun L w => R.Inp [] w A n 1 (L.flatMap R.cU) ∧ n = L.length ∧ DigI L ∧ n ≤ 100000) (fun L => .int .i64 (bitLen (dv L) : Nat)) := ⟨fun L w h => len2 A n c L w h.1 h.2.1 h.2.2.1 h.2.2.2⟩
end Go.Proofs.Ytalaffabcnccgaa
