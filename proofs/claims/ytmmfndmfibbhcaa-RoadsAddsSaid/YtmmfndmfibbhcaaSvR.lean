/- Package save: which number bytes begin with: the walks. -/
import Derived.Test.YtmmfndmfibbhcaaSvN
namespace Go.Proofs.Ytmmfndmfibbhcaa
open Go.ChangeShapes Go.WideShapes Go.ChangeAt Go.RowKit
open R (In64 InU64 lo64 nth)

theorem nth_take {T : Type} [Inhabited T] {L : List T} {i k : Nat} (h : i < k) : nth (L.take k) i = nth L i := by
  unfold nth
  rw [List.getD_eq_getElem?_getD, List.getD_eq_getElem?_getD, List.getElem?_take, if_pos h]
theorem flat_takeY (L : List Int) (i : Nat) : (L.flatMap R.cY).take (i * 1) = (L.take i).flatMap R.cY := by
  have e : ∀ M : List Int, M.flatMap R.cY = M.map (Value.int .u8) := fun M => by induction M with
    | nil => rfl
    | cons x M ih => rw [List.flatMap_cons, ih]; rfl
  rw [e, e, List.map_take, Nat.mul_one]
def okE (o : Option (Int × Nat)) : Int := if o.isSome then 0 else 2
def byte (L : List Int) : Prop := ∀ x ∈ L, 0 ≤ x ∧ x < 256
/-- The number that is read so far, of a byte more. -/
theorem read_or {i : Nat} {u c : Int} (hi : i ≤ 8) (hu0 : 0 ≤ u) (hu : u < 128 ^ i) (h0 : 0 ≤ c) (h1 : c < 256) : bits .or .u64 u (lo64 (lo64 (bits .and .u8 c 127) * 2 ^ (7 * (i : Int)).toNat)) = u + 128 ^ i * (c % 128) ∧ 0 ≤ u + 128 ^ i * (c % 128) ∧ u + 128 ^ i * (c % 128) < 128 ^ (i + 1) := by
  have hk : (7 * (i : Int)).toNat = 7 * i := by omega
  have hc0 : 0 ≤ c % 128 := by omega
  have hc1 : c % 128 < 128 := by omega
  obtain ⟨e1, e2, e3, e4, e5⟩ := u64_or_up i hi hu0 hu hc0 hc1
  have el : lo64 (c % 128) = c % 128 := R.lo64_in (by unfold InU64; omega)
  have el2 : lo64 (c % 128 * 2 ^ (7 * i)) = c % 128 * 2 ^ (7 * i) := R.lo64_in ⟨e4, by omega⟩
  rw [u8_and127 h0 h1, el, hk, el2, e1]
  exact ⟨rfl, e2, e3⟩
set_option maxRecDepth 20000 in
set_option maxHeartbeats 2000000 in
theorem read_any (A : Option Addr) (n c : Nat) (L : List Int) (w : World) (hA : R.Inp [] w A n 1 (L.flatMap R.cY)) (hn : n = L.length) (hb : n ≤ 9223372036854775807) (hc : n ≤ c) (hL : byte L) : Calls Try.prog 39 #[.slice A n c] w fun e w' => e = .returned (.tuple #[.int .i64 (rdN (rdF L 0 0)), .int .i64 (rdU (rdF L 0 0) : Nat), .int .i64 (okE (rdF L 0 0))]) ∧ Below w.heap.size w w' := by
  have hM := R.Own.start [] w
  obtain ⟨m, hm⟩ : ∃ m : Nat, (min (n : Int) 9).toNat = m := ⟨_, rfl⟩
  have hm9 : m ≤ 9 ∧ m ≤ n ∧ (m < 9 → m = n) := by omega
  have hQ : R.Inp [] w A m 1 ((L.take m).flatMap R.cY) := by
    have := hA.take m hm9.2.1
    rwa [flat_takeY] at this
  refine R.calls_of_WC (fn := Try.f39) Try.func39 rfl Try.ntmps39 (Nat.le_of_ble_eq_true rfl) ?_
  (refine R.step ?_; (repeat' (first | (with_reducible refine And.intro ?_ ?_) | (with_reducible intro _))); all_goals refine R.Lft.mk ?_)
  refine R.WC_loop (fun s : Nat × Int => [(5, .int .u64 s.2), (12, .slice A m c), (13, .int .i64 (m : Nat)), (14, .int .i64 (s.1 : Nat))])
    (fun s w2 => s.1 ≤ m ∧ 0 ≤ s.2 ∧ s.2 < 128 ^ s.1 ∧ rdF L 0 0 = rdF (L.drop s.1) s.1 s.2 ∧ R.Own [] w w2 []) (fun s => m - s.1) ⟨(0, 0), ⟨rfl, R.viaS rfl hm, R.viaI rfl (by omega), rfl, trivial⟩, Nat.zero_le _, by simp, by simp, by simp, R.ohm⟩ ?_
  clear hM
  rintro ⟨k, u⟩ f w2 ⟨hk, hu0, hu1, hr, hM⟩
  dsimp only at hk hu0 hu1 hr hM ⊢
  by_cases hlt : k < m
  · have hin : k < L.length := by omega
    obtain ⟨c0, c1⟩ := hL _ (R.nth_mem hin)
    have hnt : nth (L.take m) k = nth L k := nth_take hlt
    have hor := read_or (c := nth L k) (show k ≤ 8 by omega) hu0 hu1 c0 c1
    rw [rd_step u hin, if_neg (by omega)] at hr
    rw [← hnt] at hr hor c0 c1
    have hpw : (128 : Int) ^ (k + 1) ≤ 9223372036854775808 := by
      have : ∀ j : Nat, j ≤ 8 → (128 : Int) ^ (j + 1) ≤ 9223372036854775808 := by decide
      exact this k (by omega)
    obtain ⟨o1, o2, o3⟩ := hor
    obtain ⟨E, hE⟩ : ∃ E, bits .or .u64 u (lo64 (lo64 (bits .and .u8 (nth (L.take m) k) 127) * 2 ^ (7 * (k : Int)).toNat)) = E := ⟨_, rfl⟩
    have hE0 : 0 ≤ bits .or .u64 u (lo64 (lo64 (bits .and .u8 (nth (L.take m) k) 127) * 2 ^ (7 * (k : Int)).toNat)) := by rw [o1]; exact o2
    have hE1 : bits .or .u64 u (lo64 (lo64 (bits .and .u8 (nth (L.take m) k) 127) * 2 ^ (7 * (k : Int)).toNat)) ≤ 9223372036854775807 := by rw [o1]; omega
    by_cases hge : 128 ≤ nth (L.take m) k
    · rw [if_neg (by omega), ← o1, hE] at hr
      rw [← o1, hE] at o3
      have hL := R.Lft.mk o3
      clear o1 o2 o3 hpw
      clear hu1
      (refine R.step ?_; (repeat' (first | (with_reducible refine And.intro ?_ ?_) | (with_reducible intro _))); all_goals refine R.Lft.mk ?_)
      refine ⟨(k + 1, E), ⟨R.viaI rfl hE, rfl, rfl, R.viaI rfl (by dsimp only; omega), trivial⟩, ⟨by dsimp only; omega, by dsimp only; omega, hL.out, hr, R.ohm⟩, by dsimp only; omega⟩
    · rw [if_pos (by omega), show nth (L.take m) k = nth (L.take m) k % 128 by omega, ← o1, hE] at hr
      clear o1 o2 o3 hpw
      clear hu1
      have hand := u64_and1 hE0 (by omega)
      have hun : unzig E = if bits .and .u64 (bits .or .u64 u (lo64 (lo64 (bits .and .u8 (nth (L.take m) k) 127) * 2 ^ (7 * (k : Int)).toNat))) 1 = 1 then -(bits .or .u64 u (lo64 (lo64 (bits .and .u8 (nth (L.take m) k) 127) * 2 ^ (7 * (k : Int)).toNat)) / 2) - 1 else bits .or .u64 u (lo64 (lo64 (bits .and .u8 (nth (L.take m) k) 127) * 2 ^ (7 * (k : Int)).toNat)) / 2 := by
        rw [hand, hE]
        rfl
      clear hand
      by_cases hodd : bits .and .u64 (bits .or .u64 u (lo64 (lo64 (bits .and .u8 (nth (L.take m) k) 127) * 2 ^ (7 * (k : Int)).toNat))) 1 = 1
      · rw [if_pos hodd] at hun
        (refine R.step ?_; (repeat' (first | (with_reducible refine And.intro ?_ ?_) | (with_reducible intro _))); all_goals refine R.Lft.mk ?_)
        refine WO_cplI rfl rfl (by omega) (by omega) ?_
        (refine R.step ?_; (repeat' (first | (with_reducible refine And.intro ?_ ?_) | (with_reducible intro _))); all_goals refine R.Lft.mk ?_)
        all_goals first
          | (rw [hr, if_pos (by omega)]; exact ⟨rfl, R.Own.below (by assumption)⟩)
          | (rw [hr, if_neg (by omega), hun]; exact ⟨rfl, R.Own.below (by assumption)⟩)
      · rw [if_neg hodd] at hun
        (refine R.step ?_; (repeat' (first | (with_reducible refine And.intro ?_ ?_) | (with_reducible intro _))); all_goals refine R.Lft.mk ?_)
        all_goals first
          | (rw [hr, if_pos (by omega)]; exact ⟨rfl, R.Own.below (by assumption)⟩)
          | (rw [hr, if_neg (by omega), hun]; exact ⟨rfl, R.Own.below (by assumption)⟩)
  · obtain rfl : k = m := by omega
    have he : rdF L 0 0 = none := by
      rw [hr]
      rcases Nat.lt_or_ge k 9 with h | h
      · exact rd_end u (by omega)
      · obtain rfl : k = 9 := by omega
        exact rd_nine _ u
    rw [he]
    (refine R.step ?_; (repeat' (first | (with_reducible refine And.intro ?_ ?_) | (with_reducible intro _))); all_goals refine R.Lft.mk ?_; (all_goals (try (exact ⟨rfl, R.Own.below (by assumption)⟩))))
set_option maxRecDepth 20000 in
set_option maxHeartbeats 2000000 in
theorem read46_any (A : Option Addr) (n c : Nat) (L : List Int) (w : World) (hA : R.Inp [] w A n 1 (L.flatMap R.cY)) (hn : n = L.length) (hb : n ≤ 9223372036854775807) (hL : byte L) : Calls Try.prog 40 #[.slice A n c, .int .i64 0] w fun e w' => e = .returned (.tuple #[.int .i64 (rdN (rdF L 0 0)), .int .i64 (rdU (rdF L 0 0) : Nat), .bool (rdF L 0 0).isSome]) ∧ Below w.heap.size w w' := by
  have hM := R.Own.start [] w
  refine R.calls_of_WC (fn := Try.f40) Try.func40 rfl Try.ntmps40 (Nat.le_of_ble_eq_true rfl) ?_
  (refine R.step ?_; (repeat' (first | (with_reducible refine And.intro ?_ ?_) | (with_reducible intro _))); all_goals refine R.Lft.mk ?_)
  refine R.WC_loop (fun s : Nat × Int × Int => [(0, .slice A n c), (1, .int .i64 0), (4, .int .i64 0), (5, .int .i64 0), (6, .bool false), (7, .int .i64 s.2.1), (8, .int .i64 s.2.2), (9, .int .i64 (s.1 : Nat))])
    (fun s w2 => s.1 ≤ n ∧ s.1 ≤ 9 ∧ 0 ≤ s.2.1 ∧ s.2.1 < 128 ^ s.1 ∧ (s.1 ≤ 8 → s.2.2 = 128 ^ s.1) ∧ rdF L 0 0 = rdF (L.drop s.1) s.1 s.2.1 ∧ R.Own [] w w2 []) (fun s => n - s.1) ⟨(0, 0, 1), ⟨rfl, rfl, rfl, rfl, rfl, rfl, rfl, rfl, trivial⟩, Nat.zero_le _, by simp, by simp, by simp, by simp, by simp, R.ohm⟩ ?_
  clear hM
  rintro ⟨k, u, p⟩ f w2 ⟨hk, hk9, hu0, hu1, hp, hr, hM⟩
  dsimp only at hk hk9 hu0 hu1 hp hr hM ⊢
  by_cases hlt : k < n ∧ k < 9
  · obtain ⟨hlt, hlt9⟩ := hlt
    have hin : k < L.length := by omega
    obtain ⟨c0, c1⟩ := hL _ (R.nth_mem hin)
    have hp := hp (by omega)
    rw [rd_step u hin, if_neg (by omega)] at hr
    have p8 : ∀ j : Nat, j ≤ 8 → 1 ≤ (128 : Int) ^ j ∧ (128 : Int) ^ j ≤ 72057594037927936 := by decide
    obtain ⟨q1, q2⟩ := p8 k (by omega)
    by_cases hbig : k = 8 ∧ 64 < nth L k
    · obtain ⟨rfl, h64⟩ := hbig
      have hnone : rdF L 0 0 = none := by
        rw [hr]
        have e8 : (128 : Int) ^ 8 = 72057594037927936 := by decide
        by_cases h1 : nth L 8 < 128
        · rw [if_pos h1, e8, if_pos]
          unfold unzig
          split <;> omega
        · rw [if_neg h1]
          exact rd_nine _ _
      rw [hnone]
      clear hr hp q1 q2 p8 hu1
      (refine R.step ?_; (repeat' (first | (with_reducible refine And.intro ?_ ?_) | (with_reducible intro _))); all_goals refine R.Lft.mk ?_; (all_goals (try (exact ⟨rfl, R.Own.below (by assumption)⟩))))
    · have m0 : 0 ≤ p * (nth L k % 128) := Int.mul_nonneg (by omega) (by omega)
      have m1 : p * (nth L k % 128) ≤ 4611686018427387904 := by
        rcases Nat.lt_or_ge k 8 with h | h
        · have q7 : ∀ j : Nat, j < 8 → (128 : Int) ^ j ≤ 562949953421312 := by decide
          have h7 := q7 k h
          have : p * (nth L k % 128) ≤ 562949953421312 * 127 := Int.mul_le_mul (by omega) (by omega) (by omega) (by omega)
          omega
        · have hk8 : k = 8 := by omega
          have : p * (nth L k % 128) ≤ 72057594037927936 * 64 := Int.mul_le_mul (by omega) (by omega) (by omega) (by omega)
          omega
      have hus : u ≤ 72057594037927936 := by omega
      have hs : (128 : Int) ^ (k + 1) = 128 ^ k * 128 := Int.pow_succ _ _
      have hn1 : u + p * (nth L k % 128) < 128 ^ (k + 1) := by
        rw [hs, ← hp]
        have : p * (nth L k % 128) ≤ p * 127 := Int.mul_le_mul_of_nonneg_left (by omega) (by omega)
        omega
      rw [← hp] at hr
      have hq : k ≤ 7 → p ≤ 562949953421312 := fun h => by
        have q7 : ∀ j : Nat, j < 8 → (128 : Int) ^ j ≤ 562949953421312 := by decide
        have := q7 k (by omega)
        omega
      have hp1 : k + 1 ≤ 8 → p * 128 = 128 ^ (k + 1) := fun _ => by rw [hs, hp]
      have hH := R.Lft.mk (And.intro hn1 hp1)
      clear hn1 hp1 hs hp q1 q2 p8 hu1
      by_cases hge : 128 ≤ nth L k
      · have hk7 : k ≤ 7 := by omega
        have hq := hq hk7
        have hp0 : 0 ≤ p := by
          rcases Int.lt_or_le p 0 with h | h
          · exfalso
            have h1 := hH.out.2 (by omega)
            have : (0 : Int) < 128 ^ (k + 1) := Int.pow_pos (by decide)
            omega
          · exact h
        rw [if_neg (by omega)] at hr
        (refine R.step ?_; (repeat' (first | (with_reducible refine And.intro ?_ ?_) | (with_reducible intro _))); all_goals refine R.Lft.mk ?_)
        refine WO_rem8 rfl rfl rfl (by omega) (by omega) ?_
        (refine R.step ?_; (repeat' (first | (with_reducible refine And.intro ?_ ?_) | (with_reducible intro _))); all_goals refine R.Lft.mk ?_)
        refine ⟨(k + 1, u + p * (nth L k % 128), p * 128), ⟨rfl, rfl, rfl, rfl, rfl, rfl, rfl, R.viaI rfl (by dsimp only; omega), trivial⟩, ⟨by dsimp only; omega, by dsimp only; omega, by dsimp only; omega, hH.out.1, fun h => hH.out.2 h, hr, R.ohm⟩, by dsimp only; omega⟩
      · have e3 : u + p * nth L k = u + p * (nth L k % 128) := by rw [show nth L k % 128 = nth L k by omega]
        rw [if_pos (by omega), e3] at hr
        have hun : unzig (u + p * (nth L k % 128)) = if (u + p * (nth L k % 128)) % 2 = 1 then -((u + p * (nth L k % 128)) / 2) - 1 else (u + p * (nth L k % 128)) / 2 := rfl
        clear hH hp hq
        by_cases hodd : (u + p * (nth L k % 128)) % 2 = 1
        · rw [if_pos hodd] at hun
          (refine R.step ?_; (repeat' (first | (with_reducible refine And.intro ?_ ?_) | (with_reducible intro _))); all_goals refine R.Lft.mk ?_)
          all_goals refine WO_rem8 rfl rfl rfl (by omega) (by omega) ?_
          all_goals (refine R.step ?_; (repeat' (first | (with_reducible refine And.intro ?_ ?_) | (with_reducible intro _))); all_goals refine R.Lft.mk ?_)
          all_goals first
            | (rw [hr, if_pos (by omega)]; exact ⟨rfl, R.Own.below (by assumption)⟩)
            | (rw [hr, if_neg (by omega), hun]; exact ⟨rfl, R.Own.below (by assumption)⟩)
        · rw [if_neg hodd] at hun
          (refine R.step ?_; (repeat' (first | (with_reducible refine And.intro ?_ ?_) | (with_reducible intro _))); all_goals refine R.Lft.mk ?_)
          all_goals refine WO_rem8 rfl rfl rfl (by omega) (by omega) ?_
          all_goals (refine R.step ?_; (repeat' (first | (with_reducible refine And.intro ?_ ?_) | (with_reducible intro _))); all_goals refine R.Lft.mk ?_)
          all_goals first
            | (rw [hr, if_pos (by omega)]; exact ⟨rfl, R.Own.below (by assumption)⟩)
            | (rw [hr, if_neg (by omega), hun]; exact ⟨rfl, R.Own.below (by assumption)⟩)
  · have he : rdF L 0 0 = none := by
      rw [hr]
      rcases Nat.lt_or_ge k 9 with h | h
      · exact rd_end u (by omega)
      · obtain rfl : k = 9 := by omega
        exact rd_nine _ u
    rw [he]
    (refine R.step ?_; (repeat' (first | (with_reducible refine And.intro ?_ ?_) | (with_reducible intro _))); all_goals refine R.Lft.mk ?_; (all_goals (try (exact ⟨rfl, R.Own.below (by assumption)⟩))))
end Go.Proofs.Ytmmfndmfibbhcaa
