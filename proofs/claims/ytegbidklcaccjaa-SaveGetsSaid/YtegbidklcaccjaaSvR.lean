/- Package save: which number bytes begin with: the walks. -/
import Derived.Test.YtegbidklcaccjaaSvN
namespace Go.Proofs.Ytegbidklcaccjaa
open Go.ChangeShapes Go.WideShapes Go.ChangeAt Go.RowKit
open R (In64 InU64 lo64 nth)

theorem nth_take {T : Type} [Inhabited T] {L : List T} {i k : Nat} (h : i < k) : nth (L.take k) i = nth L i := by
  unfold nth
  rw [List.getD_eq_getElem?_getD, List.getD_eq_getElem?_getD, List.getElem?_take, if_pos h]
theorem flat_takeY (L : List Int) (i : Nat) : (L.flatMap R.cY).take (i * 1) = (L.take i).flatMap R.cY := by
  have e : ∀ M : List Int, M.flatMap R.cY = M.map (Value.int .u8) := fun M => by induction M with
    | nil => rfl
    | cons x M ih => rw [List.flatMap_cons, ih]; rfl
  rw [e, e, List.map_take, Nat.mul_one]
def okE (o : Option (Int × Nat)) : Int := if o.isSome then 0 else 2
def byte (L : List Int) : Prop := ∀ x ∈ L, 0 ≤ x ∧ x < 256
/-- The number that is read so far, of a byte more. -/
theorem read_or {i : Nat} {u c : Int} (hi : i ≤ 8) (hu0 : 0 ≤ u) (hu : u < 128 ^ i) (h0 : 0 ≤ c) (h1 : c < 256) : bits .or .u64 u (lo64 (lo64 (bits .and .u8 c 127) * 2 ^ (7 * (i : Int)).toNat)) = u + 128 ^ i * (c % 128) ∧ 0 ≤ u + 128 ^ i * (c % 128) ∧ u + 128 ^ i * (c % 128) < 128 ^ (i + 1) := by
  have hk : (7 * (i : Int)).toNat = 7 * i := by omega
  have hc0 : 0 ≤ c % 128 := by omega
  have hc1 : c % 128 < 128 := by omega
  obtain ⟨e1, e2, e3, e4, e5⟩ := u64_or_up i hi hu0 hu hc0 hc1
  have el : lo64 (c % 128) = c % 128 := R.lo64_in (by unfold InU64; omega)
  have el2 : lo64 (c % 128 * 2 ^ (7 * i)) = c % 128 * 2 ^ (7 * i) := R.lo64_in ⟨e4, by omega⟩
  rw [u8_and127 h0 h1, el, hk, el2, e1]
  exact ⟨rfl, e2, e3⟩
set_option maxRecDepth 20000 in
set_option maxHeartbeats 2000000 in
theorem read_any (A : Option Addr) (n c : Nat) (L : List Int) (w : World) (hA : R.Inp [] w A n 1 (L.flatMap R.cY)) (hn : n = L.length) (hb : n ≤ 9223372036854775807) (hc : n ≤ c) (hL : byte L) : Calls Try.prog 52 #[.slice A n c] w fun e w' => e = .returned (.tuple #[.int .i64 (rdN (rdF L 0 0)), .int .i64 (rdU (rdF L 0 0) : Nat), .int .i64 (okE (rdF L 0 0))]) ∧ Below w.heap.size w w' := by
  have hM := R.Own.start [] w
  obtain ⟨m, hm⟩ : ∃ m : Nat, (min (n : Int) 9).toNat = m := ⟨_, rfl⟩
  have hm9 : m ≤ 9 ∧ m ≤ n ∧ (m < 9 → m = n) := by omega
  have hQ : R.Inp [] w A m 1 ((L.take m).flatMap R.cY) := by
    have := hA.take m hm9.2.1
    rwa [flat_takeY] at this
  refine R.calls_of_WC (fn := Try.f52) Try.func52 rfl Try.ntmps52 (Nat.le_of_ble_eq_true rfl) ?_
  (refine R.step ?_; (repeat' (first | (with_reducible refine And.intro ?_ ?_) | (with_reducible intro _))); all_goals refine R.Lft.mk ?_)
  refine R.WC_loop (fun s : Nat × Int => [(5, .int .u64 s.2), (12, .slice A m c), (13, .int .i64 (m : Nat)), (14, .int .i64 (s.1 : Nat))])
    (fun s w2 => s.1 ≤ m ∧ 0 ≤ s.2 ∧ s.2 < 128 ^ s.1 ∧ rdF L 0 0 = rdF (L.drop s.1) s.1 s.2 ∧ R.Own [] w w2 []) (fun s => m - s.1) ⟨(0, 0), ⟨rfl, R.viaS rfl hm, R.viaI rfl (by omega), rfl, trivial⟩, Nat.zero_le _, by simp, by simp, by simp, R.ohm⟩ ?_
  clear hM
  rintro ⟨k, u⟩ f w2 ⟨hk, hu0, hu1, hr, hM⟩
  dsimp only at hk hu0 hu1 hr hM ⊢
  by_cases hlt : k < m
  · have hin : k < L.length := by omega
    obtain ⟨c0, c1⟩ := hL _ (R.nth_mem hin)
    have hnt : nth (L.take m) k = nth L k := nth_take hlt
    have hor := read_or (c := nth L k) (show k ≤ 8 by omega) hu0 hu1 c0 c1
    rw [rd_step u hin, if_neg (by omega)] at hr
    rw [← hnt] at hr hor c0 c1
    have hpw : (128 : Int) ^ (k + 1) ≤ 9223372036854775808 := by
      have : ∀ j : Nat, j ≤ 8 → (128 : Int) ^ (j + 1) ≤ 9223372036854775808 := by decide
      exact this k (by omega)
    obtain ⟨o1, o2, o3⟩ := hor
    obtain ⟨E, hE⟩ : ∃ E, bits .or .u64 u (lo64 (lo64 (bits .and .u8 (nth (L.take m) k) 127) * 2 ^ (7 * (k : Int)).toNat)) = E := ⟨_, rfl⟩
    have hE0 : 0 ≤ bits .or .u64 u (lo64 (lo64 (bits .and .u8 (nth (L.take m) k) 127) * 2 ^ (7 * (k : Int)).toNat)) := by rw [o1]; exact o2
    have hE1 : bits .or .u64 u (lo64 (lo64 (bits .and .u8 (nth (L.take m) k) 127) * 2 ^ (7 * (k : Int)).toNat)) ≤ 9223372036854775807 := by rw [o1]; omega
    by_cases hge : 128 ≤ nth (L.take m) k
    · rw [if_neg (by omega), ← o1, hE] at hr
      rw [← o1, hE] at o3
      have hL := R.Lft.mk o3
      clear o1 o2 o3 hpw
      clear hu1
      (refine R.step ?_; (repeat' (first | (with_reducible refine And.intro ?_ ?_) | (with_reducible intro _))); all_goals refine R.Lft.mk ?_)
      refine ⟨(k + 1, E), ⟨R.viaI rfl hE, rfl, rfl, R.viaI rfl (by dsimp only; omega), trivial⟩, ⟨by dsimp only; omega, by dsimp only; omega, hL.out, hr, R.ohm⟩, by dsimp only; omega⟩
    · rw [if_pos (by omega), show nth (L.take m) k = nth (L.take m) k % 128 by omega, ← o1, hE] at hr
      clear o1 o2 o3 hpw
      clear hu1
      have hand := u64_and1 hE0 (by omega)
      have hun : unzig E = if bits .and .u64 (bits .or .u64 u (lo64 (lo64 (bits .and .u8 (nth (L.take m) k) 127) * 2 ^ (7 * (k : Int)).toNat))) 1 = 1 then -(bits .or .u64 u (lo64 (lo64 (bits .and .u8 (nth (L.take m) k) 127) * 2 ^ (7 * (k : Int)).toNat)) / 2) - 1 else bits .or .u64 u (lo64 (lo64 (bits .and .u8 (nth (L.take m) k) 127) * 2 ^ (7 * (k : Int)).toNat)) / 2 := by
        rw [hand, hE]
        rfl
      clear hand
      by_cases hodd : bits .and .u64 (bits .or .u64 u (lo64 (lo64 (bits .and .u8 (nth (L.take m) k) 127) * 2 ^ (7 * (k : Int)).toNat))) 1 = 1
      · rw [if_pos hodd] at hun
        (refine R.step ?_; (repeat' (first | (with_reducible refine And.intro ?_ ?_) | (with_reducible intro _))); all_goals refine R.Lft.mk ?_)
        refine WO_cplI rfl rfl (by omega) (by omega) ?_
        (refine R.step ?_; (repeat' (first | (with_reducible refine And.intro ?_ ?_) | (with_reducible intro _))); all_goals refine R.Lft.mk ?_)
        all_goals first
          | (rw [hr, if_pos (by omega)]; exact ⟨rfl, R.Own.below (by assumption)⟩)
          | (rw [hr, if_neg (by omega), hun]; exact ⟨rfl, R.Own.below (by assumption)⟩)
      · rw [if_neg hodd] at hun
        (refine R.step ?_; (repeat' (first | (with_reducible refine And.intro ?_ ?_) | (with_reducible intro _))); all_goals refine R.Lft.mk ?_)
        all_goals first
          | (rw [hr, if_pos (by omega)]; exact ⟨rfl, R.Own.below (by assumption)⟩)
          | (rw [hr, if_neg (by omega), hun]; exact ⟨rfl, R.Own.below (by assumption)⟩)
  · obtain rfl : k = m := by omega
    have he : rdF L 0 0 = none := by
      rw [hr]
      rcases Nat.lt_or_ge k 9 with h | h
      · exact rd_end u (by omega)
      · obtain rfl : k = 9 := by omega
        exact rd_nine _ u
    rw [he]
    (refine R.step ?_; (repeat' (first | (with_reducible refine And.intro ?_ ?_) | (with_reducible intro _))); all_goals refine R.Lft.mk ?_; (all_goals (try (exact ⟨rfl, R.Own.below (by assumption)⟩))))
end Go.Proofs.Ytegbidklcaccjaa
