/- snicketref04: Text. -/
import Derived.Test.YtalaffabcnccgaaTx
namespace Go.Proofs.Ytalaffabcnccgaa
open Go.RowKit
open R (In64 InU64 lo64 nth)

theorem foldl_push (L : List Int) : ∀ s : ByteArray, (L.foldl (fun r m => r.push (UInt8.ofNat m.toNat)) s).data = s.data ++ (L.map fun m => UInt8.ofNat m.toNat).toArray := by
  induction L with
  | nil => intro s; simp
  | cons x L ih =>
    intro s
    rw [List.foldl_cons, ih]
    simp
theorem bytes_data (L : List Int) : (R.bytesOf L).data = (L.map fun m => UInt8.ofNat m.toNat).toArray := by
  unfold R.bytesOf
  rw [foldl_push]
  simp
theorem bytes_app (a b : List Int) : R.bytesOf (a ++ b) = R.bytesOf a ++ R.bytesOf b := by
  apply ByteArray.ext
  rw [bytes_data, ByteArray.data_append, bytes_data, bytes_data]
  simp
theorem bytes_size (L : List Int) : (R.bytesOf L).size = L.length := by
  rw [← ByteArray.size_data, bytes_data]
  simp
def digStr : ByteArray := ⟨#[48, 49, 50, 51, 52, 53, 54, 55, 56, 57]⟩
theorem dig_cut : ∀ r : Fin 10, (digStr.extract r.val (r.val + 1)).data = (R.bytesOf [48 + ((r.val : Nat) : Int)]).data := by decide +kernel
theorem dig_cut2 {r : Nat} (h : r < 10) : digStr.extract ((r : Nat) : Int).toNat (((r : Nat) : Int) + 1).toNat = R.bytesOf [48 + ((r : Nat) : Int)] := by
  rw [show (((r : Nat) : Int) + 1).toNat = r + 1 by omega, Int.toNat_natCast]
  exact ByteArray.ext (dig_cut ⟨r, h⟩)
theorem wd_ten (m : Wd) : wd (W (m.n % (W (Int.toNat 10)).n)).n (Int.toNat 0) = m.n % 10 := by
  have h1 : m.n % 10 < 10 := Nat.mod_lt _ (by decide)
  rw [show Int.toNat 0 = 0 from rfl, show Int.toNat 10 = 10 from rfl, W_n (wsmall (by decide : 10 < 18446744073709551616)), W_n (wsmall (by omega))]
  unfold wd
  rw [Nat.mul_zero, Nat.pow_zero, Nat.div_one]
  exact Nat.mod_eq_of_lt (by omega)
set_option maxRecDepth 20000 in
attribute [local irreducible] W512 in
set_option maxHeartbeats 2000000 in
theorem text4 (a : Wd) (w : World) : Calls Try.prog 65 #[.agg (cW a).toArray] w fun e w' => e = .returned (.string (txt a.n)) ∧ Below w.heap.size w w' := by
  have hM := R.Own.start [] w
  have h10 : (W (Int.toNat 10)).n = 10 := by rw [show Int.toNat 10 = 10 from rfl, W_n (wsmall (by decide))]
  refine R.calls_of_WC (fn := Try.f65) Try.func65 rfl Try.ntmps65 (Nat.le_of_ble_eq_true rfl) ?_
  (refine R.stepT ?_; (repeat' (first | (with_reducible refine And.intro ?_ ?_) | (with_reducible intro _))); all_goals refine R.Lft.mk ?_)
  rename_i g1 w1 hM
  refine R.WC_loop (fun s : Nat × Wd × List Int => [(1, .pointer (some ⟨g1, 0, none⟩)), (2, .string ⟨#[]⟩), (3, .string ⟨#[48, 49, 50, 51, 52, 53, 54, 55, 56, 57]⟩), (4, .string (R.bytesOf s.2.2.reverse)), (5, .int .i64 (s.1 : Nat))])
    (fun s w2 => s.1 ≤ 159 ∧ s.2.2.length = s.1 ∧ R.Lft (s.2.2 ++ decL (160 - s.1) s.2.1.n = decL 160 a.n ∧ s.2.1.n < 10 ^ (160 - s.1)) ∧ R.Own [] w w2 [.blk g1 43 (cW s.2.1)]) (fun s => 160 - s.1)
    ⟨(0, a, []), ⟨rfl, rfl, rfl, rfl, rfl, trivial⟩, by dsimp only; omega, rfl, ⟨rfl, ten_big a⟩, hM⟩ ?_
  clear hM
  rintro ⟨k, m, L⟩ f w2 ⟨hk, hl, hK, hM⟩
  dsimp only at hk hl hK hM ⊢
  have hr := wd_ten m
  have hr2 : wd (W (m.n % (W (Int.toNat 10)).n)).n (Int.toNat 0) < 10 := by rw [hr]; exact Nat.mod_lt _ (by decide)
  have hW : (W (m.n / (W (Int.toNat 10)).n)).n = m.n / 10 := by rw [h10]; exact W_val m _ (Nat.div_le_self _ _)
  have hsz : ((wd (W (m.n % (W (Int.toNat 10)).n)).n (Int.toNat 0) : Nat) : Int) + 1 ≤ ((⟨#[48, 49, 50, 51, 52, 53, 54, 55, 56, 57]⟩ : ByteArray).size : Nat) := by
    show _ ≤ ((10 : Nat) : Int)
    omega
  have hcut := dig_cut2 hr2
  have hcs : (digStr.extract ((wd (W (m.n % (W (Int.toNat 10)).n)).n (Int.toNat 0) : Nat) : Int).toNat (((wd (W (m.n % (W (Int.toNat 10)).n)).n (Int.toNat 0) : Nat) : Int) + 1).toNat).size + (R.bytesOf L.reverse).size ≤ 1000000 := by
    rw [hcut, bytes_size, bytes_size]
    simp
    omega
  unfold digStr at hcut hcs
  by_cases hz : m.n / 10 = 0
  · have hWz : W (m.n / (W (Int.toNat 10)).n) = W 0 := Wd.zero_iff.2 (by rw [hW]; exact hz)
    (refine R.stepT ?_; (repeat' (first | (with_reducible refine And.intro ?_ ?_) | (with_reducible intro _))); all_goals refine R.Lft.mk ?_)
    refine ⟨?_, R.Own.below (by assumption)⟩
    rw [hcut, ← bytes_app, hr]
    unfold txt
    rw [← hK.out.1, show 160 - k = (159 - k) + 1 by omega]
    unfold decL
    rw [if_pos hz, List.reverse_append]
    rfl
  · have hWz : W (m.n / (W (Int.toNat 10)).n) ≠ W 0 := fun h => hz (by rw [← hW]; exact Wd.zero_iff.1 h)
    have hnext : R.Lft ((L ++ [48 + ((wd (W (m.n % (W (Int.toNat 10)).n)).n (Int.toNat 0) : Nat) : Int)]) ++ decL (160 - (k + 1)) (W (m.n / (W (Int.toNat 10)).n)).n = decL 160 a.n ∧ (W (m.n / (W (Int.toNat 10)).n)).n < 10 ^ (160 - (k + 1))) := ⟨by
      rw [hW]
      obtain ⟨h1, h2⟩ := hK.out
      constructor
      · rw [← h1, show 160 - k = (160 - (k + 1)) + 1 by omega, hr, List.append_assoc]
        conv => rhs; unfold decL
        rw [if_neg hz]
        rfl
      · rw [show 160 - k = (160 - (k + 1)) + 1 by omega, Nat.pow_succ] at h2
        exact Nat.div_lt_of_lt_mul (by rw [Nat.mul_comm]; exact h2)⟩
    have hk2 : k + 1 ≤ 159 := by
      rcases Nat.lt_or_ge k 159 with h | h
      · omega
      · have h2 := hnext.out.2
        rw [hW, show 160 - (k + 1) = 0 by omega, Nat.pow_zero] at h2
        omega
    (refine R.stepT ?_; (repeat' (first | (with_reducible refine And.intro ?_ ?_) | (with_reducible intro _))); all_goals refine R.Lft.mk ?_)
    rename_i hM
    refine ⟨(k + 1, W (m.n / (W (Int.toNat 10)).n), L ++ [48 + ((wd (W (m.n % (W (Int.toNat 10)).n)).n (Int.toNat 0) : Nat) : Int)]), ⟨rfl, rfl, rfl, ?_, rfl, trivial⟩, ⟨by dsimp only; omega, by dsimp only; simp [hl], hnext, hM.tl.tl⟩, by dsimp only; omega⟩
    dsimp only
    rw [List.reverse_append, List.reverse_singleton, bytes_app, ← hcut]
    rfl
instance con_text4 (a : Wd) : R.ConB Try.prog 65 #[.agg (cW a).toArray] Unit (fun _ _ => True) (fun _ => .string (txt a.n)) := ⟨fun _ w _ => text4 a w⟩
end Go.Proofs.Ytalaffabcnccgaa
