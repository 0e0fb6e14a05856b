/- A slice of bytes turned round; numbers as texts. snicketref04: Text. -/
import Derived.Test.YtalaffabcnccgaaQt
import Derived.Test.YtalaffabcnccgaaVGo
import Derived.Test.YtalaffabcnccgaaRq
namespace Go.Proofs.Ytalaffabcnccgaa
open Go.RowKit
open R (In64 InU64 lo64 nth)
/-! ### turned round -/
def turnI (L M : List Int) (i : Nat) : Prop := M.length = L.length ∧ ∀ k, k < L.length → nth M k = if k < i ∨ L.length ≤ k + i then nth L (L.length - 1 - k) else nth L k
theorem nth_set {M : List Int} {i k : Nat} {v : Int} (hi : i < M.length) : nth (M.set i v) k = if i = k then v else nth M k := by
  unfold nth
  rw [List.getD_eq_getElem?_getD, List.getElem?_set]
  split
  · rename_i h; subst h; exact (fun _ => rfl) hi
  · rw [List.getD_eq_getElem?_getD]
theorem turn_step {L M : List Int} {i : Nat} (h : turnI L M i) (hi : i < L.length - 1 - i) : turnI L ((M.set i (nth M (L.length - 1 - i))).set (L.length - 1 - i) (nth M i)) (i + 1) := by
  obtain ⟨h1, h2⟩ := h
  refine ⟨by simp [h1], fun k hk => ?_⟩
  rw [nth_set (by rw [List.length_set]; omega), nth_set (by omega)]
  have a1 := h2 k hk
  have a2 := h2 i (by omega)
  have a3 := h2 (L.length - 1 - i) (by omega)
  rw [if_neg (by omega)] at a2 a3
  by_cases e1 : L.length - 1 - i = k
  · rw [if_pos e1, a2, if_pos (by omega)]
    congr 1
    omega
  · rw [if_neg e1]
    by_cases e2 : i = k
    · rw [if_pos e2, a3, if_pos (by omega)]
      congr 1
      omega
    · rw [if_neg e2, a1]
      by_cases e3 : k < i ∨ L.length ≤ k + i
      · rw [if_pos e3, if_pos (by omega)]
      · rw [if_neg e3, if_neg (by omega)]
theorem turn_end {L M : List Int} {i : Nat} (h : turnI L M i) (hi : ¬ (i : Int) < L.length - 1 - i) : M = L.reverse := by
  obtain ⟨h1, h2⟩ := h
  refine List.ext_getElem (by simp [h1]) fun k hk hk2 => ?_
  have a1 := h2 k (by omega)
  rw [R.nth_eq (by omega)] at a1
  rw [a1, List.getElem_reverse]
  split
  · rw [R.nth_eq (by omega)]
  · rw [R.nth_eq (by omega)]
    congr 1
    omega
set_option maxHeartbeats 2000000 in
theorem reverse_any (A : Option Addr) (n c : Nat) (L : List Int) (w : World) (hn : n = L.length) (hb : n ≤ 1000000) (hH : R.Has w [.row A n c 5 1 (L.flatMap R.cY)]) :
    Calls Try.prog 106 #[.slice A n c] w fun e w' => e = .returned (.tuple #[]) ∧ R.Own (R.keysOf [.row A n c 5 1 (L.flatMap R.cY)]) w w' [.row A n c 5 1 (L.reverse.flatMap R.cY)] := by
  have hM := R.Own.startF hH
  generalize R.keysOf [.row A n c 5 1 (L.flatMap R.cY)] = F at *
  refine R.calls_of_WC (fn := Try.f106) Try.func106 rfl Try.ntmps106 (Nat.le_of_ble_eq_true rfl) ?_
  (refine R.stepU ?_; (repeat' (first | (with_reducible refine And.intro ?_ ?_) | (with_reducible intro _))); all_goals refine R.Lft.mk ?_)
  refine R.WC_loop (fun s : Nat × List Int => [(0, .slice A n c), (2, .int .i64 (s.1 : Nat)), (3, .int .i64 ((n : Int) - 1 - s.1))])
    (fun s w2 => s.1 ≤ n ∧ turnI L s.2 s.1 ∧ R.Own F w w2 [.row A n c 5 1 (s.2.flatMap R.cY)]) (fun s => n - s.1)
    ⟨(0, L), ⟨rfl, rfl, R.viaI rfl (by dsimp only; omega), trivial⟩, by dsimp only; omega, ⟨rfl, fun k hk => by rw [if_neg (by omega)]⟩, hM⟩ ?_
  clear hM
  rintro ⟨i, M⟩ f w2 ⟨hi, hT, hM⟩
  dsimp only at hi hT hM ⊢
  have hl := hT.1
  by_cases hlt : (i : Int) < (n : Int) - 1 - i
  · have hs := turn_step hT (by omega)
    have e1 : ((n : Int) - 1 - i).toNat = L.length - 1 - i := by omega
    have hA : ∃ a, A = some a := (hM.rd (.head _)).some_ (by omega) (by decide)
    (refine R.stepU ?_; (repeat' (first | (with_reducible refine And.intro ?_ ?_) | (with_reducible intro _))); all_goals refine R.Lft.mk ?_)
    (refine R.WC_planK 0 [(0, false), (1, false), (2, false), (3, false), (4, false), (5, false), (6, false), (7, false), (8, false), (9, false), (10, false), (11, false), (12, false), (13, true), (14, false), (15, true)] R.mixed (by decide +kernel) R.ohm ?_; simp only [List.take_zero])
    (refine R.stepU ?_; (repeat' (first | (with_reducible refine And.intro ?_ ?_) | (with_reducible intro _))); all_goals refine R.Lft.mk ?_)
    rename_i hM
    rw [e1] at hM
    exact ⟨(i + 1, _), ⟨rfl, R.viaI rfl (by dsimp only; omega), R.viaI rfl (by dsimp only; omega), trivial⟩, ⟨by dsimp only; omega, hs, hM⟩, by dsimp only; omega⟩
  · have he := turn_end hT (by omega)
    subst he
    (refine R.stepU ?_; (repeat' (first | (with_reducible refine And.intro ?_ ?_) | (with_reducible intro _))); all_goals refine R.Lft.mk ?_)
    exact ⟨rfl, by assumption⟩
/-! ### texts -/
/-- A number's digits as bytes, the last ones first. -/
def decL : Nat → Nat → List Int
  | 0, _ => []
  | k + 1, n => (48 + ((n % 10 : Nat) : Int)) :: (if n / 10 = 0 then [] else decL k (n / 10))
def txt (n : Nat) : ByteArray := R.bytesOf (decL 160 n).reverse
theorem ten_big (a : Wd) : a.n < 10 ^ 160 := by
  obtain ⟨N, hN, hw⟩ := W512_pow
  have h1 := a.lt
  rw [hw] at h1
  obtain ⟨k, hk⟩ : ∃ k, k = 16 := ⟨16, rfl⟩
  have h2 : (2 ^ 33) ^ k ≤ (10 ^ 10) ^ k := Nat.pow_le_pow_left (by decide) k
  rw [← Nat.pow_mul, ← Nat.pow_mul] at h2
  have h3 : 2 ^ N ≤ 2 ^ (33 * k) := Nat.pow_le_pow_right (by decide) (by omega)
  rw [show 160 = 10 * k by omega]
  exact Nat.lt_of_lt_of_le h1 (Nat.le_trans h3 h2)
theorem rest_ten (m : Wd) : wd (restW m.n (Int.toNat 10)).n (Int.toNat 0) = m.n % 10 := by
  have h1 : m.n % 10 < 10 := Nat.mod_lt _ (by decide)
  unfold restW
  rw [show Int.toNat 10 = 10 from rfl, show Int.toNat 0 = 0 from rfl, if_neg (by decide), W_n (wsmall (by omega))]
  unfold wd
  rw [Nat.mul_zero, Nat.pow_zero, Nat.div_one]
  exact Nat.mod_eq_of_lt (by omega)
set_option maxRecDepth 20000 in
attribute [local irreducible] W512 in
set_option maxHeartbeats 2000000 in
theorem text_any (a : Wd) (w : World) : Calls Try.prog 64 #[.agg (cW a).toArray] w fun e w' => e = .returned (.string (txt a.n)) ∧ Below w.heap.size w w' := by
  have hM := R.Own.start [] w
  refine R.calls_of_WC (fn := Try.f64) Try.func64 rfl Try.ntmps64 (Nat.le_of_ble_eq_true rfl) ?_
  (refine R.stepU ?_; (repeat' (first | (with_reducible refine And.intro ?_ ?_) | (with_reducible intro _))); all_goals refine R.Lft.mk ?_)
  rename_i g1 w1 hM
  refine R.WC_loop (fun s : Nat × Wd × List Int × Option Addr × Nat => [(1, .pointer (some ⟨g1, 0, none⟩)), (2, .string ⟨#[]⟩), (3, .slice s.2.2.2.1 s.1 s.2.2.2.2)])
    (fun s w2 => s.1 ≤ 159 ∧ s.2.2.1.length = s.1 ∧ R.Lft (s.2.2.1 ++ decL (160 - s.1) s.2.1.n = decL 160 a.n ∧ s.2.1.n < 10 ^ (160 - s.1)) ∧ R.Own [] w w2 [.row s.2.2.2.1 s.1 s.2.2.2.2 5 1 (s.2.2.1.flatMap R.cY), .blk g1 43 (cW s.2.1)]) (fun s => 160 - s.1)
    ⟨(0, a, [], none, 0), ⟨rfl, rfl, rfl, trivial⟩, by dsimp only; omega, rfl, ⟨rfl, ten_big a⟩, hM.nil _ _⟩ ?_
  clear hM
  rintro ⟨k, m, L, A, c⟩ f w2 ⟨hk, hl, hK, hM⟩
  dsimp only at hk hl hK hM ⊢
  have hr := rest_ten m
  have hr2 : wd (restW m.n (Int.toNat 10)).n (Int.toNat 0) < 10 := by rw [hr]; exact Nat.mod_lt _ (by decide)
  have hW : (W (m.n / Int.toNat 10)).n = m.n / 10 := W_val m _ (Nat.div_le_self _ _)
  by_cases hz : m.n / 10 = 0
  · have hfull : L ++ [48 + ((wd (restW m.n (Int.toNat 10)).n (Int.toNat 0) : Nat) : Int)] = decL 160 a.n := by
      rw [← hK.out.1, show 160 - k = (159 - k) + 1 by omega, hr]
      unfold decL
      rw [if_pos hz]
    (refine R.stepU ?_; (repeat' (first | (with_reducible refine And.intro ?_ ?_) | (with_reducible intro _))); all_goals refine R.Lft.mk ?_)
    rename_i A2 c2 _ _ w6 hM
    rw [hfull] at hM
    have hM := hM.tl.tl.sub (List.sublist_append_left [_] _)
    have hlen : k + 1 = (decL 160 a.n).length := by rw [← hfull]; simp [hl]
    refine R.WO_call1 rfl rfl R.vv ?_
    refine (reverse_any A2 (k + 1) c2 (decL 160 a.n) w6 hlen (by omega) hM.has0).mono ?_
    rintro e w7 ⟨rfl, hO⟩
    have hM := R.Own.callF' hM hO
    refine ⟨_, rfl, ?_⟩
    (refine R.stepU ?_; (repeat' (first | (with_reducible refine And.intro ?_ ?_) | (with_reducible intro _))); all_goals refine R.Lft.mk ?_)
    exact ⟨rfl, R.Own.below (by assumption)⟩
  · have hnext : R.Lft ((L ++ [48 + ((wd (restW m.n (Int.toNat 10)).n (Int.toNat 0) : Nat) : Int)]) ++ decL (160 - (k + 1)) (W (m.n / Int.toNat 10)).n = decL 160 a.n ∧ (W (m.n / Int.toNat 10)).n < 10 ^ (160 - (k + 1))) := ⟨by
      rw [hW]
      obtain ⟨h1, h2⟩ := hK.out
      constructor
      · rw [← h1, show 160 - k = (160 - (k + 1)) + 1 by omega, hr, List.append_assoc]
        conv => rhs; unfold decL
        rw [if_neg hz]
        rfl
      · rw [show 160 - k = (160 - (k + 1)) + 1 by omega, Nat.pow_succ] at h2
        exact Nat.div_lt_of_lt_mul (by rw [Nat.mul_comm]; exact h2)⟩
    have hk2 : k + 1 ≤ 159 := by
      rcases Nat.lt_or_ge k 159 with h | h
      · omega
      · have h2 := hnext.out.2
        rw [hW, show 160 - (k + 1) = 0 by omega, Nat.pow_zero] at h2
        omega
    (refine R.stepU ?_; (repeat' (first | (with_reducible refine And.intro ?_ ?_) | (with_reducible intro _))); all_goals refine R.Lft.mk ?_)
    rename_i hM
    exact ⟨(k + 1, W (m.n / Int.toNat 10), _, _, _), ⟨rfl, rfl, rfl, trivial⟩, ⟨by dsimp only; omega, by dsimp only; simp [hl], hnext, hM.tl.tl⟩, by dsimp only; omega⟩
instance con_qtext (a : Wd) : R.ConB Try.prog 64 #[.agg (cW a).toArray] Unit (fun _ _ => True) (fun _ => .string (txt a.n)) := ⟨fun _ w _ => text_any a w⟩
end Go.Proofs.Ytalaffabcnccgaa
namespace Go.Proofs.Ytalaffabcnccgaa
open Go.RowKit
open R (In64 InU64 lo64 nth)

theorem foldl_push (L : List Int) : ∀ s : ByteArray, (L.foldl (fun r m => r.push (UInt8.ofNat m.toNat)) s).data = s.data ++ (L.map fun m => UInt8.ofNat m.toNat).toArray := by
  induction L with
  | nil => intro s; simp
  | cons x L ih =>
    intro s
    rw [List.foldl_cons, ih]
    simp
theorem bytes_data (L : List Int) : (R.bytesOf L).data = (L.map fun m => UInt8.ofNat m.toNat).toArray := by
  unfold R.bytesOf
  rw [foldl_push]
  simp
theorem bytes_app (a b : List Int) : R.bytesOf (a ++ b) = R.bytesOf a ++ R.bytesOf b := by
  apply ByteArray.ext
  rw [bytes_data, ByteArray.data_append, bytes_data, bytes_data]
  simp
theorem bytes_size (L : List Int) : (R.bytesOf L).size = L.length := by
  rw [← ByteArray.size_data, bytes_data]
  simp
def digStr : ByteArray := ⟨#[48, 49, 50, 51, 52, 53, 54, 55, 56, 57]⟩
theorem dig_cut : ∀ r : Fin 10, (digStr.extract r.val (r.val + 1)).data = (R.bytesOf [48 + ((r.val : Nat) : Int)]).data := by decide +kernel
theorem dig_cut2 {r : Nat} (h : r < 10) : digStr.extract ((r : Nat) : Int).toNat (((r : Nat) : Int) + 1).toNat = R.bytesOf [48 + ((r : Nat) : Int)] := by
  rw [show (((r : Nat) : Int) + 1).toNat = r + 1 by omega, Int.toNat_natCast]
  exact ByteArray.ext (dig_cut ⟨r, h⟩)
theorem wd_ten (m : Wd) : wd (W (m.n % (W (Int.toNat 10)).n)).n (Int.toNat 0) = m.n % 10 := by
  have h1 : m.n % 10 < 10 := Nat.mod_lt _ (by decide)
  rw [show Int.toNat 0 = 0 from rfl, show Int.toNat 10 = 10 from rfl, W_n (wsmall (by decide : 10 < 18446744073709551616)), W_n (wsmall (by omega))]
  unfold wd
  rw [Nat.mul_zero, Nat.pow_zero, Nat.div_one]
  exact Nat.mod_eq_of_lt (by omega)
set_option maxRecDepth 20000 in
attribute [local irreducible] W512 in
set_option maxHeartbeats 2000000 in
theorem text4 (a : Wd) (w : World) : Calls Try.prog 65 #[.agg (cW a).toArray] w fun e w' => e = .returned (.string (txt a.n)) ∧ Below w.heap.size w w' := by
  have hM := R.Own.start [] w
  have h10 : (W (Int.toNat 10)).n = 10 := by rw [show Int.toNat 10 = 10 from rfl, W_n (wsmall (by decide))]
  refine R.calls_of_WC (fn := Try.f65) Try.func65 rfl Try.ntmps65 (Nat.le_of_ble_eq_true rfl) ?_
  (refine R.stepU ?_; (repeat' (first | (with_reducible refine And.intro ?_ ?_) | (with_reducible intro _))); all_goals refine R.Lft.mk ?_)
  rename_i g1 w1 hM
  refine R.WC_loop (fun s : Nat × Wd × List Int => [(1, .pointer (some ⟨g1, 0, none⟩)), (2, .string ⟨#[]⟩), (3, .string ⟨#[48, 49, 50, 51, 52, 53, 54, 55, 56, 57]⟩), (4, .string (R.bytesOf s.2.2.reverse)), (5, .int .i64 (s.1 : Nat))])
    (fun s w2 => s.1 ≤ 159 ∧ s.2.2.length = s.1 ∧ R.Lft (s.2.2 ++ decL (160 - s.1) s.2.1.n = decL 160 a.n ∧ s.2.1.n < 10 ^ (160 - s.1)) ∧ R.Own [] w w2 [.blk g1 43 (cW s.2.1)]) (fun s => 160 - s.1)
    ⟨(0, a, []), ⟨rfl, rfl, rfl, rfl, rfl, trivial⟩, by dsimp only; omega, rfl, ⟨rfl, ten_big a⟩, hM⟩ ?_
  clear hM
  rintro ⟨k, m, L⟩ f w2 ⟨hk, hl, hK, hM⟩
  dsimp only at hk hl hK hM ⊢
  have hr := wd_ten m
  have hr2 : wd (W (m.n % (W (Int.toNat 10)).n)).n (Int.toNat 0) < 10 := by rw [hr]; exact Nat.mod_lt _ (by decide)
  have hW : (W (m.n / (W (Int.toNat 10)).n)).n = m.n / 10 := by rw [h10]; exact W_val m _ (Nat.div_le_self _ _)
  have hsz : ((wd (W (m.n % (W (Int.toNat 10)).n)).n (Int.toNat 0) : Nat) : Int) + 1 ≤ ((⟨#[48, 49, 50, 51, 52, 53, 54, 55, 56, 57]⟩ : ByteArray).size : Nat) := by
    show _ ≤ ((10 : Nat) : Int)
    omega
  have hcut := dig_cut2 hr2
  have hcs : (digStr.extract ((wd (W (m.n % (W (Int.toNat 10)).n)).n (Int.toNat 0) : Nat) : Int).toNat (((wd (W (m.n % (W (Int.toNat 10)).n)).n (Int.toNat 0) : Nat) : Int) + 1).toNat).size + (R.bytesOf L.reverse).size ≤ 1000000 := by
    rw [hcut, bytes_size, bytes_size]
    simp
    omega
  unfold digStr at hcut hcs
  by_cases hz : m.n / 10 = 0
  · have hWz : W (m.n / (W (Int.toNat 10)).n) = W 0 := Wd.zero_iff.2 (by rw [hW]; exact hz)
    (refine R.stepU ?_; (repeat' (first | (with_reducible refine And.intro ?_ ?_) | (with_reducible intro _))); all_goals refine R.Lft.mk ?_)
    refine ⟨?_, R.Own.below (by assumption)⟩
    rw [hcut, ← bytes_app, hr]
    unfold txt
    rw [← hK.out.1, show 160 - k = (159 - k) + 1 by omega]
    unfold decL
    rw [if_pos hz, List.reverse_append]
    rfl
  · have hWz : W (m.n / (W (Int.toNat 10)).n) ≠ W 0 := fun h => hz (by rw [← hW]; exact Wd.zero_iff.1 h)
    have hnext : R.Lft ((L ++ [48 + ((wd (W (m.n % (W (Int.toNat 10)).n)).n (Int.toNat 0) : Nat) : Int)]) ++ decL (160 - (k + 1)) (W (m.n / (W (Int.toNat 10)).n)).n = decL 160 a.n ∧ (W (m.n / (W (Int.toNat 10)).n)).n < 10 ^ (160 - (k + 1))) := ⟨by
      rw [hW]
      obtain ⟨h1, h2⟩ := hK.out
      constructor
      · rw [← h1, show 160 - k = (160 - (k + 1)) + 1 by omega, hr, List.append_assoc]
        conv => rhs; unfold decL
        rw [if_neg hz]
        rfl
      · rw [show 160 - k = (160 - (k + 1)) + 1 by omega, Nat.pow_succ] at h2
        exact Nat.div_lt_of_lt_mul (by rw [Nat.mul_comm]; exact h2)⟩
    have hk2 : k + 1 ≤ 159 := by
      rcases Nat.lt_or_ge k 159 with h | h
      · omega
      · have h2 := hnext.out.2
        rw [hW, show 160 - (k + 1) = 0 by omega, Nat.pow_zero] at h2
        omega
    (refine R.stepU ?_; (repeat' (first | (with_reducible refine And.intro ?_ ?_) | (with_reducible intro _))); all_goals refine R.Lft.mk ?_)
    rename_i hM
    refine ⟨(k + 1, W (m.n / (W (Int.toNat 10)).n), L ++ [48 + ((wd (W (m.n % (W (Int.toNat 10)).n)).n (Int.toNat 0) : Nat) : Int)]), ⟨rfl, rfl, rfl, ?_, rfl, trivial⟩, ⟨by dsimp only; omega, by dsimp only; simp [hl], hnext, hM.tl.tl⟩, by dsimp only; omega⟩
    dsimp only
    rw [List.reverse_append, List.reverse_singleton, bytes_app, ← hcut]
    rfl
instance con_text4 (a : Wd) : R.ConB Try.prog 65 #[.agg (cW a).toArray] Unit (fun _ _ => True) (fun _ => .string (txt a.n)) := ⟨fun _ w _ => text4 a w⟩
end Go.Proofs.Ytalaffabcnccgaa
