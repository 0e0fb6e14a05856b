/- Package quot: twos and Gcd; snicketref04: Gcd. snicketref04: Gcd. -/
import Derived.Test.YtmoppmfbfpjdnaaGreatQt
namespace Go.Proofs.YtmoppmfbfpjdnaaGreat
open Go.RowKit
open R (In64 InU64 lo64 nth)

theorem tz_lt512 (a : Wd) (h : a.n ≠ 0) : tz a.n < 512 := by
  obtain ⟨N, hN, hw⟩ := W512_pow
  have h1 := tz_bound (tz_ex h)
  have h2 := a.lt
  rw [hw] at h2
  have := (Nat.pow_lt_pow_iff_right (by omega : 1 < 2)).1 (Nat.lt_of_le_of_lt h1 h2)
  omega
theorem nb_t {p : Prop} [Decidable p] (h : (!decide p) = true) : ¬p := fun hp => by rw [decide_eq_true hp] at h; cases h
theorem nb_f {p : Prop} [Decidable p] (h : (!decide p) = false) : p := Decidable.byContradiction fun hp => by rw [decide_eq_false hp] at h; cases h
set_option maxRecDepth 20000 in
set_option maxHeartbeats 1000000 in
theorem twos_any4 (a : Wd) (h0 : a.n ≠ 0) (w : World) : Calls Tryz.prog 110 #[.agg (cW a).toArray] w fun e w' => e = .returned (.int .i64 (tz a.n : Nat)) ∧ Below w.heap.size w w' := by
  have hM := R.Own.start [] w
  have ht := tz_lt512 a h0
  refine R.calls_of_WC (fn := Tryz.f110) Tryz.func110 rfl Tryz.ntmps110 (Nat.le_of_ble_eq_true rfl) ?_
  (refine R.stepV ?_; (repeat' (first | (with_reducible refine And.intro ?_ ?_) | (with_reducible intro _))); all_goals refine R.Lft.mk ?_)
  rename_i g w1 hM
  refine R.WC_loop (fun n : Nat => [(1, .pointer (some ⟨g, 0, none⟩)), (2, .int .i64 0), (3, .int .i64 (n : Nat))])
    (fun n w2 => n ≤ tz a.n ∧ a.n % 2 ^ n = 0 ∧ R.Own [] w w2 [.blk g 44 (cW a)]) (fun n => tz a.n - n)
    ⟨0, ⟨rfl, rfl, rfl, trivial⟩, Nat.zero_le _, by simp [Nat.mod_one], hM⟩ ?_
  rintro n f w2 ⟨hn, hz, hM⟩
  by_cases hb : a.n / 2 ^ n % 2 = 1
  · have hB : (0 ≤ (n : Int) ∧ (n : Int) < 512 ∧ a.n / 2 ^ (n : Int).toNat % 2 = 1) := ⟨by omega, by omega, by rw [Int.toNat_natCast]; exact hb⟩
    have e := tz_is (⟨hz, hb⟩ : IsTz a.n n)
    have hK := R.Lft.mk hB
    clear hB hz hb
    (refine R.stepV ?_; (repeat' (first | (with_reducible refine And.intro ?_ ?_) | (with_reducible intro _))); all_goals refine R.Lft.mk ?_; (all_goals (try (exact ⟨rfl, R.Own.below (by assumption)⟩))))
    all_goals first | (rename_i h; exact absurd hK.out (nb_t h)) | (rw [e]; exact ⟨rfl, R.Own.below (by assumption)⟩)
  · have hB : ¬ (0 ≤ (n : Int) ∧ (n : Int) < 512 ∧ a.n / 2 ^ (n : Int).toNat % 2 = 1) := fun h => hb (by have := h.2.2; rwa [Int.toNat_natCast] at this)
    have hz2 := tz_step hz hb
    have hlt := tz_lt (tz_ex h0) hz2
    have hK := R.Lft.mk hB
    have hZ := R.Lft.mk hz2
    clear hB hz hb hz2
    (refine R.stepV ?_; (repeat' (first | (with_reducible refine And.intro ?_ ?_) | (with_reducible intro _))); all_goals refine R.Lft.mk ?_; (all_goals (try (exact ⟨rfl, R.Own.below (by assumption)⟩))))
    · rename_i hM _
      exact ⟨n + 1, ⟨rfl, rfl, R.viaI rfl (by omega), trivial⟩, ⟨hlt, hZ.out, hM⟩, by omega⟩
    all_goals (rename_i h; exact absurd (nb_f h) hK.out)
instance con_twos (a : Wd) : R.ConB Tryz.prog 110 #[.agg (cW a).toArray] Unit (fun _ _ => a.n ≠ 0) (fun _ => .int .i64 (tz a.n : Nat)) := ⟨fun _ w h => twos_any4 a h w⟩
/-! ### Gcd -/
def gcdW (a b : Wd) : Wd := W (Nat.gcd a.n b.n)
theorem gcd_lt (a b : Wd) : Nat.gcd a.n b.n < W512 := by
  rcases Nat.eq_zero_or_pos a.n with h | h
  · rw [h, Nat.gcd_zero_left]; exact b.lt
  · exact Nat.lt_of_le_of_lt (Nat.gcd_le_left _ h) a.lt
theorem shW_down (a : Wd) (n : Nat) : (shW a (-(n : Int))).n = a.n / 2 ^ n := shI_down _ _ a.lt
set_option maxRecDepth 20000 in
attribute [local irreducible] W512 in
set_option maxHeartbeats 4000000 in
theorem gcd_any (a b : Wd) (w : World) : Calls Tryz.prog 100 #[.agg (cW a).toArray, .agg (cW b).toArray] w fun e w' => e = .returned (.agg (cW (gcdW a b)).toArray) ∧ Below w.heap.size w w' := by
  have hM := R.Own.start [] w
  by_cases ha : a.n = 0
  · have e1 : gcdW a b = b := Wd.ext_ (by
      unfold gcdW
      rw [W_n (gcd_lt a b), ha, Nat.gcd_zero_left])
    refine R.calls_of_WC (fn := Tryz.f100) Tryz.func100 rfl Tryz.ntmps100 (Nat.le_of_ble_eq_true rfl) ?_
    (refine R.stepU ?_; (repeat' (first | (with_reducible refine And.intro ?_ ?_) | (with_reducible intro _))); all_goals refine R.Lft.mk ?_; (all_goals (try (exact ⟨rfl, R.Own.below (by assumption)⟩))))
    rw [e1]
    exact ⟨rfl, R.Own.below (by assumption)⟩
  by_cases hb : b.n = 0
  · have e1 : gcdW a b = a := Wd.ext_ (by
      unfold gcdW
      rw [W_n (gcd_lt a b), hb, Nat.gcd_zero_right])
    refine R.calls_of_WC (fn := Tryz.f100) Tryz.func100 rfl Tryz.ntmps100 (Nat.le_of_ble_eq_true rfl) ?_
    (refine R.stepU ?_; (repeat' (first | (with_reducible refine And.intro ?_ ?_) | (with_reducible intro _))); all_goals refine R.Lft.mk ?_; (all_goals (try (exact ⟨rfl, R.Own.below (by assumption)⟩))))
    rw [e1]
    exact ⟨rfl, R.Own.below (by assumption)⟩
  have hta := tz_lt512 a ha
  have htb := tz_lt512 b hb
  refine R.calls_of_WC (fn := Tryz.f100) Tryz.func100 rfl Tryz.ntmps100 (Nat.le_of_ble_eq_true rfl) ?_
  (refine R.stepU ?_; (repeat' (first | (with_reducible refine And.intro ?_ ?_) | (with_reducible intro _))); all_goals refine R.Lft.mk ?_; (all_goals (try (exact ⟨rfl, R.Own.below (by assumption)⟩))))
  rename_i g1 _ _ g2 _ _ g3 _ _ _ _ _ _
  refine R.WC_planX [(0, false), (2, false), (1, true), (3, true), (4, false), (5, false)] R.mixed (by decide +kernel) R.ohm ?_
  (refine R.stepU ?_; (repeat' (first | (with_reducible refine And.intro ?_ ?_) | (with_reducible intro _))); all_goals refine R.Lft.mk ?_; (all_goals (try (exact ⟨rfl, R.Own.below (by assumption)⟩))))
  (refine R.WC_planK 2 [(0, false), (1, false), (5, false), (6, false), (2, true), (3, false), (4, true), (7, true), (8, false), (9, true), (10, true), (11, true)] R.mixed (by decide +kernel) R.ohm ?_; simp only [List.take_succ_cons, List.take_zero])
  (refine R.stepU ?_; (repeat' (first | (with_reducible refine And.intro ?_ ?_) | (with_reducible intro _))); all_goals refine R.Lft.mk ?_; (all_goals (try (exact ⟨rfl, R.Own.below (by assumption)⟩))))
  rename_i w1 hM
  refine R.WC_loop (fun s : Wd × Wd => [(2, .pointer (some ⟨g1, 0, none⟩)), (3, .pointer (some ⟨g2, 0, none⟩)), (4, .pointer (some ⟨g3, 0, none⟩)), (5, .int .i64 (min (tz a.n : Nat) (tz b.n : Nat)))])
    (fun s w2 => Nat.gcd s.1.n s.2.n = Nat.gcd (a.n / 2 ^ tz a.n) (b.n / 2 ^ tz b.n) ∧ s.1.n % 2 = 1 ∧ s.2.n % 2 = 1 ∧ R.Own [] w w2 [.blk g3 44 (cW (W 0)), .blk g2 44 (cW s.2), .blk g1 44 (cW s.1)]) (fun s => s.1.n + s.2.n)
    ⟨(shW a (-(tz a.n : Nat)), shW b (-(tz b.n : Nat))), ⟨rfl, rfl, rfl, rfl, trivial⟩, by dsimp only; rw [shW_down, shW_down], by dsimp only; rw [shW_down]; exact (tz_ex ha).2, by dsimp only; rw [shW_down]; exact (tz_ex hb).2, hM⟩ ?_
  clear hM
  rintro ⟨x, y⟩ f w2 ⟨hG, ox, oy, hM⟩
  dsimp only at hG ox oy hM ⊢
  by_cases hxy : x = y
  · subst hxy
    have e1 : gcdW a b = shW x (min ((tz a.n : Nat) : Int) (tz b.n : Nat)) := Wd.ext_ (by
      unfold gcdW
      have h1 := gcd_twos ha hb
      have h2 := gcd_lt a b
      rw [← hG, Nat.gcd_self] at h1
      show (W _).n = shI x.n _
      rw [W_n h2, show min ((tz a.n : Nat) : Int) (tz b.n : Nat) = ((min (tz a.n) (tz b.n) : Nat) : Int) by omega, shI_up, ← h1, Nat.mod_eq_of_lt h2])
    clear hG
    (refine R.stepU ?_; (repeat' (first | (with_reducible refine And.intro ?_ ?_) | (with_reducible intro _))); all_goals refine R.Lft.mk ?_; (all_goals (try (exact ⟨rfl, R.Own.below (by assumption)⟩))))
    all_goals first | exact absurd rfl (by assumption) | (rw [e1]; exact ⟨rfl, R.Own.below (by assumption)⟩)
  · have hne : x.n ≠ y.n := fun h => hxy (Wd.ext_ h)
    by_cases hlt : x.n < y.n
    · have hc : cmpI x.n y.n < 0 := (cmpI_neg _ _).2 hlt
      have hd : (difW y x).n = y.n - x.n := dif_of_le y.lt (by omega)
      have hd0 : (difW y x).n ≠ 0 := by omega
      have hr := gcd_round ox hlt
      have hs := shW_down (difW y x) (tz (difW y x).n)
      have ho := (tz_ex hd0).2
      have hle := Nat.div_le_self (difW y x).n (2 ^ tz (difW y x).n)
      have htz := tz_lt512 (difW y x) hd0
      rw [← hd, ← hs] at hr
      rw [← hs] at ho hle
      clear hs
      have hK := R.Lft.mk (And.intro hG (And.intro hr ho))
      clear hG hr ho
      (refine R.stepU ?_; (repeat' (first | (with_reducible refine And.intro ?_ ?_) | (with_reducible intro _))); all_goals refine R.Lft.mk ?_; (all_goals (try (exact ⟨rfl, R.Own.below (by assumption)⟩))))
      refine R.WC_planX [(0, false), (1, false), (2, true), (3, false), (4, true), (5, true)] R.mixed (by decide +kernel) R.ohm ?_
      (refine R.stepU ?_; (repeat' (first | (with_reducible refine And.intro ?_ ?_) | (with_reducible intro _))); all_goals refine R.Lft.mk ?_; (all_goals (try (exact ⟨rfl, R.Own.below (by assumption)⟩))))
      rename_i hM
      exact ⟨(shW (difW y x) (-(tz (difW y x).n : Nat)), x), ⟨rfl, rfl, rfl, rfl, trivial⟩, ⟨by dsimp only; rw [hK.out.2.1, Nat.gcd_comm]; exact hK.out.1, hK.out.2.2, ox, hM⟩, by dsimp only; omega⟩
    · have hc : ¬ cmpI x.n y.n < 0 := fun h => hlt ((cmpI_neg _ _).1 h)
      have hd : (difW x y).n = x.n - y.n := dif_of_le x.lt (by omega)
      have hd0 : (difW x y).n ≠ 0 := by omega
      have hr := gcd_round oy (by omega : y.n < x.n)
      have hs := shW_down (difW x y) (tz (difW x y).n)
      have ho := (tz_ex hd0).2
      have hle := Nat.div_le_self (difW x y).n (2 ^ tz (difW x y).n)
      have htz := tz_lt512 (difW x y) hd0
      rw [← hd, ← hs] at hr
      rw [← hs] at ho hle
      clear hs
      have hK := R.Lft.mk (And.intro hG (And.intro hr ho))
      clear hG hr ho
      (refine R.stepU ?_; (repeat' (first | (with_reducible refine And.intro ?_ ?_) | (with_reducible intro _))); all_goals refine R.Lft.mk ?_; (all_goals (try (exact ⟨rfl, R.Own.below (by assumption)⟩))))
      refine R.WC_planX [(0, false), (1, false), (2, true), (3, false), (4, true), (5, true)] R.mixed (by decide +kernel) R.ohm ?_
      (refine R.stepU ?_; (repeat' (first | (with_reducible refine And.intro ?_ ?_) | (with_reducible intro _))); all_goals refine R.Lft.mk ?_; (all_goals (try (exact ⟨rfl, R.Own.below (by assumption)⟩))))
      rename_i hM
      exact ⟨(shW (difW x y) (-(tz (difW x y).n : Nat)), y), ⟨rfl, rfl, rfl, rfl, trivial⟩, ⟨by dsimp only; rw [hK.out.2.1]; exact hK.out.1, hK.out.2.2, oy, hM⟩, by dsimp only; omega⟩
instance con_gcd (a b : Wd) : R.ConB Tryz.prog 100 #[.agg (cW a).toArray, .agg (cW b).toArray] Unit (fun _ _ => True) (fun _ => .agg (cW (gcdW a b)).toArray) := ⟨fun _ w _ => gcd_any a b w⟩
end Go.Proofs.YtmoppmfbfpjdnaaGreat
namespace Go.Proofs.YtmoppmfbfpjdnaaGreat
open Go.RowKit
open R (In64 InU64 lo64 nth)

theorem rnd_start (a b : Wd) : (rnd 1000 (a.n, b.n)).2 = 0 := by
  obtain ⟨N, hN, hw⟩ := W512_pow
  exact rnd_enough hN (by rw [← hw]; exact a.lt) (by rw [← hw]; exact b.lt)
end Go.Proofs.YtmoppmfbfpjdnaaGreat
