/- snicketref02: Trim and Over. -/
import Derived.Test.YtmoppmfbfpjdnaaGreatRf3
import Derived.Test.YtmoppmfbfpjdnaaGreatNum
namespace Go.Proofs.YtmoppmfbfpjdnaaGreat
open Go.RowKit
open R (In64 InU64 lo64 nth)

theorem Own.shrink {F : List Nat} {W w : World} {l : List R.Res} {A : Option Addr} {n c m : Nat} {e : TypeId} {sz : Nat} {cs : List Value} (h : R.Own F W w (.row A n c e sz cs :: l)) (hm : m ≤ n) : R.Own F W w (.row A m c e sz (cs.take (m * sz)) :: l) := by
  have h1 := h.ok _ (.head _)
  refine h.upd R.Upd.head ⟨rfl, rfl, rfl, Nat.le_refl _, fun _ _ _ => rfl⟩ ?_ (.inl rfl)
  refine ⟨?_, ?_⟩
  · rw [List.length_take, h1.1]
    exact Nat.min_eq_left (Nat.mul_le_mul_right _ hm)
  · rcases h1.2 with ⟨h2, h3⟩ | ⟨g, cap, cur, hv, hb, hg, h2, h3, h4, h5⟩
    · obtain rfl : m = 0 := by omega
      injection h2 with e1 e2 e3
      exact .inl ⟨by rw [e1, e3], rfl⟩
    · injection hv with e1 e2 e3
      refine .inr ⟨g, cap, cur, by rw [e1, e3], hb, hg, by omega, h3, h4, ?_⟩
      rw [← h5, List.take_take, Nat.min_eq_left (Nat.mul_le_mul_right _ hm)]
theorem take_cells (L : List Int) (m : Nat) : (L.flatMap R.cU).take (m * 1) = (L.take m).flatMap R.cU := by
  have h2 : ∀ L : List Int, L.flatMap R.cU = L.map (fun x => Value.int .u64 x) := fun L => by
    induction L with
    | nil => rfl
    | cons x L ih => rw [List.flatMap_cons, ih]; rfl
  rw [h2, h2, Nat.mul_one, List.map_take]
theorem DigI.take {L : List Int} (h : DigI L) (m : Nat) : DigI (L.take m) := fun x hx => h x (List.mem_of_mem_take hx)
/-! ### Trim -/
def trimK (L : List Int) : Nat → Nat
  | 0 => 0
  | k + 1 => if dg L k = 0 then trimK L k else k + 1
def trimN (L : List Int) : Nat := trimK L L.length
theorem trimK_le (L : List Int) (k : Nat) : trimK L k ≤ k := by
  induction k with
  | zero => exact Nat.le_refl _
  | succ k ih => unfold trimK; split <;> omega
theorem trimN_le (L : List Int) : trimN L ≤ L.length := trimK_le L _
theorem trimK_dv (L : List Int) (k : Nat) : dv (L.take (trimK L k)) = dv (L.take k) := by
  induction k with
  | zero => rfl
  | succ k ih =>
    unfold trimK
    split
    · rename_i h
      rw [ih, dv_take_succ, h, Nat.mul_zero, Nat.add_zero]
    · rfl
theorem trimN_dv (L : List Int) : dv (L.take (trimN L)) = dv L := by
  unfold trimN
  rw [trimK_dv, List.take_length]
theorem trim_any (A : Option Addr) (n c : Nat) (L : List Int) (w : World) (hA : R.Inp [] w A n 1 (L.flatMap R.cU)) (hn : n = L.length) (hd : DigI L) (hc : n ≤ c) (hb : n ≤ 1000000) :
    Calls Tryz.prog 28 #[.slice A n c] w fun e w' => e = .returned (.slice A (trimN L) c) ∧ w = w' := by
  have hM := R.Own.start [] w
  refine R.calls_of_WC (fn := Tryz.f28) Tryz.func28 rfl Tryz.ntmps28 (Nat.le_of_ble_eq_true rfl) ?_
  (refine R.stepV ?_; (repeat' (first | (with_reducible refine And.intro ?_ ?_) | (with_reducible intro _))); all_goals refine R.Lft.mk ?_)
  refine R.WC_loop (fun k : Nat => [(0, .slice A n c), (2, .slice none 0 0), (3, .int .i64 (k : Nat))])
    (fun k w1 => k ≤ n ∧ trimK L k = trimN L ∧ w = w1) (fun k => k) ⟨n, ⟨rfl, rfl, rfl, trivial⟩, Nat.le_refl _, by rw [hn]; rfl, rfl⟩ ?_
  rintro k f w1 ⟨hk, hv, rfl⟩
  rcases k with _ | i
  · (refine R.stepV ?_; (repeat' (first | (with_reducible refine And.intro ?_ ?_) | (with_reducible intro _))); all_goals refine R.Lft.mk ?_)
    rw [← hv]
    exact ⟨rfl, rfl⟩
  · have e1 := dg_nth hd (i := i) (by omega)
    have e2 := dg_lt hd i
    have e3 : (((i + 1 : Nat) : Int) - 1).toNat = i := by omega
    unfold trimK at hv
    by_cases h0 : dg L i = 0
    · rw [if_pos h0] at hv
      (refine R.stepV ?_; (repeat' (first | (with_reducible refine And.intro ?_ ?_) | (with_reducible intro _))); all_goals refine R.Lft.mk ?_)
      all_goals first | (exfalso; rename_i h; rw [e3] at h; omega) | exact ⟨i, ⟨rfl, rfl, R.viaI rfl (by omega), trivial⟩, ⟨by omega, hv, rfl⟩, by omega⟩
    · rw [if_neg h0] at hv
      (refine R.stepV ?_; (repeat' (first | (with_reducible refine And.intro ?_ ?_) | (with_reducible intro _))); all_goals refine R.Lft.mk ?_)
      all_goals first | (exfalso; rename_i h; rw [e3] at h; omega) | (rw [← hv]; exact ⟨rfl, rfl⟩)
instance con_trim (A : Option Addr) (n c : Nat) : R.ConP Tryz.prog 28 #[.slice A n c] (List Int) (fun L w => R.Inp [] w A n 1 (L.flatMap R.cU) ∧ n = L.length ∧ DigI L ∧ n ≤ c ∧ n ≤ 1000000) (fun L => .slice A (trimN L) c) := ⟨fun L w ⟨h1, h2, h3, h4, h5⟩ => trim_any A n c L w h1 h2 h3 h4 h5⟩
/-! ### Over -/
theorem ov_step {X y b : Nat} (hy : 0 < y) (hb : b < 2) :
    (y ≤ 2 * (X % y) + b → (2 * X + b) % y = 2 * (X % y) + b - y ∧ (2 * X + b) / y = 2 * (X / y) + 1) ∧ (2 * (X % y) + b < y → (2 * X + b) % y = 2 * (X % y) + b ∧ (2 * X + b) / y = 2 * (X / y)) := by
  obtain ⟨h1, h2⟩ := step_div (A := X) (w := b) (M := 2) hy
  have h3 := Nat.mod_lt X hy
  have h1' : (2 * X + b) / y = 2 * (X / y) + (2 * (X % y) + b) / y := by rw [Nat.mul_comm 2 X, h1, Nat.mul_comm (X / y) 2, Nat.mul_comm (X % y) 2]
  have h2' : (2 * X + b) % y = (2 * (X % y) + b) % y := by rw [Nat.mul_comm 2 X, h2, Nat.mul_comm (X % y) 2]
  rw [h1', h2']
  generalize X % y = r at *
  constructor
  · intro h
    have d1 : (2 * r + b) / y = 1 := Nat.div_eq_of_lt_le (by omega) (by omega)
    have d2 : (2 * r + b) % y = 2 * r + b - y := by rw [Nat.mod_eq_sub_mod h, Nat.mod_eq_of_lt (by omega)]
    rw [d1, d2]
    exact ⟨rfl, rfl⟩
  · intro h
    rw [Nat.mod_eq_of_lt h, Nat.div_eq_of_lt h]
    exact ⟨rfl, rfl⟩
theorem ov_room {Q : List Int} {i j t : Nat} (hQ : DigI Q) (hj : j < 16) (h : dv Q = 65536 ^ i * (2 ^ (j + 1) * t)) : dg Q i + 2 ^ j < 65536 := by
  have h1 : dg Q i = 2 ^ (j + 1) * t % 65536 := by
    have h2 : dv Q / 65536 ^ i % 65536 = dg Q i := dval_digit hQ.dig i
    rw [← h2, h, Nat.mul_div_cancel_left _ (Nat.pow_pos (by decide))]
  have e : (65536 : Nat) = 2 ^ (j + 1) * 2 ^ (15 - j) := by rw [← Nat.pow_add, show j + 1 + (15 - j) = 16 by omega]
  have h3 := Nat.mod_lt t (Nat.two_pow_pos (15 - j))
  have h4 : 2 ^ (j + 1) * (t % 2 ^ (15 - j) + 1) ≤ 2 ^ (j + 1) * 2 ^ (15 - j) := Nat.mul_le_mul_left _ h3
  rw [← e, Nat.mul_add, Nat.mul_one] at h4
  have h5 : 2 ^ (j + 1) * t % 65536 = 2 ^ (j + 1) * (t % 2 ^ (15 - j)) := by
    conv => lhs; rw [e]
    exact Nat.mul_mod_mul_left ..
  have h6 : 2 ^ (j + 1) = 2 ^ j * 2 := Nat.pow_succ ..
  have := Nat.two_pow_pos j
  omega
theorem ov_bit {L : List Int} (h : DigI L) (i j : Nat) (hj : j < 16) : dg L i / 2 ^ j % 2 = dv L / (65536 ^ i * 2 ^ j) % 2 := by
  have h2 : dv L / 65536 ^ i % 65536 = dg L i := dval_digit h.dig i
  rw [← h2, show (65536 : Nat) = 2 ^ 16 from rfl, mod_bit _ _ _ hj, ← Nat.div_div_eq_div_mul]
theorem ov_half (N i j : Nat) : N / (65536 ^ i * 2 ^ j) = 2 * (N / (65536 ^ i * 2 ^ (j + 1))) + N / (65536 ^ i * 2 ^ j) % 2 := by
  have e : 65536 ^ i * 2 ^ (j + 1) = 65536 ^ i * 2 ^ j * 2 := by rw [Nat.pow_succ, Nat.mul_assoc]
  rw [e, ← Nat.div_div_eq_div_mul N (65536 ^ i * 2 ^ j) 2]
  generalize N / (65536 ^ i * 2 ^ j) = z
  omega
/-- What is held to behind some bits. -/
structure OvI (N y i j : Nat) (Q zs : List Int) : Prop where
  q : dv Q = 65536 ^ i * 2 ^ j * (N / (65536 ^ i * 2 ^ j) / y)
  r : dv zs = N / (65536 ^ i * 2 ^ j) % y
theorem OvI.down {N y i : Nat} {Q zs : List Int} (h : OvI N y (i + 1) 0 Q zs) : OvI N y i 16 Q zs := by
  have e : 65536 ^ (i + 1) * 2 ^ 0 = 65536 ^ i * 2 ^ 16 := by rw [Nat.pow_succ, Nat.pow_zero, Nat.mul_one]
  exact ⟨by rw [← e]; exact h.q, by rw [← e]; exact h.r⟩
theorem OvI.skip {N y i : Nat} {xs Q zs : List Int} (hx : DigI xs) (hN : N = dv xs) (hy : 0 < y) (h : OvI N y (i + 1) 0 Q zs) (h0 : dg xs i = 0) (hz : dv zs = 0) : OvI N y i 0 Q zs := by
  have h2 : dv xs / 65536 ^ i % 65536 = dg xs i := dval_digit hx.dig i
  have hq := h.q
  have hr := h.r
  rw [Nat.pow_succ, Nat.pow_zero, Nat.mul_one] at hq hr
  rw [hz] at hr
  have e : N / 65536 ^ i = 65536 * (N / (65536 ^ i * 65536)) := by
    rw [← Nat.div_div_eq_div_mul]
    rw [← hN, h0] at h2
    omega
  have hd := Nat.div_add_mod (N / (65536 ^ i * 65536)) y
  rw [← hr, Nat.add_zero] at hd
  refine ⟨?_, ?_⟩
  · rw [Nat.pow_zero, Nat.mul_one, hq, e]
    conv => rhs; rw [← hd]
    rw [Nat.mul_left_comm, Nat.mul_div_cancel_left _ hy, Nat.mul_assoc]
  · rw [Nat.pow_zero, Nat.mul_one, hz, e]
    conv => rhs; rw [← hd]
    rw [Nat.mul_left_comm, Nat.mul_mod_right]
theorem OvI.keep {N y i j b : Nat} {xs Q zs zs' : List Int} (hx : DigI xs) (hN : N = dv xs) (hy : 0 < y) (hj : j < 16) (h : OvI N y i (j + 1) Q zs) (hb : dg xs i / 2 ^ j % 2 = b) (hz : dv zs' = 2 * dv zs + b) (hlt : dv zs' < y) : OvI N y i j Q zs' := by
  rw [ov_bit hx i j hj, ← hN] at hb
  have h1 := ov_half N i j
  rw [hb] at h1
  have h2 := (ov_step (X := N / (65536 ^ i * 2 ^ (j + 1))) (b := b) hy (by omega)).2 (by rw [← h.r, ← hz]; exact hlt)
  rw [← h1] at h2
  refine ⟨?_, by rw [h2.1, ← h.r]; exact hz⟩
  rw [h.q, h2.2, Nat.pow_succ]
  simp only [Nat.mul_assoc]
theorem OvI.take {N y i j b : Nat} {xs Q zs zs' zs2 : List Int} (hx : DigI xs) (hN : N = dv xs) (hy : 0 < y) (hj : j < 16) (hQ : DigI Q) (hi : i < Q.length) (h : OvI N y i (j + 1) Q zs) (hb : dg xs i / 2 ^ j % 2 = b) (hz : dv zs' = 2 * dv zs + b) (hge : y ≤ dv zs') (hz2 : dv zs2 = dv zs' - y) :
    dg Q i + 2 ^ j < 65536 ∧ OvI N y i j (Q.set i ((dg Q i + 2 ^ j : Nat) : Int)) zs2 := by
  have hroom := ov_room (t := N / (65536 ^ i * 2 ^ (j + 1)) / y) hQ hj (by rw [h.q, Nat.mul_assoc])
  refine ⟨hroom, ?_⟩
  rw [ov_bit hx i j hj, ← hN] at hb
  have h1 := ov_half N i j
  rw [hb] at h1
  have h2 := (ov_step (X := N / (65536 ^ i * 2 ^ (j + 1))) (b := b) hy (by omega)).1 (by rw [← h.r, ← hz]; exact hge)
  rw [← h1] at h2
  refine ⟨?_, by rw [h2.1, ← h.r, hz2, hz]⟩
  have h3 := dv_set Q i ((dg Q i + 2 ^ j : Nat) : Int) hi
  rw [Int.toNat_natCast, Nat.mul_add] at h3
  have h4 : dv (Q.set i ((dg Q i + 2 ^ j : Nat) : Int)) = dv Q + 65536 ^ i * 2 ^ j := by omega
  rw [h4, h.q, h2.2, Nat.mul_add, Nat.mul_one, Nat.pow_succ]
  simp only [Nat.mul_assoc]
theorem OvI.done {N y : Nat} {Q zs : List Int} (h : OvI N y 0 0 Q zs) : dv Q = N / y ∧ dv zs = N % y := by
  have h1 := h.q
  have h2 := h.r
  simp at h1 h2
  exact ⟨h1, h2⟩
theorem OvI.start {N y n : Nat} {Q zs : List Int} (hN : N < 65536 ^ n) (hQ : dv Q = 0) (hz : dv zs = 0) : OvI N y n 0 Q zs := by
  have h1 : N / (65536 ^ n * 2 ^ 0) = 0 := by rw [Nat.pow_zero, Nat.mul_one]; exact Nat.div_eq_of_lt hN
  refine ⟨by rw [h1, hQ]; simp, by rw [h1, hz]; simp⟩
end Go.Proofs.YtmoppmfbfpjdnaaGreat
