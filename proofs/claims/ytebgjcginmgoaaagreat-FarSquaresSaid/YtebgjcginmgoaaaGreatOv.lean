/- snicketref02: Trim and Over. -/
import Derived.Test.YtebgjcginmgoaaaGreatRf3
import Derived.Test.YtebgjcginmgoaaaGreatNum
namespace Go.Proofs.YtebgjcginmgoaaaGreat
open Go.RowKit
open R (In64 InU64 lo64 nth)

theorem Own.shrink {F : List Nat} {W w : World} {l : List R.Res} {A : Option Addr} {n c m : Nat} {e : TypeId} {sz : Nat} {cs : List Value} (h : R.Own F W w (.row A n c e sz cs :: l)) (hm : m ≤ n) : R.Own F W w (.row A m c e sz (cs.take (m * sz)) :: l) := by
  have h1 := h.ok _ (.head _)
  refine h.upd R.Upd.head ⟨rfl, rfl, rfl, Nat.le_refl _, fun _ _ _ => rfl⟩ ?_ (.inl rfl)
  refine ⟨?_, ?_⟩
  · rw [List.length_take, h1.1]
    exact Nat.min_eq_left (Nat.mul_le_mul_right _ hm)
  · rcases h1.2 with ⟨h2, h3⟩ | ⟨g, cap, cur, hv, hb, hg, h2, h3, h4, h5⟩
    · obtain rfl : m = 0 := by omega
      injection h2 with e1 e2 e3
      exact .inl ⟨by rw [e1, e3], rfl⟩
    · injection hv with e1 e2 e3
      refine .inr ⟨g, cap, cur, by rw [e1, e3], hb, hg, by omega, h3, h4, ?_⟩
      rw [← h5, List.take_take, Nat.min_eq_left (Nat.mul_le_mul_right _ hm)]
theorem take_cells (L : List Int) (m : Nat) : (L.flatMap R.cU).take (m * 1) = (L.take m).flatMap R.cU := by
  have h2 : ∀ L : List Int, L.flatMap R.cU = L.map (fun x => Value.int .u64 x) := fun L => by
    induction L with
    | nil => rfl
    | cons x L ih => rw [List.flatMap_cons, ih]; rfl
  rw [h2, h2, Nat.mul_one, List.map_take]
theorem DigI.take {L : List Int} (h : DigI L) (m : Nat) : DigI (L.take m) := fun x hx => h x (List.mem_of_mem_take hx)
/-! ### Trim -/
def trimK (L : List Int) : Nat → Nat
  | 0 => 0
  | k + 1 => if dg L k = 0 then trimK L k else k + 1
def trimN (L : List Int) : Nat := trimK L L.length
theorem trimK_le (L : List Int) (k : Nat) : trimK L k ≤ k := by
  induction k with
  | zero => exact Nat.le_refl _
  | succ k ih => unfold trimK; split <;> omega
theorem trimN_le (L : List Int) : trimN L ≤ L.length := trimK_le L _
theorem trimK_dv (L : List Int) (k : Nat) : dv (L.take (trimK L k)) = dv (L.take k) := by
  induction k with
  | zero => rfl
  | succ k ih =>
    unfold trimK
    split
    · rename_i h
      rw [ih, dv_take_succ, h, Nat.mul_zero, Nat.add_zero]
    · rfl
theorem trimN_dv (L : List Int) : dv (L.take (trimN L)) = dv L := by
  unfold trimN
  rw [trimK_dv, List.take_length]
theorem trim_any (A : Option Addr) (n c : Nat) (L : List Int) (w : World) (hA : R.Inp [] w A n 1 (L.flatMap R.cU)) (hn : n = L.length) (hd : DigI L) (hc : n ≤ c) (hb : n ≤ 1000000) :
    Calls Tryz.prog 39 #[.slice A n c] w fun e w' => e = .returned (.slice A (trimN L) c) ∧ w = w' := by
  have hM := R.Own.start [] w
  refine R.calls_of_WC (fn := Tryz.f39) Tryz.func39 rfl Tryz.ntmps39 (Nat.le_of_ble_eq_true rfl) ?_
  (refine R.stepV ?_; (repeat' (first | (with_reducible refine And.intro ?_ ?_) | (with_reducible intro _))); all_goals refine R.Lft.mk ?_)
  refine R.WC_loop (fun k : Nat => [(0, .slice A n c), (2, .slice none 0 0), (3, .int .i64 (k : Nat))])
    (fun k w1 => k ≤ n ∧ trimK L k = trimN L ∧ w = w1) (fun k => k) ⟨n, ⟨rfl, rfl, rfl, trivial⟩, Nat.le_refl _, by rw [hn]; rfl, rfl⟩ ?_
  rintro k f w1 ⟨hk, hv, rfl⟩
  rcases k with _ | i
  · (refine R.stepV ?_; (repeat' (first | (with_reducible refine And.intro ?_ ?_) | (with_reducible intro _))); all_goals refine R.Lft.mk ?_)
    rw [← hv]
    exact ⟨rfl, rfl⟩
  · have e1 := dg_nth hd (i := i) (by omega)
    have e2 := dg_lt hd i
    have e3 : (((i + 1 : Nat) : Int) - 1).toNat = i := by omega
    unfold trimK at hv
    by_cases h0 : dg L i = 0
    · rw [if_pos h0] at hv
      (refine R.stepV ?_; (repeat' (first | (with_reducible refine And.intro ?_ ?_) | (with_reducible intro _))); all_goals refine R.Lft.mk ?_)
      all_goals first | (exfalso; rename_i h; rw [e3] at h; omega) | exact ⟨i, ⟨rfl, rfl, R.viaI rfl (by omega), trivial⟩, ⟨by omega, hv, rfl⟩, by omega⟩
    · rw [if_neg h0] at hv
      (refine R.stepV ?_; (repeat' (first | (with_reducible refine And.intro ?_ ?_) | (with_reducible intro _))); all_goals refine R.Lft.mk ?_)
      all_goals first | (exfalso; rename_i h; rw [e3] at h; omega) | (rw [← hv]; exact ⟨rfl, rfl⟩)
instance con_trim (A : Option Addr) (n c : Nat) : R.ConP Tryz.prog 39 #[.slice A n c] (List Int) (fun L w => R.Inp [] w A n 1 (L.flatMap R.cU) ∧ n = L.length ∧ DigI L ∧ n ≤ c ∧ n ≤ 1000000) (fun L => .slice A (trimN L) c) := ⟨fun L w ⟨h1, h2, h3, h4, h5⟩ => trim_any A n c L w h1 h2 h3 h4 h5⟩
/-! ### Over -/
theorem ov_step {X y b : Nat} (hy : 0 < y) (hb : b < 2) :
    (y ≤ 2 * (X % y) + b → (2 * X + b) % y = 2 * (X % y) + b - y ∧ (2 * X + b) / y = 2 * (X / y) + 1) ∧ (2 * (X % y) + b < y → (2 * X + b) % y = 2 * (X % y) + b ∧ (2 * X + b) / y = 2 * (X / y)) := by
  obtain ⟨h1, h2⟩ := step_div (A := X) (w := b) (M := 2) hy
  have h3 := Nat.mod_lt X hy
  have h1' : (2 * X + b) / y = 2 * (X / y) + (2 * (X % y) + b) / y := by rw [Nat.mul_comm 2 X, h1, Nat.mul_comm (X / y) 2, Nat.mul_comm (X % y) 2]
  have h2' : (2 * X + b) % y = (2 * (X % y) + b) % y := by rw [Nat.mul_comm 2 X, h2, Nat.mul_comm (X % y) 2]
  rw [h1', h2']
  generalize X % y = r at *
  constructor
  · intro h
    have d1 : (2 * r + b) / y = 1 := Nat.div_eq_of_lt_le (by omega) (by omega)
    have d2 : (2 * r + b) % y = 2 * r + b - y := by rw [Nat.mod_eq_sub_mod h, Nat.mod_eq_of_lt (by omega)]
    rw [d1, d2]
    exact ⟨rfl, rfl⟩
  · intro h
    rw [Nat.mod_eq_of_lt h, Nat.div_eq_of_lt h]
    exact ⟨rfl, rfl⟩
theorem ov_room {Q : List Int} {i j t : Nat} (hQ : DigI Q) (hj : j < 16) (h : dv Q = 65536 ^ i * (2 ^ (j + 1) * t)) : dg Q i + 2 ^ j < 65536 := by
  have h1 : dg Q i = 2 ^ (j + 1) * t % 65536 := by
    have h2 : dv Q / 65536 ^ i % 65536 = dg Q i := dval_digit hQ.dig i
    rw [← h2, h, Nat.mul_div_cancel_left _ (Nat.pow_pos (by decide))]
  have e : (65536 : Nat) = 2 ^ (j + 1) * 2 ^ (15 - j) := by rw [← Nat.pow_add, show j + 1 + (15 - j) = 16 by omega]
  have h3 := Nat.mod_lt t (Nat.two_pow_pos (15 - j))
  have h4 : 2 ^ (j + 1) * (t % 2 ^ (15 - j) + 1) ≤ 2 ^ (j + 1) * 2 ^ (15 - j) := Nat.mul_le_mul_left _ h3
  rw [← e, Nat.mul_add, Nat.mul_one] at h4
  have h5 : 2 ^ (j + 1) * t % 65536 = 2 ^ (j + 1) * (t % 2 ^ (15 - j)) := by
    conv => lhs; rw [e]
    exact Nat.mul_mod_mul_left ..
  have h6 : 2 ^ (j + 1) = 2 ^ j * 2 := Nat.pow_succ ..
  have := Nat.two_pow_pos j
  omega
theorem ov_bit {L : List Int} (h : DigI L) (i j : Nat) (hj : j < 16) : dg L i / 2 ^ j % 2 = dv L / (65536 ^ i * 2 ^ j) % 2 := by
  have h2 : dv L / 65536 ^ i % 65536 = dg L i := dval_digit h.dig i
  rw [← h2, show (65536 : Nat) = 2 ^ 16 from rfl, mod_bit _ _ _ hj, ← Nat.div_div_eq_div_mul]
theorem ov_half (N i j : Nat) : N / (65536 ^ i * 2 ^ j) = 2 * (N / (65536 ^ i * 2 ^ (j + 1))) + N / (65536 ^ i * 2 ^ j) % 2 := by
  have e : 65536 ^ i * 2 ^ (j + 1) = 65536 ^ i * 2 ^ j * 2 := by rw [Nat.pow_succ, Nat.mul_assoc]
  rw [e, ← Nat.div_div_eq_div_mul N (65536 ^ i * 2 ^ j) 2]
  generalize N / (65536 ^ i * 2 ^ j) = z
  omega
/-- What is held to behind some bits. -/
structure OvI (N y i j : Nat) (Q zs : List Int) : Prop where
  q : dv Q = 65536 ^ i * 2 ^ j * (N / (65536 ^ i * 2 ^ j) / y)
  r : dv zs = N / (65536 ^ i * 2 ^ j) % y
theorem OvI.down {N y i : Nat} {Q zs : List Int} (h : OvI N y (i + 1) 0 Q zs) : OvI N y i 16 Q zs := by
  have e : 65536 ^ (i + 1) * 2 ^ 0 = 65536 ^ i * 2 ^ 16 := by rw [Nat.pow_succ, Nat.pow_zero, Nat.mul_one]
  exact ⟨by rw [← e]; exact h.q, by rw [← e]; exact h.r⟩
theorem OvI.skip {N y i : Nat} {xs Q zs : List Int} (hx : DigI xs) (hN : N = dv xs) (hy : 0 < y) (h : OvI N y (i + 1) 0 Q zs) (h0 : dg xs i = 0) (hz : dv zs = 0) : OvI N y i 0 Q zs := by
  have h2 : dv xs / 65536 ^ i % 65536 = dg xs i := dval_digit hx.dig i
  have hq := h.q
  have hr := h.r
  rw [Nat.pow_succ, Nat.pow_zero, Nat.mul_one] at hq hr
  rw [hz] at hr
  have e : N / 65536 ^ i = 65536 * (N / (65536 ^ i * 65536)) := by
    rw [← Nat.div_div_eq_div_mul]
    rw [← hN, h0] at h2
    omega
  have hd := Nat.div_add_mod (N / (65536 ^ i * 65536)) y
  rw [← hr, Nat.add_zero] at hd
  refine ⟨?_, ?_⟩
  · rw [Nat.pow_zero, Nat.mul_one, hq, e]
    conv => rhs; rw [← hd]
    rw [Nat.mul_left_comm, Nat.mul_div_cancel_left _ hy, Nat.mul_assoc]
  · rw [Nat.pow_zero, Nat.mul_one, hz, e]
    conv => rhs; rw [← hd]
    rw [Nat.mul_left_comm, Nat.mul_mod_right]
theorem OvI.keep {N y i j b : Nat} {xs Q zs zs' : List Int} (hx : DigI xs) (hN : N = dv xs) (hy : 0 < y) (hj : j < 16) (h : OvI N y i (j + 1) Q zs) (hb : dg xs i / 2 ^ j % 2 = b) (hz : dv zs' = 2 * dv zs + b) (hlt : dv zs' < y) : OvI N y i j Q zs' := by
  rw [ov_bit hx i j hj, ← hN] at hb
  have h1 := ov_half N i j
  rw [hb] at h1
  have h2 := (ov_step (X := N / (65536 ^ i * 2 ^ (j + 1))) (b := b) hy (by omega)).2 (by rw [← h.r, ← hz]; exact hlt)
  rw [← h1] at h2
  refine ⟨?_, by rw [h2.1, ← h.r]; exact hz⟩
  rw [h.q, h2.2, Nat.pow_succ]
  simp only [Nat.mul_assoc]
theorem OvI.take {N y i j b : Nat} {xs Q zs zs' zs2 : List Int} (hx : DigI xs) (hN : N = dv xs) (hy : 0 < y) (hj : j < 16) (hQ : DigI Q) (hi : i < Q.length) (h : OvI N y i (j + 1) Q zs) (hb : dg xs i / 2 ^ j % 2 = b) (hz : dv zs' = 2 * dv zs + b) (hge : y ≤ dv zs') (hz2 : dv zs2 = dv zs' - y) :
    dg Q i + 2 ^ j < 65536 ∧ OvI N y i j (Q.set i ((dg Q i + 2 ^ j : Nat) : Int)) zs2 := by
  have hroom := ov_room (t := N / (65536 ^ i * 2 ^ (j + 1)) / y) hQ hj (by rw [h.q, Nat.mul_assoc])
  refine ⟨hroom, ?_⟩
  rw [ov_bit hx i j hj, ← hN] at hb
  have h1 := ov_half N i j
  rw [hb] at h1
  have h2 := (ov_step (X := N / (65536 ^ i * 2 ^ (j + 1))) (b := b) hy (by omega)).1 (by rw [← h.r, ← hz]; exact hge)
  rw [← h1] at h2
  refine ⟨?_, by rw [h2.1, ← h.r, hz2, hz]⟩
  have h3 := dv_set Q i ((dg Q i + 2 ^ j : Nat) : Int) hi
  rw [Int.toNat_natCast, Nat.mul_add] at h3
  have h4 : dv (Q.set i ((dg Q i + 2 ^ j : Nat) : Int)) = dv Q + 65536 ^ i * 2 ^ j := by omega
  rw [h4, h.q, h2.2, Nat.mul_add, Nat.mul_one, Nat.pow_succ]
  simp only [Nat.mul_assoc]
theorem OvI.done {N y : Nat} {Q zs : List Int} (h : OvI N y 0 0 Q zs) : dv Q = N / y ∧ dv zs = N % y := by
  have h1 := h.q
  have h2 := h.r
  simp at h1 h2
  exact ⟨h1, h2⟩
theorem OvI.start {N y n : Nat} {Q zs : List Int} (hN : N < 65536 ^ n) (hQ : dv Q = 0) (hz : dv zs = 0) : OvI N y n 0 Q zs := by
  have h1 : N / (65536 ^ n * 2 ^ 0) = 0 := by rw [Nat.pow_zero, Nat.mul_one]; exact Nat.div_eq_of_lt hN
  refine ⟨by rw [h1, hQ]; simp, by rw [h1, hz]; simp⟩
set_option maxHeartbeats 4000000 in
theorem over_i (A B : Option Addr) (n c m d : Nat) (xs ys : List Int) (w : World) (hA : R.Inp [] w A n 1 (xs.flatMap R.cU)) (hn : n = xs.length) (hx : DigI xs) (hnb : n ≤ 1000) (hB : R.Inp [] w B m 1 (ys.flatMap R.cU)) (hm : m = ys.length) (hmd : m ≤ d) (hy : DigI ys) (hmb : m ≤ 1000) (h0 : 0 < dv ys) :
    Calls Tryz.prog 87 #[.slice A n c, .slice B m d] w fun e w' => ∃ A1 A2 k c2 Q zs, e = .returned (.tuple #[.slice A1 n n, .slice A2 k c2]) ∧ R.Own [] w w' [.row A2 k c2 22 1 (zs.flatMap R.cU), .row A1 n n 22 1 (Q.flatMap R.cU)] ∧ n = Q.length ∧ DigI Q ∧ dv Q = dv xs / dv ys ∧ k = zs.length ∧ DigI zs ∧ dv zs = dv xs % dv ys ∧ k ≤ 32 * n := by
  have hM := R.Own.start [] w
  refine R.calls_of_WC (fn := Tryz.f87) Tryz.func87 rfl Tryz.ntmps87 (Nat.le_of_ble_eq_true rfl) ?_
  (refine R.stepV ?_; (repeat' (first | (with_reducible refine And.intro ?_ ?_) | (with_reducible intro _))); all_goals refine R.Lft.mk ?_)
  rename_i A1 w1 _ A2 c2 w2 hM
  have hmt := trimN_le ys
  have hIB : ∀ w3 l, R.Own [] w w3 l → R.Inp [] w3 B (trimN ys) 1 ((ys.take (trimN ys)).flatMap R.cU) := fun w3 l hM => by
    rw [← take_cells]
    exact (hM.inpIn hB).take _ (by omega)
  have hyt := hy.take (trimN ys)
  have hlt : (ys.take (trimN ys)).length = trimN ys := by rw [List.length_take]; omega
  have hvt := trimN_dv ys
  generalize ys.take (trimN ys) = Y at *
  obtain ⟨mt, hmt'⟩ : ∃ mt, trimN ys = mt := ⟨_, rfl⟩
  rw [hmt'] at hmt hIB hlt ⊢
  rw [← hvt] at h0 ⊢
  obtain ⟨y, hyv⟩ : ∃ y, dv Y = y := ⟨_, rfl⟩
  rw [hyv] at h0 ⊢
  obtain ⟨N, hN⟩ : ∃ N, N = dv xs := ⟨_, rfl⟩
  rw [← hN]
  refine R.WC_loop (fun s : Nat × List Int × List Int × Option Addr × Nat × Nat => [(0, .slice A n c), (1, .slice B mt d), (4, .slice none 0 0), (5, .slice none 0 0), (6, .slice A1 n n), (7, .slice s.2.2.2.1 s.2.2.2.2.2 s.2.2.2.2.1), (8, .int .i64 ((s.1 : Int) - 1))])
    (fun s w2 => s.1 ≤ n ∧ n = s.2.1.length ∧ DigI s.2.1 ∧ s.2.2.2.2.2 = s.2.2.1.length ∧ DigI s.2.2.1 ∧ s.2.2.2.2.2 + 32 * s.1 ≤ 32 * n ∧ OvI N y s.1 0 s.2.1 s.2.2.1 ∧ R.Own [] w w2 [.row s.2.2.2.1 s.2.2.2.2.2 s.2.2.2.2.1 22 1 (s.2.2.1.flatMap R.cU), .row A1 n n 22 1 (s.2.1.flatMap R.cU)]) (fun s => s.1)
    ⟨(n, List.replicate n 0, [], A2, c2, 0), ⟨rfl, rfl, rfl, rfl, rfl, rfl, rfl, trivial⟩, Nat.le_refl _, by simp, fun x hx => by rw [List.eq_of_mem_replicate hx]; omega, rfl, DigI.nil, by simp, ?_, hM⟩ ?_
  · refine OvI.start (by rw [hN, hn]; exact dv_lt hx) ?_ rfl
    unfold dv
    dsimp only
    rw [List.map_replicate]
    exact dval_replicate n
  clear hM
  rintro ⟨i, Q, zs, A2, c2, k⟩ f w2 ⟨hi, hQl, hQ, hk, hz, hkb, hI, hM⟩
  dsimp only at hi hQl hQ hk hz hkb hI hM ⊢
  rcases i with _ | i
  · obtain ⟨g1, g2⟩ := hI.done
    (refine R.stepV ?_; (repeat' (first | (with_reducible refine And.intro ?_ ?_) | (with_reducible intro _))); all_goals refine R.Lft.mk ?_)
    exact ⟨_, _, _, _, Q, zs, rfl, hM, hQl, hQ, g1, hk, hz, g2, by omega⟩
  · have e3 : (((i + 1 : Nat) : Int) - 1) = (i : Nat) := by omega
    rw [e3]
    have e1 := dg_nth hx (i := i) (by omega)
    have e2 := dg_lt hx i
    by_cases hskip : dg xs i = 0 ∧ k = 0
    · have hz0 : dv zs = 0 := by
        obtain rfl : zs = [] := List.eq_nil_of_length_eq_zero (by omega)
        rfl
      have hI2 := hI.skip hx hN h0 hskip.1 hz0
      (refine R.stepV ?_; (repeat' (first | (with_reducible refine And.intro ?_ ?_) | (with_reducible intro _))); all_goals refine R.Lft.mk ?_)
      exact ⟨(i, Q, zs, A2, c2, k), ⟨rfl, rfl, rfl, rfl, rfl, rfl, R.viaI rfl (by dsimp only), trivial⟩, ⟨by dsimp only; omega, hQl, hQ, hk, hz, by dsimp only; omega, hI2, hM⟩, by dsimp only; omega⟩
    have hI := hI.down
    (refine R.stepV ?_; (repeat' (first | (with_reducible refine And.intro ?_ ?_) | (with_reducible intro _))); all_goals refine R.Lft.mk ?_)
    all_goals
      refine R.WC_loop (fun s : Nat × List Int × List Int × Option Addr × Nat × Nat => [(0, .slice A n c), (1, .slice B mt d), (4, .slice none 0 0), (5, .slice none 0 0), (6, .slice A1 n n), (7, .slice s.2.2.2.1 s.2.2.2.2.2 s.2.2.2.2.1), (8, .int .i64 (i : Nat)), (9, .int .i64 ((s.1 : Int) - 1))])
        (fun s w2 => s.1 ≤ 16 ∧ n = s.2.1.length ∧ DigI s.2.1 ∧ s.2.2.2.2.2 = s.2.2.1.length ∧ DigI s.2.2.1 ∧ s.2.2.2.2.2 + 32 * i + 2 * s.1 ≤ 32 * n ∧ OvI N y i s.1 s.2.1 s.2.2.1 ∧ R.Own [] w w2 [.row s.2.2.2.1 s.2.2.2.2.2 s.2.2.2.2.1 22 1 (s.2.2.1.flatMap R.cU), .row A1 n n 22 1 (s.2.1.flatMap R.cU)]) (fun s => s.1)
        ⟨(16, Q, zs, A2, c2, k), ⟨rfl, rfl, rfl, rfl, rfl, rfl, rfl, rfl, trivial⟩, by dsimp only; omega, hQl, hQ, hk, hz, by dsimp only; omega, hI, hM⟩ ?_
      clear hM hI hkb hz hk hQ hQl hskip
      rintro ⟨j, Q, zs, A2, c2, k⟩ f w2 ⟨hj, hQl, hQ, hk, hz, hkb, hI, hM⟩
      dsimp only at hj hQl hQ hk hz hkb hI hM ⊢
      rcases j with _ | j
      · (refine R.stepV ?_; (repeat' (first | (with_reducible refine And.intro ?_ ?_) | (with_reducible intro _))); all_goals refine R.Lft.mk ?_)
        exact ⟨(i, Q, zs, A2, c2, k), ⟨rfl, rfl, rfl, rfl, rfl, rfl, R.viaI rfl (by dsimp only), trivial⟩, ⟨by dsimp only; omega, hQl, hQ, hk, hz, by dsimp only; omega, hI, hM⟩, by dsimp only; omega⟩
      · have e4 : (((j + 1 : Nat) : Int) - 1) = (j : Nat) := by omega
        rw [e4]
        obtain ⟨b, hb⟩ : ∃ b, dg xs i / 2 ^ j % 2 = b := ⟨_, rfl⟩
        obtain ⟨q, hq⟩ : ∃ q, dg xs i / 2 ^ j = q := ⟨_, rfl⟩
        have hq2 : q ≤ 65535 := by rw [← hq]; exact Nat.le_trans (Nat.div_le_self _ _) (by omega)
        have e5 : nth xs i / 2 ^ (j : Int).toNat = ((q : Nat) : Int) := by rw [e1, Int.toNat_natCast, ← hq]; norm_cast
        rw [hq] at hb
        (refine R.stepV ?_; (repeat' (first | (with_reducible refine And.intro ?_ ?_) | (with_reducible intro _))); all_goals refine R.Lft.mk ?_)
        refine R.WO_call2 rfl rfl R.vv R.vv ?_
        refine (plus_i _ _ _ _ _ _ _ _ _ (R.Own.inp hM (.head _)) hk hz (by omega) (R.Own.inp hM (.head _)) hk hz (by omega)).mono ?_
        rintro e w3 ⟨A3, c3, k3, zs3, rfl, hG, hk3, hz3, hv3, hl3⟩
        have hM := (R.Own.give hM hG).tl2
        refine ⟨_, rfl, ?_⟩
        rw [Nat.max_self] at hl3
        (refine R.stepV ?_; (repeat' (first | (with_reducible refine And.intro ?_ ?_) | (with_reducible intro _))); all_goals refine R.Lft.mk ?_)
        · rename_i hbit A7 c7 w7 hM
          have hb1 : b = 1 := by rw [e5] at hbit; omega
          refine R.WO_call2 rfl rfl R.vv R.vv ?_
          refine (plus_i _ _ _ _ _ _ zs3 [1] _ (R.Own.inp hM (.tail _ (.head _))) hk3 hz3 (by omega) (show R.Inp [] w7 A7 1 1 ([(1 : Int)].flatMap R.cU) from R.Own.inp hM (.head _)) rfl (DigI.one (by omega) (by omega)) (by omega)).mono ?_
          rintro e w3 ⟨A4, c4, k4, zs4, rfl, hG, hk4, hz4, hv4, hl4⟩
          have hM := (R.Own.give hM hG).tl2.tl2
          refine ⟨_, rfl, ?_⟩
          have hl4 : k4 ≤ k + 2 := by omega
          have hv4 : dv zs4 = 2 * dv zs + b := by rw [hv4, hv3, dv_one, hb1]; omega
          (refine R.stepV ?_; (repeat' (first | (with_reducible refine And.intro ?_ ?_) | (with_reducible intro _))); all_goals refine R.Lft.mk ?_)
          refine R.WO_call2 rfl rfl R.vv R.vv ?_
          refine (less_i _ _ _ _ _ _ _ _ _ (R.Own.inp hM (.head _)) hk4 hz4 (by omega) (hIB _ _ hM) hlt.symm hyt (by omega)).mono ?_
          rintro e w4 ⟨rfl, rfl⟩
          refine ⟨_, rfl, ?_⟩
          rw [hyv]
          by_cases hcmp : dv zs4 < y
          · rw [decide_eq_true hcmp]
            have hK := hI.keep hx hN h0 (by omega) (by rw [hq]; exact hb) hv4 hcmp
            (refine R.stepV ?_; (repeat' (first | (with_reducible refine And.intro ?_ ?_) | (with_reducible intro _))); all_goals refine R.Lft.mk ?_)
            exact ⟨(j, Q, zs4, A4, c4, k4), ⟨rfl, rfl, rfl, rfl, rfl, rfl, rfl, R.viaI rfl (by dsimp only), trivial⟩, ⟨by dsimp only; omega, hQl, hQ, hk4, hz4, by dsimp only; omega, hK, hM⟩, by dsimp only; omega⟩
          · rw [decide_eq_false hcmp]
            (refine R.stepV ?_; (repeat' (first | (with_reducible refine And.intro ?_ ?_) | (with_reducible intro _))); all_goals refine R.Lft.mk ?_)
            refine R.WO_call2 rfl rfl R.vv R.vv ?_
            refine (minus_i _ _ _ _ _ _ _ _ _ (R.Own.inp hM (.head _)) hk4 hz4 (by omega) (hIB _ _ hM) hlt.symm hyt (by omega) (by omega)).mono ?_
            rintro e w5 ⟨A5, c5, zs5, rfl, hG, hk5, hz5, hv5⟩
            have hM := (R.Own.give hM hG).tl2
            refine ⟨_, rfl, ?_⟩
            rw [hyv] at hv5
            have htl := trimN_le zs5
            have hT := hI.take (zs2 := zs5.take (trimN zs5)) hx hN h0 (by omega) hQ (by omega) (by rw [hq]; exact hb) hv4 (by omega) (by rw [trimN_dv, hv5])
            have hcap := row_cap hM (.head _)
            have hpw : 2 ^ j ≤ 32768 := by
              have : 2 ^ j ≤ 2 ^ 15 := Nat.pow_le_pow_right (by decide) (by omega)
              exact this
            obtain ⟨r, hr⟩ : ∃ r : Nat, 2 ^ j = r := ⟨_, rfl⟩
            rw [hr] at hpw hT
            have v2 : lo64 (1 * 2 ^ (j : Int).toNat) = (r : Nat) := by
              rw [Int.toNat_natCast, Int.one_mul]
              have : ((2 : Int) ^ j) = ((2 ^ j : Nat) : Int) := by norm_cast
              rw [this, hr]
              exact R.lo64_in (by unfold InU64; omega)
            have v3 : nth Q i = (dg Q i : Nat) := dg_nth hQ (by omega)
            obtain ⟨hroom, hT⟩ := hT
            obtain ⟨tn, htn⟩ : ∃ tn, trimN zs5 = tn := ⟨_, rfl⟩
            clear hr
            (refine R.stepV ?_; (repeat' (first | (with_reducible refine And.intro ?_ ?_) | (with_reducible intro _))); all_goals refine R.Lft.mk ?_)
            rename_i w6 hM
            rw [v2, v3, ← Int.natCast_add] at hM
            have hM := Own.shrink hM (m := trimN zs5) (by omega)
            rw [take_cells] at hM
            exact ⟨(j, Q.set i ((dg Q i + r : Nat) : Int), zs5.take (trimN zs5), A5, c5, trimN zs5), ⟨rfl, rfl, rfl, rfl, rfl, rfl, rfl, R.viaI rfl (by dsimp only), trivial⟩, ⟨by dsimp only; omega, by simp [hQl], hQ.set _ (by omega) (by omega), by dsimp only; rw [List.length_take]; omega, hz5.take _, by dsimp only; omega, hT, hM⟩, by dsimp only; omega⟩
        · rename_i hbit
          have hb1 : b = 0 := by rw [e5] at hbit; omega
          have hv3 : dv zs3 = 2 * dv zs + b := by rw [hv3, hb1]; omega
          obtain ⟨A4, rfl⟩ : ∃ A4, A4 = A3 := ⟨_, rfl⟩
          obtain ⟨c4, rfl⟩ : ∃ c4, c4 = c3 := ⟨_, rfl⟩
          obtain ⟨k4, rfl⟩ : ∃ k4, k4 = k3 := ⟨_, rfl⟩
          obtain ⟨zs4, rfl⟩ : ∃ zs4, zs4 = zs3 := ⟨_, rfl⟩
          have hk4 := hk3
          have hz4 := hz3
          have hv4 := hv3
          refine R.WO_call2 rfl rfl R.vv R.vv ?_
          refine (less_i _ _ _ _ _ _ _ _ _ (R.Own.inp hM (.head _)) hk4 hz4 (by omega) (hIB _ _ hM) hlt.symm hyt (by omega)).mono ?_
          rintro e w4 ⟨rfl, rfl⟩
          refine ⟨_, rfl, ?_⟩
          rw [hyv]
          by_cases hcmp : dv zs4 < y
          · rw [decide_eq_true hcmp]
            have hK := hI.keep hx hN h0 (by omega) (by rw [hq]; exact hb) hv4 hcmp
            (refine R.stepV ?_; (repeat' (first | (with_reducible refine And.intro ?_ ?_) | (with_reducible intro _))); all_goals refine R.Lft.mk ?_)
            exact ⟨(j, Q, zs4, A4, c4, k4), ⟨rfl, rfl, rfl, rfl, rfl, rfl, rfl, R.viaI rfl (by dsimp only), trivial⟩, ⟨by dsimp only; omega, hQl, hQ, hk4, hz4, by dsimp only; omega, hK, hM⟩, by dsimp only; omega⟩
          · rw [decide_eq_false hcmp]
            (refine R.stepV ?_; (repeat' (first | (with_reducible refine And.intro ?_ ?_) | (with_reducible intro _))); all_goals refine R.Lft.mk ?_)
            refine R.WO_call2 rfl rfl R.vv R.vv ?_
            refine (minus_i _ _ _ _ _ _ _ _ _ (R.Own.inp hM (.head _)) hk4 hz4 (by omega) (hIB _ _ hM) hlt.symm hyt (by omega) (by omega)).mono ?_
            rintro e w5 ⟨A5, c5, zs5, rfl, hG, hk5, hz5, hv5⟩
            have hM := (R.Own.give hM hG).tl2
            refine ⟨_, rfl, ?_⟩
            rw [hyv] at hv5
            have htl := trimN_le zs5
            have hT := hI.take (zs2 := zs5.take (trimN zs5)) hx hN h0 (by omega) hQ (by omega) (by rw [hq]; exact hb) hv4 (by omega) (by rw [trimN_dv, hv5])
            have hcap := row_cap hM (.head _)
            have hpw : 2 ^ j ≤ 32768 := by
              have : 2 ^ j ≤ 2 ^ 15 := Nat.pow_le_pow_right (by decide) (by omega)
              exact this
            obtain ⟨r, hr⟩ : ∃ r : Nat, 2 ^ j = r := ⟨_, rfl⟩
            rw [hr] at hpw hT
            have v2 : lo64 (1 * 2 ^ (j : Int).toNat) = (r : Nat) := by
              rw [Int.toNat_natCast, Int.one_mul]
              have : ((2 : Int) ^ j) = ((2 ^ j : Nat) : Int) := by norm_cast
              rw [this, hr]
              exact R.lo64_in (by unfold InU64; omega)
            have v3 : nth Q i = (dg Q i : Nat) := dg_nth hQ (by omega)
            obtain ⟨hroom, hT⟩ := hT
            obtain ⟨tn, htn⟩ : ∃ tn, trimN zs5 = tn := ⟨_, rfl⟩
            clear hr
            (refine R.stepV ?_; (repeat' (first | (with_reducible refine And.intro ?_ ?_) | (with_reducible intro _))); all_goals refine R.Lft.mk ?_)
            rename_i w6 hM
            rw [v2, v3, ← Int.natCast_add] at hM
            have hM := Own.shrink hM (m := trimN zs5) (by omega)
            rw [take_cells] at hM
            exact ⟨(j, Q.set i ((dg Q i + r : Nat) : Int), zs5.take (trimN zs5), A5, c5, trimN zs5), ⟨rfl, rfl, rfl, rfl, rfl, rfl, rfl, R.viaI rfl (by dsimp only), trivial⟩, ⟨by dsimp only; omega, by simp [hQl], hQ.set _ (by omega) (by omega), by dsimp only; rw [List.length_take]; omega, hz5.take _, by dsimp only; omega, hT, hM⟩, by dsimp only; omega⟩
end Go.Proofs.YtebgjcginmgoaaaGreat
