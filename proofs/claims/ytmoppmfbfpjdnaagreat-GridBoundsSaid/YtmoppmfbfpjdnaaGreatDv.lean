/- bits.Div64 and word.Div. -/
import Derived.Test.YtmoppmfbfpjdnaaGreatRf3
import Derived.Test.YtmoppmfbfpjdnaaGreatNum
namespace Go.Proofs.YtmoppmfbfpjdnaaGreat
open Go.RowKit
open R (In64 InU64 lo64 nth)

namespace R
section
variable {P : Program} {n : Nat} {Q : Exit → Fr → World → Prop} {f : Fr} {w : World} {F : List Nat} {W : World} {L : List Res} {r1 r2 r3 : Res} {id : Nat} {l : List Oper}
/-- A drawing region that stores into what lies in front, and else only reads. -/
theorem WC_planD1 (pl : List (Nat × Bool)) (hm : P.follows .mixedOrders = true) (hB : planOk l.toArray pl = true) (hM : Own F W w (r1 :: L))
    (h : ∀ w1, Own F W w1 (r1 :: L) → WH P l.toArray n (fun w2 => Own F W w2 L) (fun f' w' => Q .normal f' w') pl f w1) : WC P n Q (.region id l.toArray true) f w :=
  WC_plan _ _ hm hB hM.drew.tl (h _ hM.drew)
theorem WC_planD2 (pl : List (Nat × Bool)) (hm : P.follows .mixedOrders = true) (hB : planOk l.toArray pl = true) (hM : Own F W w (r1 :: r2 :: L))
    (h : ∀ w1, Own F W w1 (r1 :: r2 :: L) → WH P l.toArray n (fun w2 => Own F W w2 L) (fun f' w' => Q .normal f' w') pl f w1) : WC P n Q (.region id l.toArray true) f w :=
  WC_plan _ _ hm hB hM.drew.tl.tl (h _ hM.drew)
theorem WC_planD3 (pl : List (Nat × Bool)) (hm : P.follows .mixedOrders = true) (hB : planOk l.toArray pl = true) (hM : Own F W w (r1 :: r2 :: r3 :: L))
    (h : ∀ w1, Own F W w1 (r1 :: r2 :: r3 :: L) → WH P l.toArray n (fun w2 => Own F W w2 L) (fun f' w' => Q .normal f' w') pl f w1) : WC P n Q (.region id l.toArray true) f w :=
  WC_plan _ _ hm hB hM.drew.tl.tl.tl (h _ hM.drew)
end
end R
/-- How many bits a word lacks. -/
def lz (a : Int) : Nat := 64 - bitLen a.toNat
instance con_lz (a : Int) : R.ConP Tryz.prog 128 #[.int .u64 a] Unit (fun _ _ => InU64 a) (fun _ => .int .i64 (lz a : Nat)) := ⟨fun _ w h => by
  unfold InU64 at h
  refine (Tryz.bits_LeadingZeros64 a w h.1 (by omega)).mono ?_
  rintro e w' ⟨rfl, rfl⟩
  have h1 : a.toNat < 2 ^ 64 := by omega
  have h2 := bitLen_le_ h1
  rw [libLen_eq _ h1]
  exact ⟨by unfold lz; congr 2; omega, rfl⟩⟩
theorem norm_len {y : Nat} (h0 : 0 < y) (h1 : y < 18446744073709551616) : lz (y : Int) ≤ 63 ∧ 9223372036854775808 ≤ y * 2 ^ lz (y : Int) ∧ y * 2 ^ lz (y : Int) < 18446744073709551616 := by
  unfold lz
  rw [Int.toNat_natCast]
  obtain ⟨h2, h3⟩ := bitLen_spec y
  have h3 := h3 (by omega)
  have h4 := bitLen_le_ (show y < 2 ^ 64 from h1)
  have h5 : 0 < bitLen y := by
    rcases Nat.eq_zero_or_pos (bitLen y) with h5 | h5
    · rw [h5] at h2; simp at h2; omega
    · exact h5
  refine ⟨by omega, ?_, ?_⟩
  · have h6 : 2 ^ (bitLen y - 1) * 2 ^ (64 - bitLen y) ≤ y * 2 ^ (64 - bitLen y) := Nat.mul_le_mul_right _ h3
    rw [← Nat.pow_add, show bitLen y - 1 + (64 - bitLen y) = 63 by omega] at h6
    exact h6
  · have h6 : y * 2 ^ (64 - bitLen y) < 2 ^ bitLen y * 2 ^ (64 - bitLen y) := Nat.mul_lt_mul_of_pos_right h2 (Nat.two_pow_pos _)
    rw [← Nat.pow_add, show bitLen y + (64 - bitLen y) = 64 by omega] at h6
    exact h6
/-- Two words, scaled. -/
theorem scale_words {h l y s : Nat} (hs : s ≤ 63) (hh : h < y) (hl : l < 18446744073709551616) (hY : y * 2 ^ s < 18446744073709551616) :
    ∃ u x, u = h * 2 ^ s + l / 2 ^ (64 - s) ∧ x = l * 2 ^ s % 18446744073709551616 ∧ u < y * 2 ^ s ∧ (h * 18446744073709551616 + l) * 2 ^ s = u * 18446744073709551616 + x ∧ l / 2 ^ (64 - s) < 2 ^ s ∧ h * 2 ^ s < 18446744073709551616 := by
  have e : (18446744073709551616 : Nat) = 2 ^ (64 - s) * 2 ^ s := by rw [← Nat.pow_add, show 64 - s + s = 64 by omega]
  have h1 : l * 2 ^ s / 18446744073709551616 = l / 2 ^ (64 - s) := by rw [e, Nat.mul_div_mul_right _ _ (Nat.two_pow_pos _)]
  have h2 : l / 2 ^ (64 - s) < 2 ^ s := by
    refine (Nat.div_lt_iff_lt_mul (Nat.two_pow_pos _)).2 ?_
    rw [Nat.mul_comm, ← e]
    exact hl
  have h3 : (h + 1) * 2 ^ s ≤ y * 2 ^ s := Nat.mul_le_mul_right _ hh
  rw [Nat.add_mul, Nat.one_mul] at h3
  have h4 := Nat.div_add_mod (l * 2 ^ s) 18446744073709551616
  rw [h1] at h4
  refine ⟨_, _, rfl, rfl, by omega, ?_, h2, by omega⟩
  rw [Nat.add_mul, Nat.mul_right_comm h]
  omega
theorem low_word (x : Int) (h0 : 0 ≤ x) (h1 : x < 18446744073709551616) : bits .and .u64 x 4294967295 = x % 4294967296 := bits_mask .u64 64 (by decide) wraps_u64 32 (by decide) x h0 h1
theorem lo_rest {u x q y r : Nat} (h : u * 4294967296 + x = q * y + r) (hr : r < 18446744073709551616) : lo64 (lo64 (lo64 ((u : Int) * 4294967296) + x) - lo64 ((q : Int) * y)) = r := by
  have h2 : ((u * 4294967296 + x : Nat) : Int) = ((q * y + r : Nat) : Int) := by rw [h]
  rw [Int.natCast_add, Int.natCast_mul, Int.natCast_add, Int.natCast_mul] at h2
  unfold lo64
  generalize (q : Int) * y = P at *
  omega
theorem halves {u x x1 x0 : Nat} (h1 : x / 4294967296 = x1) (h0 : x % 4294967296 = x0) : u * 18446744073709551616 + x = (u * 4294967296 + x1) * 4294967296 + x0 := by omega
set_option maxHeartbeats 2000000 in
theorem div64_nat (h l y : Nat) (hh : h < y) (hl : l < 18446744073709551616) (hy : y < 18446744073709551616) (w : World) :
    Calls Tryz.prog 126 #[.int .u64 h, .int .u64 l, .int .u64 y] w fun e w' => e = .returned (.tuple #[.int .u64 ((h * 18446744073709551616 + l) / y : Nat), .int .u64 ((h * 18446744073709551616 + l) % y : Nat)]) ∧ Below w.heap.size w w' := by
  have hM := R.Own.start [] w
  obtain ⟨n1, n2, n3⟩ := norm_len (by omega : 0 < y) hy
  obtain ⟨u, x, hu, hx, huY, hU, hlo, hhi⟩ := scale_words n1 hh hl n3
  obtain ⟨Y, hY⟩ : ∃ Y, y * 2 ^ lz (y : Int) = Y := ⟨_, rfl⟩
  rw [hY] at n2 n3 huY
  have v2 : lo64 ((y : Int) * 2 ^ ((lz (y : Int) : Nat) : Int).toNat) = (Y : Nat) := by rw [shl_cast, hY, Nat.mod_eq_of_lt n3]
  have v3 : bits .and .u64 ((Y : Nat) : Int) 4294967295 = ((Y % 4294967296 : Nat) : Int) := by rw [low_word _ (by omega) (by omega)]; omega
  have v4 : bits .or .u64 (lo64 ((h : Int) * 2 ^ ((lz (y : Int) : Nat) : Int).toNat)) ((l : Int) / 2 ^ (64 - ((lz (y : Int) : Nat) : Int)).toNat) = (u : Nat) := by
    rw [shl_cast, Nat.mod_eq_of_lt hhi, shr_cast l (64 - lz (y : Int)) _ (by omega), or_nat (lz (y : Int)) _ _ (Nat.mul_mod_left _ _) hhi hlo (by omega), hu]
  have v5 : lo64 ((l : Int) * 2 ^ ((lz (y : Int) : Nat) : Int).toNat) = (x : Nat) := by rw [shl_cast, hx]
  have v6 : bits .and .u64 ((x : Nat) : Int) 4294967295 = ((x % 4294967296 : Nat) : Int) := by rw [low_word _ (by omega) (by omega)]; omega
  have v7 : ∀ z : Nat, ((z : Nat) : Int) / 2 ^ Int.toNat 32 = ((z / 4294967296 : Nat) : Int) := fun z => by
    rw [show (2 : Int) ^ Int.toNat 32 = 4294967296 from rfl]; omega
  refine R.calls_of_WC (fn := Tryz.f126) Tryz.func126 rfl Tryz.ntmps126 (Nat.le_of_ble_eq_true rfl) ?_
  (refine R.stepV ?_; (repeat' (first | (with_reducible refine And.intro ?_ ?_) | (with_reducible intro _))); all_goals refine R.Lft.mk ?_)
  · have h0 : h = 0 := by omega
    subst h0
    simp
    exact R.Own.below (by assumption)
  · rw [v2, v3, v4, v5, v6, v7, v7]
    have hy1 : 2147483648 ≤ Y / 4294967296 := by omega
    have hx1 : x / 4294967296 < 4294967296 := by omega
    have hx0 : x % 4294967296 < 4294967296 := by omega
    have hlo1 : (x / 4294967296) * 4294967296 + x % 4294967296 = x := by omega
    obtain ⟨k1, k2⟩ := seek_start (x := x / 4294967296) huY hx1 n2 n3
    have kd := fun q r => seek_down (q := q) (r := r) huY hx1
    have ke := fun q r => seek_end (x := x / 4294967296) (q := q) (r := r) huY
    have kb := fun q r => seek_break (x := x / 4294967296) (q := q) (r := r) huY
    have kl := digQ_lt huY hx1
    have kr := digQ_rest (u := u) (x := x / 4294967296) (y := Y) (by omega)
    have hV1 : Y % 4294967296 < 4294967296 := by omega
    obtain ⟨Z, hZ⟩ : ∃ Z, Y / 4294967296 = Z := ⟨_, rfl⟩
    obtain ⟨V, hV⟩ : ∃ V, Y % 4294967296 = V := ⟨_, rfl⟩
    obtain ⟨x1, hx1'⟩ : ∃ x1, x / 4294967296 = x1 := ⟨_, rfl⟩
    obtain ⟨x0, hx0'⟩ : ∃ x0, x % 4294967296 = x0 := ⟨_, rfl⟩
    rw [hZ] at hy1 k1 k2
    rw [hV] at hV1
    simp only [hV, hZ, hx1'] at kd ke kb kl kr k1 hx1
    have hUU := halves (u := u) hx1' hx0'
    obtain ⟨T1, T2⟩ := two_digits (Nat.lt_of_lt_of_le (by decide) n2) hUU
    obtain ⟨R1, hR1⟩ : ∃ R1, (u * 4294967296 + x1) % Y = R1 := ⟨_, rfl⟩
    obtain ⟨D, hD⟩ : ∃ D, digQ u x1 Y = D := ⟨_, rfl⟩
    rw [hR1, hD] at T1
    rw [hR1] at T2 kr
    rw [hD] at kr kl
    have S1 := scaled (N := h * 18446744073709551616 + l) (y := y) (s := lz (y : Int))
    rw [hU, hY, ← T1, ← T2] at S1
    obtain ⟨j1, j2⟩ := seek_start (x := x0) kr.2 (by omega) n2 n3
    have jd := fun q r => seek_down (q := q) (r := r) kr.2 (by omega : x0 < 4294967296)
    have je := fun q r => seek_end (x := x0) (q := q) (r := r) kr.2
    have jb := fun q r => seek_break (x := x0) (q := q) (r := r) kr.2
    have jl := digQ_lt kr.2 (by omega : x0 < 4294967296)
    have jr := digQ_rest (u := R1) (x := x0) (y := Y) (by omega)
    simp only [hV, hZ] at jd je jb j1 j2
    obtain ⟨E, hE⟩ : ∃ E, digQ R1 x0 Y = E := ⟨_, rfl⟩
    obtain ⟨R2, hR2⟩ : ∃ R2, (R1 * 4294967296 + x0) % Y = R2 := ⟨_, rfl⟩
    rw [hE] at jl
    rw [hE, hR2] at jr S1
    have m2 : R1 / Z * Z ≤ R1 := Nat.div_mul_le_self _ _
    clear T1 T2 hU hhi hlo hx hu hlo1 hUU
    have fin : ∀ w1, R.Own [] w w1 [] → Ending.returned (.tuple #[.int .u64 ((D : Int) * 4294967296 + E), .int .u64 ((R2 : Int) / 2 ^ ((lz (y : Int) : Nat) : Int).toNat)]) = Ending.returned (.tuple #[.int .u64 ((h * 18446744073709551616 + l) / y : Nat), .int .u64 ((h * 18446744073709551616 + l) % y : Nat)]) ∧ Below w.heap.size w w1 := fun w1 hM => by
      rw [shr_cast R2 (lz (y : Int)) _ (Int.toNat_natCast _), S1.2, ← S1.1, Int.natCast_add, Int.natCast_mul]
      exact ⟨rfl, hM.below⟩
    rw [hx0'] at hx0
    rw [hZ, hV, hx1', hx0']
    have m1 : u / Z * Z ≤ u := Nat.div_mul_le_self _ _
    (refine R.stepV ?_; (repeat' (first | (with_reducible refine And.intro ?_ ?_) | (with_reducible intro _))); all_goals refine R.Lft.mk ?_)
    refine R.WC_loop (fun s : Nat × Nat => [(2, .int .u64 (Y : Nat)), (6, .int .u64 0), (7, .int .u64 0), (8, .int .u64 (lz (y : Int) : Nat)), (9, .int .u64 (Z : Nat)), (10, .int .u64 (V : Nat)), (11, .int .u64 (u : Nat)), (13, .int .u64 (x1 : Nat)), (14, .int .u64 (x0 : Nat)), (15, .int .u64 (s.1 : Nat)), (16, .int .u64 (s.2 : Nat))])
      (fun s w1 => Seek u x1 Y s.1 s.2 ∧ s.2 < 4294967296 ∧ R.Own [] w w1 []) (fun s => s.1) ⟨(u / Z, u % Z), ⟨rfl, rfl, rfl, rfl, rfl, rfl, rfl, rfl, rfl, rfl, R.viaI rfl ?_, trivial⟩, k1, k2, hM⟩ ?_
    · have e1 : (u : Int) / Z * Z = ((u / Z * Z : Nat) : Int) := by rw [Int.natCast_mul]; rfl
      have e2 := Nat.div_add_mod u Z
      rw [Nat.mul_comm] at e2
      rw [e1]
      dsimp only
      unfold lo64
      omega
    rintro ⟨q, r⟩ f w1 ⟨hS, hr, hM⟩
    dsimp only at hS hr hM ⊢
    have hq := hS.le
    have done : ∀ q', q' = digQ u x1 Y → ∀ v : Int, v = q' → v = ((D : Nat) : Int) := fun q' h v hv => by rw [hv, h, hD]
    have done2 : ∀ q', q' = digQ R1 x0 Y → ∀ v : Int, v = q' → v = ((E : Nat) : Int) := fun q' h v hv => by rw [hv, h, hE]
    by_cases hc : 4294967296 ≤ q
    · obtain ⟨c1, c2⟩ := kd q r hS (.inl hc)
      (refine R.stepV ?_; (repeat' (first | (with_reducible refine And.intro ?_ ?_) | (with_reducible intro _))); all_goals refine R.Lft.mk ?_)
      · rw [done _ (kb _ _ c2 (by omega) (by omega)) ((q : Int) - 1) (by omega)]
        rw [lo_rest kr.1 (by omega)]
        (refine R.stepV ?_; (repeat' (first | (with_reducible refine And.intro ?_ ?_) | (with_reducible intro _))); all_goals refine R.Lft.mk ?_)
        refine R.WC_loop (fun s : Nat × Nat => [(2, .int .u64 (Y : Nat)), (6, .int .u64 0), (7, .int .u64 0), (8, .int .u64 (lz (y : Int) : Nat)), (9, .int .u64 (Z : Nat)), (10, .int .u64 (V : Nat)), (14, .int .u64 (x0 : Nat)), (15, .int .u64 (D : Nat)), (17, .int .u64 (R1 : Nat)), (18, .int .u64 (s.1 : Nat)), (16, .int .u64 (s.2 : Nat))])
          (fun s w1 => Seek R1 x0 Y s.1 s.2 ∧ s.2 < 4294967296 ∧ R.Own [] w w1 []) (fun s => s.1) ⟨(R1 / Z, R1 % Z), ⟨rfl, rfl, rfl, rfl, rfl, rfl, rfl, rfl, rfl, rfl, R.viaI rfl ?_, trivial⟩, j1, j2, by assumption⟩ ?_
        · have e1 : (R1 : Int) / Z * Z = ((R1 / Z * Z : Nat) : Int) := by rw [Int.natCast_mul]; rfl
          have e2 := Nat.div_add_mod R1 Z
          rw [Nat.mul_comm] at e2
          rw [e1]
          dsimp only
          unfold lo64
          omega
        clear hS hr hq hc
        rintro ⟨q, r⟩ f w1 ⟨hS, hr, hM⟩
        dsimp only at hS hr hM ⊢
        have hq := hS.le
        by_cases hc : 4294967296 ≤ q
        · obtain ⟨c1, c2⟩ := jd q r hS (.inl hc)
          (refine R.stepV ?_; (repeat' (first | (with_reducible refine And.intro ?_ ?_) | (with_reducible intro _))); all_goals refine R.Lft.mk ?_)
          · rw [done2 _ (jb _ _ c2 (by omega) (by omega)) ((q : Int) - 1) (by omega)]
            rw [lo_rest jr.1 (by omega)]
            first | exact fin _ hM | (rw [R.lo64_in (by unfold InU64; omega)]; exact fin _ hM)
          · exact ⟨(q - 1, r + Z), ⟨rfl, rfl, rfl, rfl, rfl, rfl, rfl, rfl, rfl, R.viaI rfl (by dsimp only; omega), R.viaI rfl (by dsimp only; omega), trivial⟩, ⟨c2, by dsimp only; omega, hM⟩, by dsimp only; omega⟩
        · have hb : q * V ≤ 4294967295 * 4294967295 := Nat.mul_le_mul (by omega) (by omega)
          have hcast : ((q * V : Nat) : Int) = (q : Int) * V := Int.natCast_mul ..
          by_cases hc2 : r * 4294967296 + x0 < q * V
          · obtain ⟨c1, c2⟩ := jd q r hS (.inr hc2)
            (refine R.stepV ?_; (repeat' (first | (with_reducible refine And.intro ?_ ?_) | (with_reducible intro _))); all_goals refine R.Lft.mk ?_)
            · rw [done2 _ (jb _ _ c2 (by omega) (by omega)) ((q : Int) - 1) (by omega)]
              rw [lo_rest jr.1 (by omega)]
              first | exact fin _ hM | (rw [R.lo64_in (by unfold InU64; omega)]; exact fin _ hM)
            · exact ⟨(q - 1, r + Z), ⟨rfl, rfl, rfl, rfl, rfl, rfl, rfl, rfl, rfl, R.viaI rfl (by dsimp only; omega), R.viaI rfl (by dsimp only; omega), trivial⟩, ⟨c2, by dsimp only; omega, hM⟩, by dsimp only; omega⟩
          · (refine R.stepV ?_; (repeat' (first | (with_reducible refine And.intro ?_ ?_) | (with_reducible intro _))); all_goals refine R.Lft.mk ?_)
            rw [done2 _ (je _ _ hS hc2) (q : Int) rfl]
            rw [lo_rest jr.1 (by omega)]
            first | exact fin _ hM | (rw [R.lo64_in (by unfold InU64; omega)]; exact fin _ hM)
      · exact ⟨(q - 1, r + Z), ⟨rfl, rfl, rfl, rfl, rfl, rfl, rfl, rfl, rfl, R.viaI rfl (by dsimp only; omega), R.viaI rfl (by dsimp only; omega), trivial⟩, ⟨c2, by dsimp only; omega, hM⟩, by dsimp only; omega⟩
    · have hb : q * V ≤ 4294967295 * 4294967295 := Nat.mul_le_mul (by omega) (by omega)
      have hcast : ((q * V : Nat) : Int) = (q : Int) * V := Int.natCast_mul ..
      by_cases hc2 : r * 4294967296 + x1 < q * V
      · obtain ⟨c1, c2⟩ := kd q r hS (.inr hc2)
        (refine R.stepV ?_; (repeat' (first | (with_reducible refine And.intro ?_ ?_) | (with_reducible intro _))); all_goals refine R.Lft.mk ?_)
        · rw [done _ (kb _ _ c2 (by omega) (by omega)) ((q : Int) - 1) (by omega)]
          rw [lo_rest kr.1 (by omega)]
          (refine R.stepV ?_; (repeat' (first | (with_reducible refine And.intro ?_ ?_) | (with_reducible intro _))); all_goals refine R.Lft.mk ?_)
          refine R.WC_loop (fun s : Nat × Nat => [(2, .int .u64 (Y : Nat)), (6, .int .u64 0), (7, .int .u64 0), (8, .int .u64 (lz (y : Int) : Nat)), (9, .int .u64 (Z : Nat)), (10, .int .u64 (V : Nat)), (14, .int .u64 (x0 : Nat)), (15, .int .u64 (D : Nat)), (17, .int .u64 (R1 : Nat)), (18, .int .u64 (s.1 : Nat)), (16, .int .u64 (s.2 : Nat))])
            (fun s w1 => Seek R1 x0 Y s.1 s.2 ∧ s.2 < 4294967296 ∧ R.Own [] w w1 []) (fun s => s.1) ⟨(R1 / Z, R1 % Z), ⟨rfl, rfl, rfl, rfl, rfl, rfl, rfl, rfl, rfl, rfl, R.viaI rfl ?_, trivial⟩, j1, j2, by assumption⟩ ?_
          · have e1 : (R1 : Int) / Z * Z = ((R1 / Z * Z : Nat) : Int) := by rw [Int.natCast_mul]; rfl
            have e2 := Nat.div_add_mod R1 Z
            rw [Nat.mul_comm] at e2
            rw [e1]
            dsimp only
            unfold lo64
            omega
          clear hS hr hq hc
          rintro ⟨q, r⟩ f w1 ⟨hS, hr, hM⟩
          dsimp only at hS hr hM ⊢
          have hq := hS.le
          by_cases hc : 4294967296 ≤ q
          · obtain ⟨c1, c2⟩ := jd q r hS (.inl hc)
            (refine R.stepV ?_; (repeat' (first | (with_reducible refine And.intro ?_ ?_) | (with_reducible intro _))); all_goals refine R.Lft.mk ?_)
            · rw [done2 _ (jb _ _ c2 (by omega) (by omega)) ((q : Int) - 1) (by omega)]
              rw [lo_rest jr.1 (by omega)]
              first | exact fin _ hM | (rw [R.lo64_in (by unfold InU64; omega)]; exact fin _ hM)
            · exact ⟨(q - 1, r + Z), ⟨rfl, rfl, rfl, rfl, rfl, rfl, rfl, rfl, rfl, R.viaI rfl (by dsimp only; omega), R.viaI rfl (by dsimp only; omega), trivial⟩, ⟨c2, by dsimp only; omega, hM⟩, by dsimp only; omega⟩
          · have hb : q * V ≤ 4294967295 * 4294967295 := Nat.mul_le_mul (by omega) (by omega)
            have hcast : ((q * V : Nat) : Int) = (q : Int) * V := Int.natCast_mul ..
            by_cases hc2 : r * 4294967296 + x0 < q * V
            · obtain ⟨c1, c2⟩ := jd q r hS (.inr hc2)
              (refine R.stepV ?_; (repeat' (first | (with_reducible refine And.intro ?_ ?_) | (with_reducible intro _))); all_goals refine R.Lft.mk ?_)
              · rw [done2 _ (jb _ _ c2 (by omega) (by omega)) ((q : Int) - 1) (by omega)]
                rw [lo_rest jr.1 (by omega)]
                first | exact fin _ hM | (rw [R.lo64_in (by unfold InU64; omega)]; exact fin _ hM)
              · exact ⟨(q - 1, r + Z), ⟨rfl, rfl, rfl, rfl, rfl, rfl, rfl, rfl, rfl, R.viaI rfl (by dsimp only; omega), R.viaI rfl (by dsimp only; omega), trivial⟩, ⟨c2, by dsimp only; omega, hM⟩, by dsimp only; omega⟩
            · (refine R.stepV ?_; (repeat' (first | (with_reducible refine And.intro ?_ ?_) | (with_reducible intro _))); all_goals refine R.Lft.mk ?_)
              rw [done2 _ (je _ _ hS hc2) (q : Int) rfl]
              rw [lo_rest jr.1 (by omega)]
              first | exact fin _ hM | (rw [R.lo64_in (by unfold InU64; omega)]; exact fin _ hM)
        · exact ⟨(q - 1, r + Z), ⟨rfl, rfl, rfl, rfl, rfl, rfl, rfl, rfl, rfl, R.viaI rfl (by dsimp only; omega), R.viaI rfl (by dsimp only; omega), trivial⟩, ⟨c2, by dsimp only; omega, hM⟩, by dsimp only; omega⟩
      · (refine R.stepV ?_; (repeat' (first | (with_reducible refine And.intro ?_ ?_) | (with_reducible intro _))); all_goals refine R.Lft.mk ?_)
        rw [done _ (ke _ _ hS hc2) (q : Int) rfl]
        rw [lo_rest kr.1 (by omega)]
        (refine R.stepV ?_; (repeat' (first | (with_reducible refine And.intro ?_ ?_) | (with_reducible intro _))); all_goals refine R.Lft.mk ?_)
        refine R.WC_loop (fun s : Nat × Nat => [(2, .int .u64 (Y : Nat)), (6, .int .u64 0), (7, .int .u64 0), (8, .int .u64 (lz (y : Int) : Nat)), (9, .int .u64 (Z : Nat)), (10, .int .u64 (V : Nat)), (14, .int .u64 (x0 : Nat)), (15, .int .u64 (D : Nat)), (17, .int .u64 (R1 : Nat)), (18, .int .u64 (s.1 : Nat)), (16, .int .u64 (s.2 : Nat))])
          (fun s w1 => Seek R1 x0 Y s.1 s.2 ∧ s.2 < 4294967296 ∧ R.Own [] w w1 []) (fun s => s.1) ⟨(R1 / Z, R1 % Z), ⟨rfl, rfl, rfl, rfl, rfl, rfl, rfl, rfl, rfl, rfl, R.viaI rfl ?_, trivial⟩, j1, j2, by assumption⟩ ?_
        · have e1 : (R1 : Int) / Z * Z = ((R1 / Z * Z : Nat) : Int) := by rw [Int.natCast_mul]; rfl
          have e2 := Nat.div_add_mod R1 Z
          rw [Nat.mul_comm] at e2
          rw [e1]
          dsimp only
          unfold lo64
          omega
        clear hS hr hq hc
        rintro ⟨q, r⟩ f w1 ⟨hS, hr, hM⟩
        dsimp only at hS hr hM ⊢
        have hq := hS.le
        by_cases hc : 4294967296 ≤ q
        · obtain ⟨c1, c2⟩ := jd q r hS (.inl hc)
          (refine R.stepV ?_; (repeat' (first | (with_reducible refine And.intro ?_ ?_) | (with_reducible intro _))); all_goals refine R.Lft.mk ?_)
          · rw [done2 _ (jb _ _ c2 (by omega) (by omega)) ((q : Int) - 1) (by omega)]
            rw [lo_rest jr.1 (by omega)]
            first | exact fin _ hM | (rw [R.lo64_in (by unfold InU64; omega)]; exact fin _ hM)
          · exact ⟨(q - 1, r + Z), ⟨rfl, rfl, rfl, rfl, rfl, rfl, rfl, rfl, rfl, R.viaI rfl (by dsimp only; omega), R.viaI rfl (by dsimp only; omega), trivial⟩, ⟨c2, by dsimp only; omega, hM⟩, by dsimp only; omega⟩
        · have hb : q * V ≤ 4294967295 * 4294967295 := Nat.mul_le_mul (by omega) (by omega)
          have hcast : ((q * V : Nat) : Int) = (q : Int) * V := Int.natCast_mul ..
          by_cases hc2 : r * 4294967296 + x0 < q * V
          · obtain ⟨c1, c2⟩ := jd q r hS (.inr hc2)
            (refine R.stepV ?_; (repeat' (first | (with_reducible refine And.intro ?_ ?_) | (with_reducible intro _))); all_goals refine R.Lft.mk ?_)
            · rw [done2 _ (jb _ _ c2 (by omega) (by omega)) ((q : Int) - 1) (by omega)]
              rw [lo_rest jr.1 (by omega)]
              first | exact fin _ hM | (rw [R.lo64_in (by unfold InU64; omega)]; exact fin _ hM)
            · exact ⟨(q - 1, r + Z), ⟨rfl, rfl, rfl, rfl, rfl, rfl, rfl, rfl, rfl, R.viaI rfl (by dsimp only; omega), R.viaI rfl (by dsimp only; omega), trivial⟩, ⟨c2, by dsimp only; omega, hM⟩, by dsimp only; omega⟩
          · (refine R.stepV ?_; (repeat' (first | (with_reducible refine And.intro ?_ ?_) | (with_reducible intro _))); all_goals refine R.Lft.mk ?_)
            rw [done2 _ (je _ _ hS hc2) (q : Int) rfl]
            rw [lo_rest jr.1 (by omega)]
            first | exact fin _ hM | (rw [R.lo64_in (by unfold InU64; omega)]; exact fin _ hM)
/-- Two words over one: quotient and rest; noughts where the quotient would not fit. -/
def dvQ (h l y : Int) : Int := if h < y then (h * 18446744073709551616 + l) / y else 0
def dvR (h l y : Int) : Int := if h < y then (h * 18446744073709551616 + l) % y else 0
theorem div_any (h l y : Int) (hh : InU64 h) (hl : InU64 l) (hy : InU64 y) (w : World) :
    Calls Tryz.prog 121 #[.int .u64 h, .int .u64 l, .int .u64 y] w fun e w' => e = .returned (.tuple #[.int .u64 (dvQ h l y), .int .u64 (dvR h l y), .bool (decide (h < y))]) ∧ Below w.heap.size w w' := by
  have hM := R.Own.start [] w
  by_cases hc : h < y
  · unfold InU64 at hh hl hy
    have e1 : dvQ h l y = ((h.toNat * 18446744073709551616 + l.toNat) / y.toNat : Nat) := by
      unfold dvQ
      rw [if_pos hc, Int.natCast_ediv, Int.natCast_add, Int.natCast_mul, Int.toNat_of_nonneg hh.1, Int.toNat_of_nonneg hl.1, Int.toNat_of_nonneg hy.1]
      rfl
    have e2 : dvR h l y = ((h.toNat * 18446744073709551616 + l.toNat) % y.toNat : Nat) := by
      unfold dvR
      rw [if_pos hc, Int.natCast_emod, Int.natCast_add, Int.natCast_mul, Int.toNat_of_nonneg hh.1, Int.toNat_of_nonneg hl.1, Int.toNat_of_nonneg hy.1]
      rfl
    have key := div64_nat h.toNat l.toNat y.toNat (by omega) (by omega) (by omega)
    rw [← e1, ← e2, Int.toNat_of_nonneg hh.1, Int.toNat_of_nonneg hl.1, Int.toNat_of_nonneg hy.1] at key
    rw [decide_eq_true hc]
    clear e1 e2
    refine R.calls_of_WC (fn := Tryz.f121) Tryz.func121 rfl Tryz.ntmps121 (Nat.le_of_ble_eq_true rfl) ?_
    (refine R.stepV ?_; (repeat' (first | (with_reducible refine And.intro ?_ ?_) | (with_reducible intro _))); all_goals refine R.Lft.mk ?_)
    refine R.WO_call3 rfl rfl R.vv R.vv R.vv ?_
    refine (key _).mono ?_
    rintro e w1 ⟨rfl, hb⟩
    have hM := hM.call hb
    refine ⟨_, rfl, ?_⟩
    (refine R.stepV ?_; (repeat' (first | (with_reducible refine And.intro ?_ ?_) | (with_reducible intro _))); all_goals refine R.Lft.mk ?_)
    exact ⟨rfl, R.Own.below (by assumption)⟩
  · have e1 : dvQ h l y = 0 := by unfold dvQ; rw [if_neg hc]
    have e2 : dvR h l y = 0 := by unfold dvR; rw [if_neg hc]
    rw [e1, e2, decide_eq_false hc]
    refine R.calls_of_WC (fn := Tryz.f121) Tryz.func121 rfl Tryz.ntmps121 (Nat.le_of_ble_eq_true rfl) ?_
    (refine R.stepV ?_; (repeat' (first | (with_reducible refine And.intro ?_ ?_) | (with_reducible intro _))); all_goals refine R.Lft.mk ?_)
    exact ⟨rfl, R.Own.below (by assumption)⟩
instance con_div (h l y : Int) : R.ConB Tryz.prog 121 #[.int .u64 h, .int .u64 l, .int .u64 y] Unit (fun _ _ => InU64 h ∧ InU64 l ∧ InU64 y) (fun _ => .tuple #[.int .u64 (dvQ h l y), .int .u64 (dvR h l y), .bool (decide (h < y))]) := ⟨fun _ w h' => div_any h l y h'.1 h'.2.1 h'.2.2 w⟩
instance con_mulw (a b : Int) : R.ConP Tryz.prog 122 #[.int .u64 a, .int .u64 b] Unit (fun _ _ => InU64 a ∧ InU64 b) (fun _ => .tuple #[.int .u64 (hi64 (a * b)), .int .u64 (lo64 (a * b))]) := ⟨fun _ w h => mul_any a b h.1 h.2 w⟩
instance con_addw (a b c : Int) : R.ConP Tryz.prog 116 #[.int .u64 a, .int .u64 b, .int .u64 c] Unit (fun _ _ => InU64 a ∧ InU64 b ∧ 0 ≤ c) (fun _ => .tuple #[.int .u64 (lo64 (a + b + min c 1)), .int .u64 (hi64 (a + b + min c 1))]) := ⟨fun _ w h => add_any a b c h.1 h.2.1 h.2.2 w⟩
instance con_lenw (a : Int) : R.ConP Tryz.prog 84 #[.int .u64 a] Unit (fun _ _ => InU64 a) (fun _ => .int .i64 (bitLen a.toNat : Nat)) := ⟨fun _ w h => by
  have := len_any a h w
  rw [libLen_eq _ (by unfold InU64 at h; omega)] at this
  exact this⟩
end Go.Proofs.YtmoppmfbfpjdnaaGreat
