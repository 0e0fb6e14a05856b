/- Numbers with a sign: the plain law. Package sign: all but Over and Text. Package sign: differences, products, which is less, small ones. -/
import Derived.Test.YtmoppmfbfpjdnaaGreatSg
import Derived.Test.YtmoppmfbfpjdnaaGreatVGo
namespace Go.Proofs.YtmoppmfbfpjdnaaGreat
open Go.RowKit
open R (In64 InU64 lo64 nth)

instance decIn64 (a : Int) : Decidable (In64 a) := by unfold In64; infer_instance
theorem W512_two : 1 < W512 := wsmall (by decide)
/-- The whole number that a number with a sign is. -/
def Sg.z (x : Sg) : Int := if x.neg then -(x.mag.n : Int) else (x.mag.n : Int)
theorem Sg.z_lt (x : Sg) : x.z.natAbs < W512 := by
  unfold Sg.z
  have := x.mag.lt
  split <;> omega
theorem Sg.abs (x : Sg) : x.z.natAbs = x.mag.n := by
  unfold Sg.z
  split <;> omega
/-- The number with a sign that a whole number is. -/
def sgn (z : Int) : Sg := ⟨decide (z < 0), W z.natAbs⟩
theorem sgn_z {z : Int} (h : z.natAbs < W512) : (sgn z).z = z := by
  unfold sgn Sg.z
  rw [W_n h]
  by_cases hz : z < 0
  · rw [if_pos (decide_eq_true hz)]; omega
  · rw [if_neg (by simpa using hz)]; omega
theorem sgn_zero : sgn 0 = ⟨false, W 0⟩ := rfl
theorem sgn_eq {a b : Int} (ha : a.natAbs < W512) (hb : b.natAbs < W512) : sgn a = sgn b ↔ a = b :=
  ⟨fun h => by rw [← sgn_z ha, h, sgn_z hb], fun h => by rw [h]⟩
theorem sgn_mag {z : Int} (h : z.natAbs < W512) : (sgn z).mag.n = z.natAbs := W_n h
theorem abs_zero : (0 : Int).natAbs < W512 := W512_pos
/-- What fixing leaves. -/
theorem fix_zero {a : Sg} (h : a.mag.n = 0) : sgn a.z = ⟨false, W 0⟩ := by
  have : a.z = 0 := by have := a.abs; omega
  rw [this]; rfl
theorem fix_same {a : Sg} (h : a.mag.n ≠ 0) : sgn a.z = a := by
  refine Sg.ext_iff.2 ⟨?_, Wd.ext_ ?_⟩
  · unfold sgn Sg.z
    cases hn : a.neg
    · simp
    · simp; omega
  · rw [sgn_mag a.z_lt, a.abs]
theorem fix_neg (a : Sg) : (sgn a.z).neg = decide (a.z < 0) := rfl
theorem fix_z (a : Sg) : (sgn a.z).z = a.z := sgn_z a.z_lt
theorem fix_mag (a : Sg) : (sgn a.z).mag = a.mag := Wd.ext_ (by rw [sgn_mag a.z_lt, a.abs])
/-- A number, if it is near enough to nought; else nought. -/
def resZ (z : Int) : Sg := if z.natAbs < W512 then sgn z else sgn 0
theorem res_fit {z : Int} (h : z.natAbs < W512) : resZ z = sgn z := if_pos h
theorem res_far {z : Int} (h : ¬ z.natAbs < W512) : resZ z = sgn 0 := if_neg h
/-- How whole numbers compare. -/
def cmpZ (a b : Int) : Int := if a < b then -1 else if a = b then 0 else 1
theorem cmpI_nat (m n : Nat) : cmpI m n = cmpZ m n := by
  unfold cmpZ cmpI
  rcases Nat.lt_trichotomy m n with h | h | h
  · rw [if_pos h, if_pos (by omega)]
  · subst h
    rw [if_neg (by omega), if_neg (by omega), if_neg (by omega), if_pos rfl]
  · rw [if_neg (by omega), if_pos h, if_neg (by omega), if_neg (by omega)]
theorem cmpI_lt0 {x y : Nat} : cmpI x y < 0 ↔ x < y := by
  unfold cmpI
  by_cases h : x < y
  · rw [if_pos h]; exact ⟨fun _ => h, fun _ => by decide⟩
  · rw [if_neg h]
    refine ⟨fun h2 => ?_, fun h2 => absurd h2 h⟩
    split at h2 <;> omega
theorem cmpZ_lt {a b : Int} (h : a < b) : cmpZ a b = -1 := if_pos h
theorem cmpZ_gt {a b : Int} (h : b < a) : cmpZ a b = 1 := by unfold cmpZ; rw [if_neg (by omega), if_neg (by omega)]
theorem cmpZ_self (a : Int) : cmpZ a a = 0 := by unfold cmpZ; rw [if_neg (by omega), if_pos rfl]
theorem cmpZ_neg (a b : Int) : cmpZ (-a) (-b) = cmpZ b a := by
  unfold cmpZ
  by_cases h : b < a
  · rw [if_pos (by omega), if_pos h]
  · by_cases h2 : b = a
    · rw [if_neg (by omega), if_pos (by omega), if_neg h, if_pos h2]
    · rw [if_neg (by omega), if_neg (by omega), if_neg h, if_neg h2]
theorem fix_decide {a : Sg} {p : Bool} (h : (sgn a.z).neg = p) : p = true ↔ a.z < 0 := by
  rw [fix_neg] at h
  rw [← h]; simp
theorem cmp_neg {a b : Sg} (ha : a.z < 0) (hb : b.z < 0) : cmpI (sgn b.z).mag.n (sgn a.z).mag.n = cmpZ a.z b.z := by
  rw [sgn_mag a.z_lt, sgn_mag b.z_lt, cmpI_nat, ← cmpZ_neg]
  congr 1 <;> omega
theorem cmp_pos {a b : Sg} (ha : ¬ a.z < 0) (hb : ¬ b.z < 0) : cmpI (sgn a.z).mag.n (sgn b.z).mag.n = cmpZ a.z b.z := by
  rw [sgn_mag a.z_lt, sgn_mag b.z_lt, cmpI_nat]
  congr 1 <;> omega
/-- A word of an int that is small. -/
theorem small_eq {a : Sg} (h : a.mag = W (wd a.mag.n 0)) : a.mag.n = wd a.mag.n 0 := by
  have h1 : wd a.mag.n 0 < 18446744073709551616 := wd_lt _ _
  have h2 := congrArg Wd.n h
  rwa [W_n (wsmall h1)] at h2
theorem small_ne {a : Sg} (h : a.mag ≠ W (wd a.mag.n 0)) : 18446744073709551616 ≤ a.mag.n := by
  rcases Nat.lt_or_ge a.mag.n 18446744073709551616 with h1 | h1
  · refine absurd (Wd.ext_ ?_) h
    have : wd a.mag.n 0 = a.mag.n := by unfold wd; simp; omega
    rw [this, W_n a.mag.lt]
  · exact h1
theorem z_neg {a : Sg} (h : a.neg = true) : a.z = -(a.mag.n : Int) := by unfold Sg.z; rw [if_pos h]
theorem z_pos {a : Sg} (h : a.neg = false) : a.z = (a.mag.n : Int) := by unfold Sg.z; rw [h]; rfl
theorem wrap_neg {k : Nat} (h : k ≤ 9223372036854775808) : IntKind.i64.wrap (lo64 (-(k : Int))) = -(k : Int) := by
  rw [IntKind.wrap_i64]
  unfold lo64
  omega
theorem sm_far {a : Sg} (h : ¬ In64 a.z) : Ending.returned (Value.tuple #[.int .i64 0, .bool false]) = Ending.returned (Value.tuple #[.int .i64 (if In64 a.z then a.z else 0), .bool (decide (In64 a.z))]) := by
  rw [if_neg h, decide_eq_false h]
theorem sm_near {a : Sg} {v : Int} (h : In64 a.z) (hv : v = a.z) : Ending.returned (Value.tuple #[.int .i64 v, .bool true]) = Ending.returned (Value.tuple #[.int .i64 (if In64 a.z then a.z else 0), .bool (decide (In64 a.z))]) := by
  rw [if_pos h, decide_eq_true h, hv]
theorem sm_big {a : Sg} (h : 9223372036854775808 < a.mag.n) : ¬ In64 a.z := by
  have := a.abs
  unfold In64
  omega
theorem less_z (a : Sg) : (⟨!a.neg, a.mag⟩ : Sg).z = -a.z := by
  unfold Sg.z
  cases a.neg <;> simp
/-- What 'made' makes. -/
def madeS (neg : Bool) (m : Wd) (fits : Bool) : Sg := if fits then sgn (⟨neg, m⟩ : Sg).z else sgn 0
theorem made_eq {neg fits : Bool} {m : Nat} {z : Int} (h : fits = true ↔ z.natAbs < W512) (hm : z.natAbs < W512 → (⟨neg, W m⟩ : Sg).z = z) : madeS neg (W m) fits = resZ z ∧ fits = decide (z.natAbs < W512) := by
  unfold madeS resZ
  by_cases hz : z.natAbs < W512
  · rw [if_pos (h.2 hz), if_pos hz, hm hz, h.2 hz, decide_eq_true hz]; exact ⟨rfl, rfl⟩
  · have : fits = false := by
      cases hf : fits
      · rfl
      · exact absurd (h.1 hf) hz
    rw [this, if_neg hz, decide_eq_false hz]; exact ⟨rfl, rfl⟩
theorem mk_z {neg : Bool} {m : Nat} (h : m < W512) : (⟨neg, W m⟩ : Sg).z = if neg then -(m : Int) else (m : Int) := by
  unfold Sg.z
  rw [W_n h]
theorem add_same {a b : Sg} (h : (sgn a.z).neg = (sgn b.z).neg) :
    madeS (sgn a.z).neg (W ((sgn a.z).mag.n + (sgn b.z).mag.n)) (decide ((sgn a.z).mag.n + (sgn b.z).mag.n < W512)) = resZ (a.z + b.z) ∧ decide ((sgn a.z).mag.n + (sgn b.z).mag.n < W512) = decide ((a.z + b.z).natAbs < W512) := by
  rw [sgn_mag a.z_lt, sgn_mag b.z_lt, fix_neg]
  rw [fix_neg, fix_neg] at h
  have h1 : a.z < 0 ↔ b.z < 0 := by simpa using h
  have h2 : (a.z + b.z).natAbs = a.z.natAbs + b.z.natAbs := by omega
  refine made_eq (by rw [decide_eq_true_iff, h2]) fun hz => ?_
  rw [mk_z (by omega)]
  by_cases hn : a.z < 0
  · rw [if_pos (decide_eq_true hn)]; omega
  · rw [if_neg (by simpa using hn)]; omega
theorem add_diff {a b : Sg} (h : (sgn a.z).neg ≠ (sgn b.z).neg) (hle : (sgn b.z).mag.n ≤ (sgn a.z).mag.n) :
    madeS (sgn a.z).neg (difW (sgn a.z).mag (sgn b.z).mag) (decide ((sgn b.z).mag.n ≤ (sgn a.z).mag.n)) = resZ (a.z + b.z) ∧ decide ((sgn b.z).mag.n ≤ (sgn a.z).mag.n) = decide ((a.z + b.z).natAbs < W512) := by
  have h0 := a.z_lt
  have e1 : difW (sgn a.z).mag (sgn b.z).mag = W (a.z.natAbs - b.z.natAbs) := Wd.ext_ (by
    show dif _ _ = _
    rw [dif_of_le (Wd.lt _) hle, sgn_mag a.z_lt, sgn_mag b.z_lt, W_n (by omega)])
  rw [e1]
  rw [sgn_mag a.z_lt, sgn_mag b.z_lt] at hle ⊢
  rw [fix_neg]
  rw [fix_neg, fix_neg] at h
  have h1 : ¬ (a.z < 0 ↔ b.z < 0) := by simpa using h
  refine made_eq (by rw [decide_eq_true_iff]; omega) fun hz => ?_
  rw [mk_z (by omega)]
  by_cases hn : a.z < 0
  · rw [if_pos (decide_eq_true hn)]; omega
  · rw [if_neg (by simpa using hn)]; omega
theorem mul_made {a b : Sg} : madeS (!(a.neg == b.neg)) (W (a.mag.n * b.mag.n)) (decide (a.mag.n * b.mag.n < W512)) = resZ (a.z * b.z) ∧ decide (a.mag.n * b.mag.n < W512) = decide ((a.z * b.z).natAbs < W512) := by
  have h2 : (a.z * b.z).natAbs = a.mag.n * b.mag.n := by rw [Int.natAbs_mul, a.abs, b.abs]
  refine made_eq (by rw [decide_eq_true_iff, h2]) fun hz => ?_
  rw [mk_z (by omega)]
  unfold Sg.z
  cases a.neg <;> cases b.neg <;> simp [Int.neg_mul, Int.mul_neg]
theorem of_z {n : Int} (h : In64 n) : (⟨decide (n < 0), W (Int.toNat (n.natAbs : Int))⟩ : Sg).z = n := by
  rw [Int.toNat_natCast, mk_z (wsmall (by unfold In64 at h; omega))]
  by_cases hn : n < 0
  · rw [if_pos (decide_eq_true hn)]; omega
  · rw [if_neg (by simpa using hn)]; omega
theorem z_same {a b : Sg} (h : a.neg = b.neg) : (a.z + b.z).natAbs = a.mag.n + b.mag.n := by
  unfold Sg.z
  rw [h]
  split <;> omega
theorem mk_same {a b : Sg} {m : Nat} (h : a.neg = b.neg) (hm : m = a.mag.n + b.mag.n) (hf : m < W512) : (⟨a.neg, W m⟩ : Sg).z = a.z + b.z := by
  rw [mk_z hf]
  unfold Sg.z
  rw [h]
  split <;> omega
theorem z_diff {a b : Sg} (h : a.neg ≠ b.neg) : (a.z + b.z).natAbs < W512 := by
  have h1 := a.mag.lt
  have h2 := b.mag.lt
  unfold Sg.z
  cases ha : a.neg <;> cases hb : b.neg
  · rw [ha, hb] at h; exact absurd rfl h
  · simp; omega
  · simp; omega
  · rw [ha, hb] at h; exact absurd rfl h
theorem mk_diff {a b : Sg} {m : Nat} (h : a.neg ≠ b.neg) (hle : b.mag.n ≤ a.mag.n) (hm : m = a.mag.n - b.mag.n) : (⟨a.neg, W m⟩ : Sg).z = a.z + b.z := by
  have h1 := a.mag.lt
  rw [mk_z (by omega)]
  unfold Sg.z
  cases ha : a.neg <;> cases hb : b.neg
  · rw [ha, hb] at h; exact absurd rfl h
  · simp; omega
  · simp; omega
  · rw [ha, hb] at h; exact absurd rfl h
theorem res_ok {z y : Int} (h : z.natAbs < W512) (hy : y = z) : Ending.returned (Value.tuple #[.agg (cS (sgn y)).toArray, .bool true]) = Ending.returned (Value.tuple #[.agg (cS (resZ z)).toArray, .bool (decide (z.natAbs < W512))]) := by
  rw [res_fit h, decide_eq_true h, hy]
theorem res_no {z : Int} (h : ¬ z.natAbs < W512) : Ending.returned (Value.tuple #[.agg (cS ⟨false, W 0⟩).toArray, .bool false]) = Ending.returned (Value.tuple #[.agg (cS (resZ z)).toArray, .bool (decide (z.natAbs < W512))]) := by
  rw [res_far h, decide_eq_false h]; rfl
theorem mk_mul {a b : Sg} {m : Nat} (hm : m = a.mag.n * b.mag.n) (hf : m < W512) : (⟨!(a.neg == b.neg), W m⟩ : Sg).z = a.z * b.z := by
  rw [mk_z hf, hm]
  unfold Sg.z
  cases a.neg <;> cases b.neg <;> simp [Int.neg_mul, Int.mul_neg]
theorem z_mul (a b : Sg) : (a.z * b.z).natAbs = a.mag.n * b.mag.n := by rw [Int.natAbs_mul, a.abs, b.abs]
theorem sub_z (a b : Sg) : (sgn a.z).z + (sgn (-b.z)).z = a.z - b.z := by
  rw [fix_z, sgn_z (by have := b.z_lt; omega)]; omega
/-! the compare of the page -/
theorem retI {u v : Int} (h : u = v) : Ending.returned (Value.int .i64 u) = Ending.returned (.int .i64 v) := by rw [h]
section
variable {a b : Sg}
theorem c5a (hf : (!decide (((sgn a.z).z + (sgn (-b.z)).z).natAbs < W512)) = true) (h : a.z < 0) : (-1 : Int) = cmpZ a.z b.z := by
  rw [sub_z] at hf
  have h1 : ¬ (a.z - b.z).natAbs < W512 := by simpa using hf
  have := a.z_lt
  have := b.z_lt
  exact (cmpZ_lt (by omega)).symm
theorem c5b (hf : (!decide (((sgn a.z).z + (sgn (-b.z)).z).natAbs < W512)) = true) (h : ¬ a.z < 0) : (1 : Int) = cmpZ a.z b.z := by
  rw [sub_z] at hf
  have h1 : ¬ (a.z - b.z).natAbs < W512 := by simpa using hf
  have := a.z_lt
  have := b.z_lt
  exact (cmpZ_gt (by omega)).symm
theorem c5z (hf : (!decide (((sgn a.z).z + (sgn (-b.z)).z).natAbs < W512)) = true) (h : (sgn a.z).mag = W 0) : False := by
  rw [sub_z] at hf
  have h1 : ¬ (a.z - b.z).natAbs < W512 := by simpa using hf
  have h2 := congrArg Wd.n h
  rw [W_n W512_pos, sgn_mag a.z_lt] at h2
  have := b.z_lt
  omega
theorem c5c (hf : (!decide (((sgn a.z).z + (sgn (-b.z)).z).natAbs < W512)) = false) (h : (resZ ((sgn a.z).z + (sgn (-b.z)).z)).neg = true) : (-1 : Int) = cmpZ a.z b.z := by
  rw [sub_z] at hf h
  have h1 : (a.z - b.z).natAbs < W512 := by simpa using hf
  rw [res_fit h1] at h
  have h2 : a.z - b.z < 0 := of_decide_eq_true h
  exact (cmpZ_lt (by omega)).symm
theorem c5d (hf : (!decide (((sgn a.z).z + (sgn (-b.z)).z).natAbs < W512)) = false) (h : (resZ ((sgn a.z).z + (sgn (-b.z)).z)).mag = W 0) : (0 : Int) = cmpZ a.z b.z := by
  rw [sub_z] at hf h
  have h1 : (a.z - b.z).natAbs < W512 := by simpa using hf
  rw [res_fit h1] at h
  have h2 := congrArg Wd.n h
  rw [W_n W512_pos, sgn_mag h1] at h2
  rw [show a.z = b.z by omega, cmpZ_self]
theorem c5e (hf : (!decide (((sgn a.z).z + (sgn (-b.z)).z).natAbs < W512)) = false) (hn : (resZ ((sgn a.z).z + (sgn (-b.z)).z)).neg = false) (h : ¬ (resZ ((sgn a.z).z + (sgn (-b.z)).z)).mag = W 0) : (1 : Int) = cmpZ a.z b.z := by
  rw [sub_z] at hf h hn
  have h1 : (a.z - b.z).natAbs < W512 := by simpa using hf
  rw [res_fit h1] at h hn
  have h2 : ¬ a.z - b.z < 0 := of_decide_eq_false hn
  have h3 : a.z - b.z ≠ 0 := fun e => h (by rw [e, sgn_zero])
  exact (cmpZ_gt (by omega)).symm
end
/-- What follows is told of the slots that live. -/
theorem R.WC_cut2 {P : Program} {n : Nat} {Q : Exit → R.Fr → World → Prop} {f : R.Fr} {w : World} {c : Code} {ι : Type} (L : ι → List (Nat × Value)) (J : ι → World → Prop)
    (h1 : R.WC P n (fun e f' w' => e = .normal ∧ ∃ i, R.Agrees f' (L i) ∧ J i w') c f w) (h2 : ∀ i f w, J i w → Q .normal (R.over (L i) f) w) : R.WC P n Q c f w := by
  unfold R.WC at h1 ⊢
  intro a ha
  refine wp_mono (h1 a ha) fun e a' w' he => ?_
  obtain ⟨f', ha', rfl, i, hag, hJ⟩ := he
  refine ⟨f', ha', ?_⟩
  rw [← R.over_agrees hag]
  exact h2 i f' w' hJ
theorem R.subl {p : Prop} (h : p := by repeat (first | exact List.Sublist.refl _ | apply List.Sublist.cons_cons | apply List.Sublist.cons)) : p := h
theorem sl_dist {a b c : Sg} (ho : (!decide ((a.z * b.z).natAbs < W512)) = false) (hq : (!decide ((b.z + c.z).natAbs < W512)) = false) (hw : (!decide ((a.z * c.z).natAbs < W512)) = false) :
    resZ (a.z * (resZ (b.z + c.z)).z) = resZ ((resZ (a.z * b.z)).z + (resZ (a.z * c.z)).z) := by
  have h1 : (a.z * b.z).natAbs < W512 := by simpa using ho
  have h2 : (b.z + c.z).natAbs < W512 := by simpa using hq
  have h3 : (a.z * c.z).natAbs < W512 := by simpa using hw
  rw [res_fit h1, res_fit h2, res_fit h3, sgn_z h1, sgn_z h2, sgn_z h3, Int.mul_add]
theorem sl_neg (a b : Sg) : (sgn (-a.z)).z * b.z = -(a.z * b.z) := by
  rw [sgn_z (by have := a.z_lt; omega), Int.neg_mul]
theorem sl_less (a b : Sg) : resZ ((sgn (-a.z)).z * b.z) = sgn (-(resZ (a.z * b.z)).z) := by
  rw [sl_neg]
  by_cases h : (a.z * b.z).natAbs < W512
  · rw [res_fit h, res_fit (by omega), sgn_z h]
  · rw [res_far h, res_far (by omega), sgn_z abs_zero]; rfl
theorem same_fits {x y : Int} (h : x.natAbs = y.natAbs) : (!(decide (x.natAbs < W512) == decide (y.natAbs < W512))) = false := by
  rw [h]; simp
end Go.Proofs.YtmoppmfbfpjdnaaGreat
namespace Go.Proofs.YtmoppmfbfpjdnaaGreat
open Go.RowKit
open R (In64 InU64 lo64 nth)

instance con_two (a : Int) : R.ConP Tryz.prog 98 #[.int .i64 a] Unit (fun _ _ => In64 a) (fun _ => .tuple #[.bool (decide (a < 0)), .int .u64 (a.natAbs : Nat)]) := ⟨fun _ w h => by
  have h1 := two_any a h w
  have h2 : (if a < 0 then -a else a) = ((a.natAbs : Nat) : Int) := by split <;> omega
  rw [h2] at h1
  exact h1⟩
theorem sfix (a : Sg) (w : World) : Calls Tryz.prog 76 #[.agg (cS a).toArray] w fun e w' => e = .returned (.agg (cS (sgn a.z)).toArray) ∧ Below w.heap.size w w' := by
  have hM := R.Own.start [] w
  by_cases h : a.mag.n = 0
  · rw [fix_zero h]
    refine R.calls_of_WC (fn := Tryz.f76) Tryz.func76 rfl Tryz.ntmps76 (Nat.le_of_ble_eq_true rfl) ?_
    (refine R.stepU ?_; (repeat' (first | (with_reducible refine And.intro ?_ ?_) | (with_reducible intro _))); all_goals refine R.Lft.mk ?_; (all_goals (try (exact ⟨rfl, R.Own.below (by assumption)⟩))))
  · rw [fix_same h]
    refine R.calls_of_WC (fn := Tryz.f76) Tryz.func76 rfl Tryz.ntmps76 (Nat.le_of_ble_eq_true rfl) ?_
    (refine R.stepU ?_; (repeat' (first | (with_reducible refine And.intro ?_ ?_) | (with_reducible intro _))); all_goals refine R.Lft.mk ?_; (all_goals (try (exact ⟨rfl, R.Own.below (by assumption)⟩))))
instance con_sfix (a : Sg) : R.ConB Tryz.prog 76 #[.agg (cS a).toArray] Unit (fun _ _ => True) (fun _ => .agg (cS (sgn a.z)).toArray) := ⟨fun _ w _ => sfix a w⟩
theorem sof (n : Int) (h : In64 n) (w : World) : Calls Tryz.prog 79 #[.int .i64 n] w fun e w' => e = .returned (.agg (cS (sgn n)).toArray) ∧ Below w.heap.size w w' := by
  have hM := R.Own.start [] w
  have h1 := of_z h
  have h2 : InU64 (n.natAbs : Nat) := by unfold In64 at h; unfold InU64; omega
  refine R.calls_of_WC (fn := Tryz.f79) Tryz.func79 rfl Tryz.ntmps79 (Nat.le_of_ble_eq_true rfl) ?_
  (refine R.stepU ?_; (repeat' (first | (with_reducible refine And.intro ?_ ?_) | (with_reducible intro _))); all_goals refine R.Lft.mk ?_; (all_goals (try (exact ⟨rfl, R.Own.below (by assumption)⟩))))
  rw [h1]
  exact ⟨rfl, R.Own.below (by assumption)⟩
instance con_sof (n : Int) : R.ConB Tryz.prog 79 #[.int .i64 n] Unit (fun _ _ => In64 n) (fun _ => .agg (cS (sgn n)).toArray) := ⟨fun _ w h => sof n h w⟩
theorem sless (a : Sg) (w : World) : Calls Tryz.prog 94 #[.agg (cS a).toArray] w fun e w' => e = .returned (.agg (cS (sgn (-a.z))).toArray) ∧ Below w.heap.size w w' := by
  have hM := R.Own.start [] w
  have h1 := less_z a
  refine R.calls_of_WC (fn := Tryz.f94) Tryz.func94 rfl Tryz.ntmps94 (Nat.le_of_ble_eq_true rfl) ?_
  (refine R.stepU ?_; (repeat' (first | (with_reducible refine And.intro ?_ ?_) | (with_reducible intro _))); all_goals refine R.Lft.mk ?_; (all_goals (try (exact ⟨rfl, R.Own.below (by assumption)⟩))))
  rw [h1]
  exact ⟨rfl, R.Own.below (by assumption)⟩
instance con_sless (a : Sg) : R.ConB Tryz.prog 94 #[.agg (cS a).toArray] Unit (fun _ _ => True) (fun _ => .agg (cS (sgn (-a.z))).toArray) := ⟨fun _ w _ => sless a w⟩
theorem smade (neg : Bool) (m : Wd) (fits : Bool) (w : World) : Calls Tryz.prog 103 #[.bool neg, .agg (cW m).toArray, .bool fits] w fun e w' => e = .returned (.tuple #[.agg (cS (madeS neg m fits)).toArray, .bool fits]) ∧ Below w.heap.size w w' := by
  have hM := R.Own.start [] w
  cases fits
  · refine R.calls_of_WC (fn := Tryz.f103) Tryz.func103 rfl Tryz.ntmps103 (Nat.le_of_ble_eq_true rfl) ?_
    (refine R.stepU ?_; (repeat' (first | (with_reducible refine And.intro ?_ ?_) | (with_reducible intro _))); all_goals refine R.Lft.mk ?_; (all_goals (try (exact ⟨rfl, R.Own.below (by assumption)⟩))))
  · refine R.calls_of_WC (fn := Tryz.f103) Tryz.func103 rfl Tryz.ntmps103 (Nat.le_of_ble_eq_true rfl) ?_
    (refine R.stepU ?_; (repeat' (first | (with_reducible refine And.intro ?_ ?_) | (with_reducible intro _))); all_goals refine R.Lft.mk ?_; (all_goals (try (exact ⟨rfl, R.Own.below (by assumption)⟩))))
instance con_smade (neg : Bool) (m : Wd) (fits : Bool) : R.ConB Tryz.prog 103 #[.bool neg, .agg (cW m).toArray, .bool fits] Unit (fun _ _ => True) (fun _ => .tuple #[.agg (cS (madeS neg m fits)).toArray, .bool fits]) := ⟨fun _ w _ => smade neg m fits w⟩
attribute [local irreducible] W512 in
set_option maxHeartbeats 1000000 in
theorem sadd (a b : Sg) (w : World) : Calls Tryz.prog 104 #[.agg (cS a).toArray, .agg (cS b).toArray] w fun e w' => e = .returned (.tuple #[.agg (cS (resZ (a.z + b.z))).toArray, .bool (decide ((a.z + b.z).natAbs < W512))]) ∧ Below w.heap.size w w' := by
  have hM := R.Own.start [] w
  by_cases h : (sgn a.z).neg = (sgn b.z).neg
  · obtain ⟨e1, e2⟩ := add_same h
    refine R.calls_of_WC (fn := Tryz.f104) Tryz.func104 rfl Tryz.ntmps104 (Nat.le_of_ble_eq_true rfl) ?_
    (refine R.stepU ?_; (repeat' (first | (with_reducible refine And.intro ?_ ?_) | (with_reducible intro _))); all_goals refine R.Lft.mk ?_)
    (refine R.WC_planK 2 [(0, false), (2, false), (1, true), (3, true), (4, true), (5, true)] R.mixed (by decide +kernel) R.ohm ?_; simp only [List.take_succ_cons, List.take_zero])
    (refine R.stepU ?_; (repeat' (first | (with_reducible refine And.intro ?_ ?_) | (with_reducible intro _))); all_goals refine R.Lft.mk ?_; (all_goals (try (exact ⟨rfl, R.Own.below (by assumption)⟩))))
    all_goals (rw [e1, e2]; exact ⟨rfl, R.Own.below (by assumption)⟩)
  · by_cases hlt : (sgn a.z).mag.n < (sgn b.z).mag.n
    · have hc : cmpI (sgn a.z).mag.n (sgn b.z).mag.n < 0 := cmpI_lt0.2 hlt
      obtain ⟨e1, e2⟩ := add_diff (fun e => h e.symm) (Nat.le_of_lt hlt)
      rw [Int.add_comm] at e1 e2
      refine R.calls_of_WC (fn := Tryz.f104) Tryz.func104 rfl Tryz.ntmps104 (Nat.le_of_ble_eq_true rfl) ?_
      (refine R.stepU ?_; (repeat' (first | (with_reducible refine And.intro ?_ ?_) | (with_reducible intro _))); all_goals refine R.Lft.mk ?_)
      (refine R.WC_planK 2 [(0, false), (2, false), (1, true), (3, true), (4, true), (5, true)] R.mixed (by decide +kernel) R.ohm ?_; simp only [List.take_succ_cons, List.take_zero])
      (refine R.stepU ?_; (repeat' (first | (with_reducible refine And.intro ?_ ?_) | (with_reducible intro _))); all_goals refine R.Lft.mk ?_; (all_goals (try (exact ⟨rfl, R.Own.below (by assumption)⟩))))
      all_goals (rw [e1, e2]; exact ⟨rfl, R.Own.below (by assumption)⟩)
    · have hc : ¬ cmpI (sgn a.z).mag.n (sgn b.z).mag.n < 0 := fun h => hlt (cmpI_lt0.1 h)
      obtain ⟨e1, e2⟩ := add_diff h (by omega)
      refine R.calls_of_WC (fn := Tryz.f104) Tryz.func104 rfl Tryz.ntmps104 (Nat.le_of_ble_eq_true rfl) ?_
      (refine R.stepU ?_; (repeat' (first | (with_reducible refine And.intro ?_ ?_) | (with_reducible intro _))); all_goals refine R.Lft.mk ?_)
      (refine R.WC_planK 2 [(0, false), (2, false), (1, true), (3, true), (4, true), (5, true)] R.mixed (by decide +kernel) R.ohm ?_; simp only [List.take_succ_cons, List.take_zero])
      (refine R.stepU ?_; (repeat' (first | (with_reducible refine And.intro ?_ ?_) | (with_reducible intro _))); all_goals refine R.Lft.mk ?_; (all_goals (try (exact ⟨rfl, R.Own.below (by assumption)⟩))))
      all_goals (rw [e1, e2]; exact ⟨rfl, R.Own.below (by assumption)⟩)
instance con_sadd (a b : Sg) : R.ConB Tryz.prog 104 #[.agg (cS a).toArray, .agg (cS b).toArray] Unit (fun _ _ => True) (fun _ => .tuple #[.agg (cS (resZ (a.z + b.z))).toArray, .bool (decide ((a.z + b.z).natAbs < W512))]) := ⟨fun _ w _ => sadd a b w⟩
end Go.Proofs.YtmoppmfbfpjdnaaGreat
namespace Go.Proofs.YtmoppmfbfpjdnaaGreat
open Go.RowKit
open R (In64 InU64 lo64 nth)

attribute [local irreducible] W512 in
theorem ssub (a b : Sg) (w : World) : Calls Tryz.prog 97 #[.agg (cS a).toArray, .agg (cS b).toArray] w fun e w' => e = .returned (.tuple #[.agg (cS (resZ (a.z - b.z))).toArray, .bool (decide ((a.z - b.z).natAbs < W512))]) ∧ Below w.heap.size w w' := by
  have hM := R.Own.start [] w
  have e1 : a.z + (sgn (-b.z)).z = a.z - b.z := by rw [sgn_z (by have := b.z_lt; omega)]; omega
  refine R.calls_of_WC (fn := Tryz.f97) Tryz.func97 rfl Tryz.ntmps97 (Nat.le_of_ble_eq_true rfl) ?_
  (refine R.stepU ?_; (repeat' (first | (with_reducible refine And.intro ?_ ?_) | (with_reducible intro _))); all_goals refine R.Lft.mk ?_)
  refine R.WC_planX [(0, false), (1, false), (2, true), (3, true), (4, false), (5, false), (6, true), (7, false)] R.mixed (by decide +kernel) R.ohm ?_
  (refine R.stepU ?_; (repeat' (first | (with_reducible refine And.intro ?_ ?_) | (with_reducible intro _))); all_goals refine R.Lft.mk ?_; (all_goals (try (exact ⟨rfl, R.Own.below (by assumption)⟩))))
  rw [e1]
  exact ⟨rfl, R.Own.below (by assumption)⟩
instance con_ssub (a b : Sg) : R.ConB Tryz.prog 97 #[.agg (cS a).toArray, .agg (cS b).toArray] Unit (fun _ _ => True) (fun _ => .tuple #[.agg (cS (resZ (a.z - b.z))).toArray, .bool (decide ((a.z - b.z).natAbs < W512))]) := ⟨fun _ w _ => ssub a b w⟩
attribute [local irreducible] W512 in
theorem smul (a b : Sg) (w : World) : Calls Tryz.prog 82 #[.agg (cS a).toArray, .agg (cS b).toArray] w fun e w' => e = .returned (.tuple #[.agg (cS (resZ (a.z * b.z))).toArray, .bool (decide ((a.z * b.z).natAbs < W512))]) ∧ Below w.heap.size w w' := by
  have hM := R.Own.start [] w
  obtain ⟨e1, e2⟩ := @mul_made a b
  refine R.calls_of_WC (fn := Tryz.f82) Tryz.func82 rfl Tryz.ntmps82 (Nat.le_of_ble_eq_true rfl) ?_
  (refine R.stepU ?_; (repeat' (first | (with_reducible refine And.intro ?_ ?_) | (with_reducible intro _))); all_goals refine R.Lft.mk ?_; (all_goals (try (exact ⟨rfl, R.Own.below (by assumption)⟩))))
  rw [e1, e2]
  exact ⟨rfl, R.Own.below (by assumption)⟩
instance con_smul (a b : Sg) : R.ConB Tryz.prog 82 #[.agg (cS a).toArray, .agg (cS b).toArray] Unit (fun _ _ => True) (fun _ => .tuple #[.agg (cS (resZ (a.z * b.z))).toArray, .bool (decide ((a.z * b.z).natAbs < W512))]) := ⟨fun _ w _ => smul a b w⟩
attribute [local irreducible] W512 in
theorem scmp (a b : Sg) (w : World) : Calls Tryz.prog 48 #[.agg (cS a).toArray, .agg (cS b).toArray] w fun e w' => e = .returned (.int .i64 (cmpZ a.z b.z)) ∧ Below w.heap.size w w' := by
  have hM := R.Own.start [] w
  refine R.calls_of_WC (fn := Tryz.f48) Tryz.func48 rfl Tryz.ntmps48 (Nat.le_of_ble_eq_true rfl) ?_
  (refine R.stepU ?_; (repeat' (first | (with_reducible refine And.intro ?_ ?_) | (with_reducible intro _))); all_goals refine R.Lft.mk ?_)
  (refine R.WC_planK 1 [(0, false), (2, false), (1, true), (3, true), (4, true), (5, true)] R.mixed (by decide +kernel) R.ohm ?_; simp only [List.take_succ_cons, List.take_zero])
  (refine R.stepU ?_; (repeat' (first | (with_reducible refine And.intro ?_ ?_) | (with_reducible intro _))); all_goals refine R.Lft.mk ?_; (all_goals (try (exact ⟨rfl, R.Own.below (by assumption)⟩))))
  · rw [cmp_neg (by assumption) (by assumption)]
    exact ⟨rfl, R.Own.below (by assumption)⟩
  · rw [cmpZ_lt (by omega)]
    exact ⟨rfl, R.Own.below (by assumption)⟩
  · rw [cmpZ_gt (by omega)]
    exact ⟨rfl, R.Own.below (by assumption)⟩
  · rw [cmp_pos (by assumption) (by assumption)]
    exact ⟨rfl, R.Own.below (by assumption)⟩
instance con_scmp (a b : Sg) : R.ConB Tryz.prog 48 #[.agg (cS a).toArray, .agg (cS b).toArray] Unit (fun _ _ => True) (fun _ => .int .i64 (cmpZ a.z b.z)) := ⟨fun _ w _ => scmp a b w⟩
attribute [local irreducible] W512 in
theorem ssmall (a : Sg) (w : World) : Calls Tryz.prog 93 #[.agg (cS a).toArray] w fun e w' => e = .returned (.tuple #[.int .i64 (if In64 a.z then a.z else 0), .bool (decide (In64 a.z))]) ∧ Below w.heap.size w w' := by
  have hM := R.Own.start [] w
  have hw := wd_lt a.mag.n 0
  refine R.calls_of_WC (fn := Tryz.f93) Tryz.func93 rfl Tryz.ntmps93 (Nat.le_of_ble_eq_true rfl) ?_
  (refine R.stepU ?_; (repeat' (first | (with_reducible refine And.intro ?_ ?_) | (with_reducible intro _))); all_goals refine R.Lft.mk ?_)
  refine R.WC_planX [(0, false), (1, false), (2, false), (3, true), (4, false), (5, false)] R.mixed (by decide +kernel) R.ohm ?_
  (refine R.stepU ?_; (repeat' (first | (with_reducible refine And.intro ?_ ?_) | (with_reducible intro _))); all_goals refine R.Lft.mk ?_; (all_goals (try (exact ⟨rfl, R.Own.below (by assumption)⟩))))
  all_goals refine ⟨?_, R.Own.below (by assumption)⟩
  · rename_i h
    have := small_ne h
    exact sm_far (sm_big (by omega))
  all_goals have hs := small_eq (a := a) (Decidable.not_not.1 (by assumption))
  · exact sm_far (sm_big (by omega))
  · rename_i h
    have hz := z_pos (a := a) (by simpa using h)
    exact sm_far (by unfold In64; omega)
  · rename_i h
    have hz := z_neg h
    exact sm_near (by unfold In64; omega) (by rw [wrap_neg (by omega)]; omega)
  · rename_i h1 h
    rw [h] at h1
    cases h1
  · rename_i h
    have hz := z_neg h
    exact sm_near (by unfold In64; omega) (by rw [wrap_neg (by omega)]; omega)
  · rename_i h
    have hz := z_pos h
    exact sm_near (by unfold In64; omega) (by omega)
/-- Whether a whole number is an int. -/
def smZ (z : Int) : Int := if -9223372036854775808 ≤ z ∧ z ≤ 9223372036854775807 then z else 0
instance con_ssmall (a : Sg) : R.ConB Tryz.prog 93 #[.agg (cS a).toArray] Unit (fun _ _ => True) (fun _ => .tuple #[.int .i64 (smZ a.z), .bool (decide (-9223372036854775808 ≤ a.z ∧ a.z ≤ 9223372036854775807))]) := ⟨fun _ w _ => by
  have h := ssmall a w
  have h1 : In64 a.z ↔ (-9223372036854775808 ≤ a.z ∧ a.z ≤ 9223372036854775807) := by unfold In64; rfl
  have h2 : decide (In64 a.z) = decide (-9223372036854775808 ≤ a.z ∧ a.z ≤ 9223372036854775807) := decide_eq_decide.2 h1
  have h3 : (if In64 a.z then a.z else 0) = smZ a.z := by
    unfold smZ
    by_cases h4 : In64 a.z
    · rw [if_pos h4, if_pos (h1.1 h4)]
    · rw [if_neg h4, if_neg (fun h => h4 (h1.2 h))]
  rw [h2, h3] at h
  exact h⟩
end Go.Proofs.YtmoppmfbfpjdnaaGreat
