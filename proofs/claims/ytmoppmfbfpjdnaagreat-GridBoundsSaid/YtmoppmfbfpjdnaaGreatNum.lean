/- Plain laws on numbers in digits of 16 bits (lists, lowest first) and in words of 64 bits. No program is in sight here. Plain laws on numbers of eight words: sums, differences, how they compare. Plain laws on dividing: one digit of a quotient by trying, two words by one. No program is in sight here. Plain laws for package quot: dividing word by word and bit by bit, what divides two numbers, the rounds that rests take, roots. No program is in sight here. -/
import Derived.Below
namespace Go.Proofs.YtmoppmfbfpjdnaaGreat

/-- The number of digits. -/
def dval : List Nat → Nat
  | [] => 0
  | d :: ds => d + 65536 * dval ds

/-- Each digit is below 65536. -/
def Dig (l : List Nat) : Prop := ∀ d ∈ l, d < 65536

theorem Dig.nil : Dig [] := fun _ h => by cases h
theorem Dig.cons {d : Nat} {l : List Nat} (h : d < 65536) (hl : Dig l) : Dig (d :: l) := fun x hx => by
  rcases List.mem_cons.1 hx with rfl | hx
  · exact h
  · exact hl x hx
theorem Dig.append {a b : List Nat} (ha : Dig a) (hb : Dig b) : Dig (a ++ b) := fun x hx => by
  rcases List.mem_append.1 hx with h | h
  · exact ha x h
  · exact hb x h
theorem Dig.take {l : List Nat} (h : Dig l) (k : Nat) : Dig (l.take k) := fun x hx => h x (List.mem_of_mem_take hx)
theorem Dig.drop {l : List Nat} (h : Dig l) (k : Nat) : Dig (l.drop k) := fun x hx => h x (List.mem_of_mem_drop hx)
theorem Dig.getD {l : List Nat} (h : Dig l) (k : Nat) : l.getD k 0 < 65536 := by
  rcases Nat.lt_or_ge k l.length with hk | hk
  · rw [List.getD_eq_getElem?_getD, List.getElem?_eq_getElem hk]
    exact h _ (List.getElem_mem hk)
  · rw [List.getD_eq_getElem?_getD, List.getElem?_eq_none hk]
    simp
theorem Dig.set {l : List Nat} (h : Dig l) (k d : Nat) (hd : d < 65536) : Dig (l.set k d) := fun x hx => by
  rcases List.mem_or_eq_of_mem_set hx with hx | rfl
  · exact h x hx
  · exact hd
theorem Dig.replicate (n : Nat) : Dig (List.replicate n 0) := fun x hx => by
  have := List.eq_of_mem_replicate hx
  omega

theorem dval_append (a b : List Nat) : dval (a ++ b) = dval a + 65536 ^ a.length * dval b := by
  induction a with
  | nil => simp [dval]
  | cons d a ih =>
    simp only [List.cons_append, dval, ih, List.length_cons, Nat.pow_succ]
    grind
theorem dval_lt {l : List Nat} (h : Dig l) : dval l < 65536 ^ l.length := by
  induction l with
  | nil => simp [dval]
  | cons d l ih =>
    have h1 := ih fun x hx => h x (List.mem_cons_of_mem _ hx)
    have h2 := h d List.mem_cons_self
    simp only [dval, List.length_cons, Nat.pow_succ]
    omega
theorem dval_split (l : List Nat) (k : Nat) : dval l = dval (l.take k) + 65536 ^ k * dval (l.drop k) := by
  rcases Nat.lt_or_ge k l.length with hk | hk
  · have := dval_append (l.take k) (l.drop k)
    rw [List.take_append_drop, List.length_take, Nat.min_eq_left (Nat.le_of_lt hk)] at this
    exact this
  · rw [List.take_of_length_le hk, List.drop_eq_nil_of_le hk]
    simp [dval]
theorem dval_take_succ (l : List Nat) (k : Nat) : dval (l.take (k + 1)) = dval (l.take k) + 65536 ^ k * l.getD k 0 := by
  rcases Nat.lt_or_ge k l.length with hk | hk
  · rw [List.take_succ_eq_append_getElem hk, dval_append, List.length_take, Nat.min_eq_left (Nat.le_of_lt hk), List.getD_eq_getElem?_getD, List.getElem?_eq_getElem hk]
    simp [dval]
  · rw [List.take_of_length_le hk, List.take_of_length_le (by omega), List.getD_eq_getElem?_getD, List.getElem?_eq_none hk]
    simp
theorem dval_drop_succ (l : List Nat) (k : Nat) : dval (l.drop k) = l.getD k 0 + 65536 * dval (l.drop (k + 1)) := by
  rcases Nat.lt_or_ge k l.length with hk | hk
  · rw [List.drop_eq_getElem_cons hk, List.getD_eq_getElem?_getD, List.getElem?_eq_getElem hk]
    simp [dval]
  · rw [List.drop_eq_nil_of_le hk, List.drop_eq_nil_of_le (by omega), List.getD_eq_getElem?_getD, List.getElem?_eq_none hk]
    simp [dval]
theorem dval_take_lt {l : List Nat} (h : Dig l) (k : Nat) : dval (l.take k) < 65536 ^ k := by
  have h1 := dval_lt (h.take k)
  have h2 : 65536 ^ (l.take k).length ≤ 65536 ^ k := Nat.pow_le_pow_right (by omega) (by rw [List.length_take]; omega)
  omega
theorem dval_replicate (n : Nat) : dval (List.replicate n 0) = 0 := by
  induction n with
  | zero => rfl
  | succ n ih => rw [List.replicate_succ]; simp [dval, ih]
theorem dval_set (l : List Nat) (k d : Nat) (hk : k < l.length) : dval (l.set k d) + 65536 ^ k * l.getD k 0 = dval l + 65536 ^ k * d := by
  induction l generalizing k with
  | nil => simp at hk
  | cons x l ih =>
    cases k with
    | zero => simp [dval]; omega
    | succ k =>
      have := ih k (by simpa using hk)
      simp only [List.set_cons_succ, dval, Nat.pow_succ, List.getD_cons_succ]
      grind
/-- The digit at a place, of the number. -/
theorem dval_digit {l : List Nat} (h : Dig l) (k : Nat) : dval l / 65536 ^ k % 65536 = l.getD k 0 := by
  rw [dval_split l k, Nat.add_mul_div_left _ _ (Nat.pow_pos (by omega)), Nat.div_eq_of_lt (dval_take_lt h k), Nat.zero_add, dval_drop_succ]
  have := h.getD k
  omega
theorem dval_shift {l : List Nat} (h : Dig l) (k : Nat) : dval l / 65536 ^ k = dval (l.drop k) := by
  rw [dval_split l k, Nat.add_mul_div_left _ _ (Nat.pow_pos (by omega)), Nat.div_eq_of_lt (dval_take_lt h k), Nat.zero_add]

/-- Four digits are a word. -/
theorem dval_word {l : List Nat} (h : Dig l) (k : Nat) :
    dval l / 65536 ^ k % 18446744073709551616 = l.getD k 0 + 65536 * (l.getD (k + 1) 0 + 65536 * (l.getD (k + 2) 0 + 65536 * l.getD (k + 3) 0)) := by
  rw [dval_shift h, dval_drop_succ, dval_drop_succ l (k + 1), dval_drop_succ l (k + 2), dval_drop_succ l (k + 3)]
  have := h.getD k
  have := h.getD (k + 1)
  have := h.getD (k + 2)
  have := h.getD (k + 3)
  omega

/-- A word's four digits. -/
def dig4 (a : Nat) : List Nat := [a % 65536, a / 65536 % 65536, a / 4294967296 % 65536, a / 281474976710656]
theorem dig4_dig {a : Nat} (h : a < 18446744073709551616) : Dig (dig4 a) := by
  intro d hd
  simp only [dig4, List.mem_cons, List.not_mem_nil, or_false] at hd
  omega
theorem dig4_val (a : Nat) : dval (dig4 a) = a := by
  simp only [dig4, dval]
  omega

/-! ### comparing -/
theorem dval_lt_of_top {a b : List Nat} (ha : Dig a) (_hb : Dig b) (i : Nat) (htop : dval (a.drop (i + 1)) = dval (b.drop (i + 1))) (hlt : a.getD i 0 < b.getD i 0) : dval a < dval b := by
  have h1 := dval_split a i
  have h2 := dval_split b i
  rw [dval_drop_succ] at h1 h2
  rw [htop] at h1
  have h3 := dval_take_lt ha i
  have h4 : 65536 ^ i * (a.getD i 0 + 65536 * dval (b.drop (i + 1))) + 65536 ^ i ≤ 65536 ^ i * (b.getD i 0 + 65536 * dval (b.drop (i + 1))) := by
    rw [← Nat.mul_succ]
    exact Nat.mul_le_mul_left _ (by omega)
  omega

/-! ### words -/
/-- The word at a place. -/
def wd (n k : Nat) : Nat := n / 2 ^ (64 * k) % 2 ^ 64
theorem wd_lt (n k : Nat) : wd n k < 18446744073709551616 := Nat.mod_lt _ (by decide)
theorem wd_zero (k : Nat) : wd 0 k = 0 := by simp [wd]
theorem mod_succ_word (n k : Nat) : n % 2 ^ (64 * (k + 1)) = n % 2 ^ (64 * k) + 2 ^ (64 * k) * wd n k := by
  rw [show 64 * (k + 1) = 64 * k + 64 by omega, Nat.pow_add, Nat.mod_mul]
  rfl
theorem wd_mod {n k m : Nat} (h : k < m) : wd (n % 2 ^ (64 * m)) k = wd n k := by
  unfold wd
  have e : 2 ^ (64 * m) = 2 ^ (64 * k) * (2 ^ 64 * 2 ^ (64 * (m - k - 1))) := by
    rw [← Nat.pow_add, ← Nat.pow_add]
    congr 1
    omega
  rw [e, Nat.mod_mul_right_div_self, Nat.mod_mul_right_mod]
theorem eq_of_words {a b m : Nat} (ha : a < 2 ^ (64 * m)) (hb : b < 2 ^ (64 * m)) (h : ∀ k, k < m → wd a k = wd b k) : a = b := by
  have key : ∀ k, k ≤ m → a % 2 ^ (64 * k) = b % 2 ^ (64 * k) := by
    intro k
    induction k with
    | zero => intro _; simp [Nat.mod_one]
    | succ k ih =>
      intro hk
      rw [mod_succ_word, mod_succ_word, ih (by omega), h k (by omega)]
  have := key m (Nat.le_refl _)
  rwa [Nat.mod_eq_of_lt ha, Nat.mod_eq_of_lt hb] at this
end Go.Proofs.YtmoppmfbfpjdnaaGreat
namespace Go.Proofs.YtmoppmfbfpjdnaaGreat

def wsz (k : Nat) : Nat := 2 ^ (64 * k)
theorem wsz_pos (k : Nat) : 0 < wsz k := Nat.two_pow_pos _
theorem wsz_dvd {k m : Nat} (h : k ≤ m) : 2 ^ (64 * k) ∣ wsz m := Nat.pow_dvd_pow 2 (by omega)
theorem wsz_eq (k : Nat) : 2 ^ (64 * k) = wsz k := rfl
theorem wsz_le {k m : Nat} (h : k ≤ m) : wsz k ≤ wsz m := Nat.pow_le_pow_right (by omega) (by omega)
theorem wsz1 : wsz 1 = 18446744073709551616 := by decide
theorem wsz2 : wsz 2 = 340282366920938463463374607431768211456 := by decide
theorem eq_of_wsz {a b m : Nat} (ha : a < wsz m) (hb : b < wsz m) (h : ∀ k, k < m → wd a k = wd b k) : a = b := eq_of_words ha hb h
def W512 : Nat := wsz 8
theorem W512_pos : 0 < W512 := wsz_pos 8
/-- What is carried behind k words. -/
def car (x y k : Nat) : Nat := (x % 2 ^ (64 * k) + y % 2 ^ (64 * k)) / 2 ^ (64 * k)
theorem car_zero (x y : Nat) : car x y 0 = 0 := by simp [car, Nat.mod_one]
theorem car_le (x y k : Nat) : car x y k ≤ 1 := by
  unfold car
  have h1 := Nat.mod_lt x (show 0 < 2 ^ (64 * k) from Nat.pow_pos (by omega))
  have h2 := Nat.mod_lt y (show 0 < 2 ^ (64 * k) from Nat.pow_pos (by omega))
  have : (x % 2 ^ (64 * k) + y % 2 ^ (64 * k)) / 2 ^ (64 * k) < 2 := Nat.div_lt_of_lt_mul (by omega)
  omega
theorem pow_succ_word (k : Nat) : 2 ^ (64 * (k + 1)) = 2 ^ (64 * k) * 18446744073709551616 := by
  rw [show 64 * (k + 1) = 64 * k + 64 by omega, Nat.pow_add]
theorem car_succ (x y k : Nat) : car x y (k + 1) = (wd x k + wd y k + car x y k) / 18446744073709551616 ∧ (wd x k + wd y k + car x y k) % 18446744073709551616 = wd (x + y) k := by
  have hp : 0 < 2 ^ (64 * k) := Nat.pow_pos (by omega)
  have e1 := mod_succ_word x k
  have e2 := mod_succ_word y k
  have hx := Nat.div_add_mod x (2 ^ (64 * k))
  have hy := Nat.div_add_mod y (2 ^ (64 * k))
  constructor
  · unfold car
    rw [e1, e2, pow_succ_word, ← Nat.div_div_eq_div_mul]
    congr 1
    rw [show x % 2 ^ (64 * k) + 2 ^ (64 * k) * wd x k + (y % 2 ^ (64 * k) + 2 ^ (64 * k) * wd y k) = (x % 2 ^ (64 * k) + y % 2 ^ (64 * k)) + 2 ^ (64 * k) * (wd x k + wd y k) by rw [Nat.mul_add]; omega, Nat.add_mul_div_left _ _ hp]
    omega
  · unfold car wd
    have e3 : (x + y) / 2 ^ (64 * k) = x / 2 ^ (64 * k) + y / 2 ^ (64 * k) + (x % 2 ^ (64 * k) + y % 2 ^ (64 * k)) / 2 ^ (64 * k) := by
      conv => lhs; rw [← hx, ← hy]
      rw [show 2 ^ (64 * k) * (x / 2 ^ (64 * k)) + x % 2 ^ (64 * k) + (2 ^ (64 * k) * (y / 2 ^ (64 * k)) + y % 2 ^ (64 * k)) = (x % 2 ^ (64 * k) + y % 2 ^ (64 * k)) + 2 ^ (64 * k) * (x / 2 ^ (64 * k) + y / 2 ^ (64 * k)) by rw [Nat.mul_add]; omega, Nat.add_mul_div_left _ _ hp]
      omega
    rw [e3]
    generalize x / 2 ^ (64 * k) = p
    generalize y / 2 ^ (64 * k) = q
    generalize (x % 2 ^ (64 * k) + y % 2 ^ (64 * k)) / 2 ^ (64 * k) = r
    omega
theorem car_end_ {x y : Nat} (m : Nat) (hx : x < wsz m) (hy : y < wsz m) : car x y m = 0 ↔ x + y < wsz m := by
  unfold car
  unfold wsz at *
  rw [Nat.mod_eq_of_lt hx, Nat.mod_eq_of_lt hy]
  exact Nat.div_eq_zero_iff_lt (Nat.two_pow_pos _)
theorem car_end {x y : Nat} (hx : x < W512) (hy : y < W512) : car x y 8 = 0 ↔ x + y < W512 := car_end_ 8 hx hy

/-- What is borrowed behind k words. -/
def brw (x y k : Nat) : Nat := if x % 2 ^ (64 * k) < y % 2 ^ (64 * k) then 1 else 0
theorem brw_zero (x y : Nat) : brw x y 0 = 0 := by simp [brw, Nat.mod_one]
theorem brw_le (x y k : Nat) : brw x y k ≤ 1 := by unfold brw; split <;> omega
theorem brw_end_ {x y : Nat} (m : Nat) (hx : x < wsz m) (hy : y < wsz m) : brw x y m = 0 ↔ y ≤ x := by
  unfold brw
  unfold wsz at *
  rw [Nat.mod_eq_of_lt hx, Nat.mod_eq_of_lt hy]
  split <;> omega
theorem brw_end {x y : Nat} (hx : x < W512) (hy : y < W512) : brw x y 8 = 0 ↔ y ≤ x := brw_end_ 8 hx hy
/-- The difference, modulo 2^512. -/
def dif (x y : Nat) : Nat := (x + (W512 - y)) % W512
theorem dif_lt (x y : Nat) : dif x y < W512 := Nat.mod_lt _ W512_pos
theorem dif_of_le {x y : Nat} (hx : x < W512) (h : y ≤ x) : dif x y = x - y := by
  unfold dif
  have hp := W512_pos
  rw [show x + (W512 - y) = (x - y) + W512 by omega, Nat.add_mod_right, Nat.mod_eq_of_lt (by omega)]
theorem dif_add (x y : Nat) (hx : x < W512) (hy : y < W512) : dif ((x + y) % W512) y = x := by
  unfold dif
  rcases Nat.lt_or_ge (x + y) W512 with h | h
  · rw [Nat.mod_eq_of_lt h, show x + y + (W512 - y) = x + W512 by omega, Nat.add_mod_right, Nat.mod_eq_of_lt hx]
  · rw [Nat.mod_eq_sub_mod h, Nat.mod_eq_of_lt (show x + y - W512 < W512 by omega), show x + y - W512 + (W512 - y) = x by omega, Nat.mod_eq_of_lt hx]
theorem dif_mod (x y k : Nat) (hk : k ≤ 8) (hy : y < W512) : (dif x y % 2 ^ (64 * k) + y % 2 ^ (64 * k)) % 2 ^ (64 * k) = x % 2 ^ (64 * k) := by
  have hd : 2 ^ (64 * k) ∣ W512 := wsz_dvd (m := 8) hk
  rw [← Nat.add_mod]
  unfold dif
  rw [Nat.add_mod, Nat.mod_mod_of_dvd _ hd, ← Nat.add_mod, show x + (W512 - y) + y = x + W512 by omega, Nat.add_mod, Nat.mod_eq_zero_of_dvd hd, Nat.add_zero, Nat.mod_mod]

theorem dif_car (x y k : Nat) (hk : k ≤ 8) (hy : y < W512) : dif x y % 2 ^ (64 * k) + y % 2 ^ (64 * k) = x % 2 ^ (64 * k) + 2 ^ (64 * k) * brw x y k := by
  have hp : 0 < 2 ^ (64 * k) := Nat.pow_pos (by omega)
  have h := dif_mod x y k hk hy
  have h1 := Nat.mod_lt (dif x y) hp
  have h2 := Nat.mod_lt y hp
  unfold brw
  generalize dif x y % 2 ^ (64 * k) = d at *
  generalize y % 2 ^ (64 * k) = b at *
  generalize x % 2 ^ (64 * k) = a at *
  generalize 2 ^ (64 * k) = B at *
  rcases Nat.lt_or_ge (d + b) B with h3 | h3
  · rw [Nat.mod_eq_of_lt h3] at h
    rw [if_neg (by omega)]
    omega
  · rw [Nat.mod_eq_sub_mod h3, Nat.mod_eq_of_lt (by omega)] at h
    rw [if_pos (by omega)]
    omega
theorem brw_succ (x y k : Nat) (hk : k < 8) (hy : y < W512) : brw x y k + wd (dif x y) k + wd y k = wd x k + 18446744073709551616 * brw x y (k + 1) := by
  have hp : 0 < 2 ^ (64 * k) := Nat.pow_pos (by omega)
  have h0 := dif_car x y k (by omega) hy
  have h1 := dif_car x y (k + 1) (by omega) hy
  rw [mod_succ_word, mod_succ_word y, mod_succ_word x, pow_succ_word] at h1
  refine Nat.eq_of_mul_eq_mul_left hp ?_
  rw [Nat.mul_add, Nat.mul_add, Nat.mul_add, ← Nat.mul_assoc]
  omega

/-- How numbers compare, from the highest word down. -/
theorem cmp_words {x y : Nat} (k : Nat) (htop : x / 2 ^ (64 * (k + 1)) = y / 2 ^ (64 * (k + 1))) (h : wd x k < wd y k) : x < y := by
  have hp : 0 < 2 ^ (64 * k) := Nat.pow_pos (by omega)
  have e : ∀ n : Nat, n = n % 2 ^ (64 * k) + 2 ^ (64 * k) * (wd n k + 18446744073709551616 * (n / 2 ^ (64 * (k + 1)))) := fun n => by
    have h1 := Nat.div_add_mod n (2 ^ (64 * (k + 1)))
    rw [mod_succ_word, pow_succ_word, Nat.mul_assoc] at h1
    rw [pow_succ_word, Nat.mul_add]
    omega
  have ex := e x
  have ey := e y
  rw [htop] at ex
  have h3 := Nat.mod_lt x hp
  have h4 : 2 ^ (64 * k) * (wd x k + 18446744073709551616 * (y / 2 ^ (64 * (k + 1)))) + 2 ^ (64 * k) ≤ 2 ^ (64 * k) * (wd y k + 18446744073709551616 * (y / 2 ^ (64 * (k + 1)))) := by
    rw [← Nat.mul_succ]
    exact Nat.mul_le_mul_left _ (by omega)
  omega
theorem top_step {x y : Nat} (k : Nat) (htop : x / 2 ^ (64 * (k + 1)) = y / 2 ^ (64 * (k + 1))) (h : wd x k = wd y k) : x / 2 ^ (64 * k) = y / 2 ^ (64 * k) := by
  unfold wd at h
  rw [pow_succ_word, ← Nat.div_div_eq_div_mul, ← Nat.div_div_eq_div_mul] at htop
  generalize x / 2 ^ (64 * k) = a at *
  generalize y / 2 ^ (64 * k) = b at *
  omega
end Go.Proofs.YtmoppmfbfpjdnaaGreat
namespace Go.Proofs.YtmoppmfbfpjdnaaGreat

/-- The digit that is sought. -/
def digQ (u x y : Nat) : Nat := (u * 4294967296 + x) / y
theorem digQ_lt {u x y : Nat} (hu : u < y) (hx : x < 4294967296) : digQ u x y < 4294967296 := by
  refine (Nat.div_lt_iff_lt_mul (by omega)).2 ?_
  have : (u + 1) * 4294967296 ≤ y * 4294967296 := Nat.mul_le_mul_right _ hu
  rw [Nat.mul_comm 4294967296 y]
  omega
theorem dig_split (q y : Nat) : q * y = q * (y / 4294967296) * 4294967296 + q * (y % 4294967296) := by
  conv => lhs; rw [← Nat.div_add_mod y 4294967296]
  rw [Nat.mul_add, Nat.mul_left_comm, Nat.mul_comm 4294967296]
/-- What the search holds to. -/
structure Seek (u x y q r : Nat) : Prop where
  sum : q * (y / 4294967296) + r = u
  ge : digQ u x y ≤ q
  le : q ≤ 4294967297
theorem seek_lt {u x y q r : Nat} (hy : 0 < y) (h : q * (y / 4294967296) + r = u) : digQ u x y < q ↔ r * 4294967296 + x < q * (y % 4294967296) := by
  unfold digQ
  rw [Nat.div_lt_iff_lt_mul hy, dig_split q y, ← h, Nat.add_mul]
  omega
theorem seek_start {u x y : Nat} (hu : u < y) (hx : x < 4294967296) (hy : 9223372036854775808 ≤ y) (hy2 : y < 18446744073709551616) :
    Seek u x y (u / (y / 4294967296)) (u % (y / 4294967296)) ∧ u % (y / 4294967296) < 4294967296 := by
  have h1 : 2147483648 ≤ y / 4294967296 := by omega
  have h2 := Nat.div_add_mod u (y / 4294967296)
  have h3 := Nat.mod_lt u (show 0 < y / 4294967296 by omega)
  have h4 : u / (y / 4294967296) * (y / 4294967296) + u % (y / 4294967296) = u := by rw [Nat.mul_comm]; exact h2
  refine ⟨⟨h4, ?_, ?_⟩, by omega⟩
  · refine (Nat.le_div_iff_mul_le (by omega)).2 ?_
    have h5 : digQ u x y * y ≤ u * 4294967296 + x := Nat.div_mul_le_self _ _
    rw [dig_split] at h5
    omega
  · have h5 : u / (y / 4294967296) < 4294967298 := by
      refine (Nat.div_lt_iff_lt_mul (by omega)).2 ?_
      have h6 := Nat.div_add_mod y 4294967296
      omega
    omega
theorem seek_down {u x y q r : Nat} (hu : u < y) (hx : x < 4294967296) (h : Seek u x y q r) (hc : 4294967296 ≤ q ∨ r * 4294967296 + x < q * (y % 4294967296)) :
    0 < q ∧ Seek u x y (q - 1) (r + y / 4294967296) := by
  have h1 := digQ_lt hu hx
  have h2 : digQ u x y < q := by
    rcases hc with h3 | h3
    · omega
    · exact (seek_lt (by omega) h.sum).2 h3
  obtain ⟨p, rfl⟩ : ∃ p, q = p + 1 := ⟨q - 1, by omega⟩
  refine ⟨by omega, ?_, by omega, by have := h.le; omega⟩
  have := h.sum
  rw [Nat.add_mul, Nat.one_mul] at this
  rw [Nat.add_sub_cancel]
  omega
theorem seek_end {u x y q r : Nat} (hu : u < y) (h : Seek u x y q r) (hc : ¬ r * 4294967296 + x < q * (y % 4294967296)) : q = digQ u x y := by
  have h1 := h.ge
  have h2 : ¬ digQ u x y < q := fun h3 => hc ((seek_lt (by omega) h.sum).1 h3)
  omega
theorem seek_break {u x y q r : Nat} (hu : u < y) (h : Seek u x y q r) (hq : q ≤ 4294967296) (hr : 4294967296 ≤ r) : q = digQ u x y := by
  refine seek_end hu h fun h1 => ?_
  have h2 := Nat.mul_le_mul hq (Nat.le_of_lt (Nat.mod_lt y (show 0 < 4294967296 by decide)))
  omega
theorem digQ_rest {u x y : Nat} (hy : 0 < y) : u * 4294967296 + x = digQ u x y * y + (u * 4294967296 + x) % y ∧ (u * 4294967296 + x) % y < y := by
  refine ⟨?_, Nat.mod_lt _ hy⟩
  have := Nat.div_add_mod (u * 4294967296 + x) y
  rw [Nat.mul_comm] at this
  exact this.symm
theorem two_aux {q0 q1 r1 r2 Y B x0 x1 u U : Nat} (h1 : u * B + x1 = q1 * Y + r1) (h3 : r1 * B + x0 = q0 * Y + r2) (hU : U = (u * B + x1) * B + x0) : r2 + Y * (q1 * B + q0) = U := by
  rw [hU, h1, Nat.add_mul, Nat.add_assoc, h3, Nat.mul_add, Nat.mul_comm q0 Y, Nat.mul_comm q1 Y, Nat.mul_assoc]
  omega
/-- Two digits are the quotient. -/
theorem two_digits {U Y u1 x1 x0 : Nat} (hY : 0 < Y) (hU : U = (u1 * 4294967296 + x1) * 4294967296 + x0) :
    digQ u1 x1 Y * 4294967296 + digQ ((u1 * 4294967296 + x1) % Y) x0 Y = U / Y ∧ ((u1 * 4294967296 + x1) % Y * 4294967296 + x0) % Y = U % Y := by
  obtain ⟨h1, h2⟩ := digQ_rest (u := u1) (x := x1) hY
  obtain ⟨h3, h4⟩ := digQ_rest (u := (u1 * 4294967296 + x1) % Y) (x := x0) hY
  have h5 : ((u1 * 4294967296 + x1) % Y * 4294967296 + x0) % Y + Y * (digQ u1 x1 Y * 4294967296 + digQ ((u1 * 4294967296 + x1) % Y) x0 Y) = U := two_aux h1 h3 hU
  have h6 := (Nat.div_mod_unique hY).2 ⟨h5, h4⟩
  exact ⟨h6.1.symm, h6.2.symm⟩
theorem scaled {N y s : Nat} : N * 2 ^ s / (y * 2 ^ s) = N / y ∧ N * 2 ^ s % (y * 2 ^ s) / 2 ^ s = N % y := by
  have hp := Nat.two_pow_pos s
  exact ⟨Nat.mul_div_mul_right _ _ hp, by rw [Nat.mul_mod_mul_right, Nat.mul_div_cancel _ hp]⟩
end Go.Proofs.YtmoppmfbfpjdnaaGreat
namespace Go.Proofs.YtmoppmfbfpjdnaaGreat

/-! ### dividing by a word, from the top -/
theorem step_div {A w y M : Nat} (hy : 0 < y) : (A * M + w) / y = A / y * M + (A % y * M + w) / y ∧ (A * M + w) % y = (A % y * M + w) % y := by
  have h : A * M + w = (A % y * M + w) + y * (A / y * M) := by
    conv => lhs; rw [← Nat.div_add_mod A y, Nat.add_mul]
    rw [Nat.mul_assoc]
    omega
  refine ⟨?_, ?_⟩
  · rw [h, Nat.add_mul_div_left _ _ hy, Nat.add_comm]
  · rw [h, Nat.add_mul_mod_self_left]
/-! ### powers of two in a number -/
def IsTz (a n : Nat) : Prop := a % 2 ^ n = 0 ∧ a / 2 ^ n % 2 = 1
theorem tz_lt {a n m : Nat} (h1 : IsTz a n) (h2 : a % 2 ^ m = 0) : m ≤ n := by
  rcases Nat.lt_or_ge n m with h | h
  · exfalso
    obtain ⟨d, rfl⟩ : ∃ d, m = n + 1 + d := ⟨m - n - 1, by omega⟩
    have h3 : a % 2 ^ (n + 1) = 0 := by
      have := congrArg (· % 2 ^ (n + 1)) h2
      simp only [Nat.zero_mod] at this
      rwa [Nat.mod_mod_of_dvd _ ⟨2 ^ d, by rw [Nat.pow_add]⟩] at this
    rw [Nat.pow_succ, Nat.mod_mul, h1.1, h1.2, Nat.zero_add, Nat.mul_one] at h3
    have := Nat.two_pow_pos n
    omega
  · exact h
theorem tz_uniq {a n m : Nat} (h1 : IsTz a n) (h2 : IsTz a m) : n = m := Nat.le_antisymm (tz_lt h2 h1.1) (tz_lt h1 h2.1)
open Classical in
/-- How many noughts a number ends with. -/
noncomputable def tz (a : Nat) : Nat := if h : ∃ n, IsTz a n then Classical.choose h else 0
theorem tz_is {a n : Nat} (h : IsTz a n) : tz a = n := by
  unfold tz
  rw [dif_pos ⟨n, h⟩]
  exact tz_uniq (Classical.choose_spec (⟨n, h⟩ : ∃ n, IsTz a n)) h
theorem tz_step {a n : Nat} (h : a % 2 ^ n = 0) (hb : ¬ a / 2 ^ n % 2 = 1) : a % 2 ^ (n + 1) = 0 := by
  rw [Nat.pow_succ, Nat.mod_mul, h, show a / 2 ^ n % 2 = 0 by omega]
  rfl
theorem tz_ex {a : Nat} (h : a ≠ 0) : IsTz a (tz a) := by
  have key : ∀ k n, a % 2 ^ n = 0 → a < 2 ^ (n + k) → ∃ n, IsTz a n := by
    intro k
    induction k with
    | zero =>
      intro n h1 h2
      rw [Nat.add_zero] at h2
      rw [Nat.mod_eq_of_lt h2] at h1
      exact absurd h1 h
    | succ k ih =>
      intro n h1 h2
      by_cases hb : a / 2 ^ n % 2 = 1
      · exact ⟨n, h1, hb⟩
      · exact ih (n + 1) (tz_step h1 hb) (by rw [show n + 1 + k = n + (k + 1) by omega]; exact h2)
  obtain ⟨n, hn⟩ := key a 0 (by simp [Nat.mod_one]) (by rw [Nat.zero_add]; exact Nat.lt_two_pow_self)
  rw [tz_is hn]
  exact hn
theorem tz_mul {a : Nat} (h : a ≠ 0) : a / 2 ^ tz a * 2 ^ tz a = a := by
  have := Nat.div_add_mod a (2 ^ tz a)
  rw [(tz_ex h).1, Nat.add_zero, Nat.mul_comm] at this
  exact this
theorem odd_gcd (k a b : Nat) (hb : b % 2 = 1) : Nat.gcd (a * 2 ^ k) b = Nat.gcd a b := by
  have h1 : Nat.Coprime (2 ^ k) b := Nat.Coprime.pow_left k (by
    unfold Nat.Coprime
    rw [Nat.gcd_rec, hb]
    simp)
  rw [Nat.mul_comm]
  exact Nat.Coprime.gcd_mul_left_cancel a h1
theorem gcd_twos {a b : Nat} (ha : a ≠ 0) (hb : b ≠ 0) : Nat.gcd a b = Nat.gcd (a / 2 ^ tz a) (b / 2 ^ tz b) * 2 ^ min (tz a) (tz b) := by
  have h1 := tz_mul ha
  have h2 := tz_mul hb
  have o1 := (tz_ex ha).2
  have o2 := (tz_ex hb).2
  generalize a / 2 ^ tz a = x at *
  generalize b / 2 ^ tz b = y at *
  conv => lhs; rw [← h1, ← h2]
  generalize tz a = m
  generalize tz b = n
  rcases Nat.le_total m n with h | h
  · rw [Nat.min_eq_left h]
    obtain ⟨d, rfl⟩ : ∃ d, n = d + m := ⟨n - m, by omega⟩
    rw [Nat.pow_add, ← Nat.mul_assoc, Nat.gcd_mul_right, Nat.gcd_comm, odd_gcd d y x o1, Nat.gcd_comm]
  · rw [Nat.min_eq_right h]
    obtain ⟨d, rfl⟩ : ∃ d, m = d + n := ⟨m - n, by omega⟩
    rw [Nat.pow_add, ← Nat.mul_assoc, Nat.gcd_mul_right, odd_gcd d x y o2]
/-- One round: the difference without its twos. -/
theorem gcd_round {a b : Nat} (hb : b % 2 = 1) (hlt : b < a) : Nat.gcd ((a - b) / 2 ^ tz (a - b)) b = Nat.gcd a b := by
  have h0 : a - b ≠ 0 := by omega
  rw [← odd_gcd (tz (a - b)) _ b hb, tz_mul h0]
  exact Nat.gcd_sub_self_left (by omega)
/-! ### how many rounds rests take -/
def fibP : Nat → Nat × Nat
  | 0 => (0, 1)
  | n + 1 => ((fibP n).2, (fibP n).1 + (fibP n).2)
/-- The numbers behind k rounds by rests. -/
def rnd : Nat → Nat × Nat → Nat × Nat
  | 0, p => p
  | k + 1, p => if p.2 = 0 then p else rnd k (p.2, p.1 % p.2)
theorem rnd_zero (k : Nat) (a : Nat) : rnd k (a, 0) = (a, 0) := by cases k <;> rfl
theorem rnd_gcd (k : Nat) : ∀ p : Nat × Nat, Nat.gcd (rnd k p).1 (rnd k p).2 = Nat.gcd p.1 p.2 := by
  induction k with
  | zero => intro p; rfl
  | succ k ih =>
    intro p
    unfold rnd
    split
    · rfl
    · rw [ih]
      show Nat.gcd p.2 (p.1 % p.2) = _
      rw [Nat.gcd_comm p.1, Nat.gcd_rec p.2 p.1, Nat.gcd_comm]
/-- Where k rounds are not enough, the numbers are great. -/
theorem rnd_fib (k : Nat) : ∀ a b : Nat, b ≤ a → (rnd k (a, b)).2 ≠ 0 → (fibP k).2 ≤ b ∧ (fibP (k + 1)).2 ≤ a := by
  induction k with
  | zero => intro a b hab h; simp only [rnd, fibP] at h ⊢; omega
  | succ k ih =>
    intro a b hab h
    unfold rnd at h
    simp only at h
    split at h
    · rename_i h0; exact absurd h0 h
    · rename_i h0
      have hlt := Nat.mod_lt a (Nat.pos_of_ne_zero h0)
      obtain ⟨h1, h2⟩ := ih b (a % b) (by omega) h
      refine ⟨h2, ?_⟩
      have h3 := Nat.div_add_mod a b
      have h4 : 1 ≤ a / b := Nat.div_pos hab (by omega)
      have h5 : b * 1 ≤ b * (a / b) := Nat.mul_le_mul_left _ h4
      simp only [fibP] at h2 ⊢
      omega
theorem fib_grow (k : Nat) : ∀ n, (fibP n).2 ≤ 2 * (fibP n).1 → 4 ^ k * (fibP n).2 ≤ (fibP (n + 3 * k)).2 ∧ (fibP (n + 3 * k)).2 ≤ 2 * (fibP (n + 3 * k)).1 := by
  induction k with
  | zero => intro n h; simpa using h
  | succ k ih =>
    intro n h
    obtain ⟨h1, h2⟩ := ih n h
    rw [show n + 3 * (k + 1) = n + 3 * k + 1 + 1 + 1 by omega, Nat.pow_succ]
    simp only [fibP]
    generalize (fibP (n + 3 * k)).1 = x at *
    generalize (fibP (n + 3 * k)).2 = y at *
    generalize 4 ^ k = p at *
    have h3 : p * 4 * (fibP n).2 = 4 * (p * (fibP n).2) := by rw [Nat.mul_comm p 4, Nat.mul_assoc]
    rw [h3]
    generalize p * (fibP n).2 = z at *
    omega
theorem fib_big {N : Nat} (hN : N = 512) : 2 ^ N ≤ (fibP 1000).2 ∧ 2 ^ N ≤ (fibP 999).2 := by
  obtain ⟨k, hk⟩ : ∃ k, k = 332 := ⟨332, rfl⟩
  have h1 := (fib_grow (k + 1) 1 (by decide)).1
  have h2 := (fib_grow k 3 (by decide)).1
  rw [show 1 + 3 * (k + 1) = 1000 by omega, show (fibP 1).2 = 1 from rfl] at h1
  rw [show 3 + 3 * k = 999 by omega, show (fibP 3).2 = 3 from rfl] at h2
  have e : ∀ k, 4 ^ k = 2 ^ (2 * k) := fun k => by rw [Nat.pow_mul]
  rw [e] at h1 h2
  have h3 : 2 ^ N ≤ 2 ^ (2 * (k + 1)) := Nat.pow_le_pow_right (by decide) (by omega)
  have h4 : 2 ^ N ≤ 2 ^ (2 * k) := Nat.pow_le_pow_right (by decide) (by omega)
  generalize 2 ^ (2 * (k + 1)) = p at *
  generalize 2 ^ (2 * k) = q at *
  clear e
  generalize (fibP 1000).2 = r at *
  generalize (fibP 999).2 = t at *
  omega
/-- A thousand rounds are enough. -/
theorem rnd_enough {N a b : Nat} (hN : N = 512) (ha : a < 2 ^ N) (hb : b < 2 ^ N) : (rnd 1000 (a, b)).2 = 0 := by
  obtain ⟨f1, f2⟩ := fib_big hN
  rcases Nat.lt_or_ge a b with h | h
  · have e : rnd 1000 (a, b) = rnd 999 (b, a) := by
      show (if b = 0 then (a, b) else rnd 999 (b, a % b)) = _
      rw [if_neg (by omega), Nat.mod_eq_of_lt h]
    rw [e]
    rcases Nat.eq_zero_or_pos (rnd 999 (b, a)).2 with h1 | h1
    · exact h1
    · have := (rnd_fib 999 b a (by omega) (by omega)).1
      omega
  · rcases Nat.eq_zero_or_pos (rnd 1000 (a, b)).2 with h1 | h1
    · exact h1
    · have := (rnd_fib 1000 a b h (by omega)).1
      omega
theorem tz_bound {a n : Nat} (h : IsTz a n) : 2 ^ n ≤ a := by
  have h1 := h.2
  rcases Nat.lt_or_ge a (2 ^ n) with h2 | h2
  · rw [Nat.div_eq_of_lt h2] at h1; cases h1
  · exact h2
/-! ### bit by bit -/
/-- What dividing bit by bit holds to: behind the rounds down to n. -/
structure DivI (a b n q r : Nat) : Prop where
  sum : a = q * b + r
  lt : r < b * 2 ^ n
  mul : q % 2 ^ n = 0
theorem DivI.skip {a b n q r : Nat} (h : DivI a b (n + 1) q r) (hlt : r < b * 2 ^ n) : DivI a b n q r :=
  ⟨h.sum, hlt, by
    have h1 := h.mul
    have := congrArg (· % 2 ^ n) h1
    simp only [Nat.zero_mod] at this
    rwa [Nat.mod_mod_of_dvd _ ⟨2, by rw [Nat.pow_succ]⟩] at this⟩
theorem DivI.take {a b n q r : Nat} (h : DivI a b (n + 1) q r) (hle : b * 2 ^ n ≤ r) : DivI a b n (q + 2 ^ n) (r - b * 2 ^ n) := by
  refine ⟨?_, ?_, ?_⟩
  · rw [Nat.add_mul, Nat.mul_comm (2 ^ n) b]
    have := h.sum
    omega
  · have := h.lt
    rw [Nat.pow_succ, ← Nat.mul_assoc] at this
    omega
  · have h1 := h.mul
    have := congrArg (· % 2 ^ n) h1
    simp only [Nat.zero_mod] at this
    rw [Nat.mod_mod_of_dvd _ ⟨2, by rw [Nat.pow_succ]⟩] at this
    rw [Nat.add_mod_right]
    exact this
theorem DivI.done {a b q r : Nat} (h : DivI a b 0 q r) : q = a / b ∧ r = a % b := by
  have h1 := h.lt
  rw [Nat.pow_zero, Nat.mul_one] at h1
  have h6 := (Nat.div_mod_unique (show 0 < b by omega)).2 ⟨show r + b * q = a by rw [Nat.mul_comm]; have := h.sum; omega, h1⟩
  exact ⟨h6.1.symm, h6.2.symm⟩
theorem DivI.start {a b n : Nat} (h : a < b * 2 ^ n) : DivI a b n 0 a := ⟨by omega, h, by simp⟩
/-! ### roots -/
structure RootI (a n r : Nat) : Prop where
  le : r * r ≤ a
  lt : a < (r + 2 ^ n) * (r + 2 ^ n)
theorem RootI.take {a n r : Nat} (h : RootI a (n + 1) r) (hle : (r + 2 ^ n) * (r + 2 ^ n) ≤ a) : RootI a n (r + 2 ^ n) := by
  refine ⟨hle, ?_⟩
  have h1 := h.lt
  rw [Nat.pow_succ] at h1
  rwa [show r + 2 ^ n + 2 ^ n = r + 2 ^ n * 2 by omega]
theorem RootI.skip {a n r : Nat} (h : RootI a (n + 1) r) (hlt : a < (r + 2 ^ n) * (r + 2 ^ n)) : RootI a n r := ⟨h.le, hlt⟩
end Go.Proofs.YtmoppmfbfpjdnaaGreat
