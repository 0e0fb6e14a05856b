/- Plain laws on numbers in digits of 16 bits (lists, lowest first) and in words of 64 bits. No program is in sight here. -/
import Derived.Below
namespace Go.Proofs.Ytalaffabcnccgaa

/-- The number of digits. -/
def dval : List Nat → Nat
  | [] => 0
  | d :: ds => d + 65536 * dval ds

/-- Each digit is below 65536. -/
def Dig (l : List Nat) : Prop := ∀ d ∈ l, d < 65536

theorem Dig.nil : Dig [] := fun _ h => by cases h
theorem Dig.cons {d : Nat} {l : List Nat} (h : d < 65536) (hl : Dig l) : Dig (d :: l) := fun x hx => by
  rcases List.mem_cons.1 hx with rfl | hx
  · exact h
  · exact hl x hx
theorem Dig.append {a b : List Nat} (ha : Dig a) (hb : Dig b) : Dig (a ++ b) := fun x hx => by
  rcases List.mem_append.1 hx with h | h
  · exact ha x h
  · exact hb x h
theorem Dig.take {l : List Nat} (h : Dig l) (k : Nat) : Dig (l.take k) := fun x hx => h x (List.mem_of_mem_take hx)
theorem Dig.drop {l : List Nat} (h : Dig l) (k : Nat) : Dig (l.drop k) := fun x hx => h x (List.mem_of_mem_drop hx)
theorem Dig.getD {l : List Nat} (h : Dig l) (k : Nat) : l.getD k 0 < 65536 := by
  rcases Nat.lt_or_ge k l.length with hk | hk
  · rw [List.getD_eq_getElem?_getD, List.getElem?_eq_getElem hk]
    exact h _ (List.getElem_mem hk)
  · rw [List.getD_eq_getElem?_getD, List.getElem?_eq_none hk]
    simp
theorem Dig.set {l : List Nat} (h : Dig l) (k d : Nat) (hd : d < 65536) : Dig (l.set k d) := fun x hx => by
  rcases List.mem_or_eq_of_mem_set hx with hx | rfl
  · exact h x hx
  · exact hd
theorem Dig.replicate (n : Nat) : Dig (List.replicate n 0) := fun x hx => by
  have := List.eq_of_mem_replicate hx
  omega

theorem dval_append (a b : List Nat) : dval (a ++ b) = dval a + 65536 ^ a.length * dval b := by
  induction a with
  | nil => simp [dval]
  | cons d a ih =>
    simp only [List.cons_append, dval, ih, List.length_cons, Nat.pow_succ]
    grind
theorem dval_lt {l : List Nat} (h : Dig l) : dval l < 65536 ^ l.length := by
  induction l with
  | nil => simp [dval]
  | cons d l ih =>
    have h1 := ih fun x hx => h x (List.mem_cons_of_mem _ hx)
    have h2 := h d List.mem_cons_self
    simp only [dval, List.length_cons, Nat.pow_succ]
    omega
theorem dval_split (l : List Nat) (k : Nat) : dval l = dval (l.take k) + 65536 ^ k * dval (l.drop k) := by
  rcases Nat.lt_or_ge k l.length with hk | hk
  · have := dval_append (l.take k) (l.drop k)
    rw [List.take_append_drop, List.length_take, Nat.min_eq_left (Nat.le_of_lt hk)] at this
    exact this
  · rw [List.take_of_length_le hk, List.drop_eq_nil_of_le hk]
    simp [dval]
theorem dval_take_succ (l : List Nat) (k : Nat) : dval (l.take (k + 1)) = dval (l.take k) + 65536 ^ k * l.getD k 0 := by
  rcases Nat.lt_or_ge k l.length with hk | hk
  · rw [List.take_succ_eq_append_getElem hk, dval_append, List.length_take, Nat.min_eq_left (Nat.le_of_lt hk), List.getD_eq_getElem?_getD, List.getElem?_eq_getElem hk]
    simp [dval]
  · rw [List.take_of_length_le hk, List.take_of_length_le (by omega), List.getD_eq_getElem?_getD, List.getElem?_eq_none hk]
    simp
theorem dval_drop_succ (l : List Nat) (k : Nat) : dval (l.drop k) = l.getD k 0 + 65536 * dval (l.drop (k + 1)) := by
  rcases Nat.lt_or_ge k l.length with hk | hk
  · rw [List.drop_eq_getElem_cons hk, List.getD_eq_getElem?_getD, List.getElem?_eq_getElem hk]
    simp [dval]
  · rw [List.drop_eq_nil_of_le hk, List.drop_eq_nil_of_le (by omega), List.getD_eq_getElem?_getD, List.getElem?_eq_none hk]
    simp [dval]
theorem dval_take_lt {l : List Nat} (h : Dig l) (k : Nat) : dval (l.take k) < 65536 ^ k := by
  have h1 := dval_lt (h.take k)
  have h2 : 65536 ^ (l.take k).length ≤ 65536 ^ k := Nat.pow_le_pow_right (by omega) (by rw [List.length_take]; omega)
  omega
theorem dval_replicate (n : Nat) : dval (List.replicate n 0) = 0 := by
  induction n with
  | zero => rfl
  | succ n ih => rw [List.replicate_succ]; simp [dval, ih]
theorem dval_set (l : List Nat) (k d : Nat) (hk : k < l.length) : dval (l.set k d) + 65536 ^ k * l.getD k 0 = dval l + 65536 ^ k * d := by
  induction l generalizing k with
  | nil => simp at hk
  | cons x l ih =>
    cases k with
    | zero => simp [dval]; omega
    | succ k =>
      have := ih k (by simpa using hk)
      simp only [List.set_cons_succ, dval, Nat.pow_succ, List.getD_cons_succ]
      grind
/-- The digit at a place, of the number. -/
theorem dval_digit {l : List Nat} (h : Dig l) (k : Nat) : dval l / 65536 ^ k % 65536 = l.getD k 0 := by
  rw [dval_split l k, Nat.add_mul_div_left _ _ (Nat.pow_pos (by omega)), Nat.div_eq_of_lt (dval_take_lt h k), Nat.zero_add, dval_drop_succ]
  have := h.getD k
  omega
theorem dval_shift {l : List Nat} (h : Dig l) (k : Nat) : dval l / 65536 ^ k = dval (l.drop k) := by
  rw [dval_split l k, Nat.add_mul_div_left _ _ (Nat.pow_pos (by omega)), Nat.div_eq_of_lt (dval_take_lt h k), Nat.zero_add]

/-- Four digits are a word. -/
theorem dval_word {l : List Nat} (h : Dig l) (k : Nat) :
    dval l / 65536 ^ k % 18446744073709551616 = l.getD k 0 + 65536 * (l.getD (k + 1) 0 + 65536 * (l.getD (k + 2) 0 + 65536 * l.getD (k + 3) 0)) := by
  rw [dval_shift h, dval_drop_succ, dval_drop_succ l (k + 1), dval_drop_succ l (k + 2), dval_drop_succ l (k + 3)]
  have := h.getD k
  have := h.getD (k + 1)
  have := h.getD (k + 2)
  have := h.getD (k + 3)
  omega

/-- A word's four digits. -/
def dig4 (a : Nat) : List Nat := [a % 65536, a / 65536 % 65536, a / 4294967296 % 65536, a / 281474976710656]
theorem dig4_dig {a : Nat} (h : a < 18446744073709551616) : Dig (dig4 a) := by
  intro d hd
  simp only [dig4, List.mem_cons, List.not_mem_nil, or_false] at hd
  omega
theorem dig4_val (a : Nat) : dval (dig4 a) = a := by
  simp only [dig4, dval]
  omega

/-! ### comparing -/
theorem dval_lt_of_top {a b : List Nat} (ha : Dig a) (_hb : Dig b) (i : Nat) (htop : dval (a.drop (i + 1)) = dval (b.drop (i + 1))) (hlt : a.getD i 0 < b.getD i 0) : dval a < dval b := by
  have h1 := dval_split a i
  have h2 := dval_split b i
  rw [dval_drop_succ] at h1 h2
  rw [htop] at h1
  have h3 := dval_take_lt ha i
  have h4 : 65536 ^ i * (a.getD i 0 + 65536 * dval (b.drop (i + 1))) + 65536 ^ i ≤ 65536 ^ i * (b.getD i 0 + 65536 * dval (b.drop (i + 1))) := by
    rw [← Nat.mul_succ]
    exact Nat.mul_le_mul_left _ (by omega)
  omega

/-! ### words -/
/-- The word at a place. -/
def wd (n k : Nat) : Nat := n / 2 ^ (64 * k) % 2 ^ 64
theorem wd_lt (n k : Nat) : wd n k < 18446744073709551616 := Nat.mod_lt _ (by decide)
theorem wd_zero (k : Nat) : wd 0 k = 0 := by simp [wd]
theorem mod_succ_word (n k : Nat) : n % 2 ^ (64 * (k + 1)) = n % 2 ^ (64 * k) + 2 ^ (64 * k) * wd n k := by
  rw [show 64 * (k + 1) = 64 * k + 64 by omega, Nat.pow_add, Nat.mod_mul]
  rfl
theorem wd_mod {n k m : Nat} (h : k < m) : wd (n % 2 ^ (64 * m)) k = wd n k := by
  unfold wd
  have e : 2 ^ (64 * m) = 2 ^ (64 * k) * (2 ^ 64 * 2 ^ (64 * (m - k - 1))) := by
    rw [← Nat.pow_add, ← Nat.pow_add]
    congr 1
    omega
  rw [e, Nat.mod_mul_right_div_self, Nat.mod_mul_right_mod]
theorem eq_of_words {a b m : Nat} (ha : a < 2 ^ (64 * m)) (hb : b < 2 ^ (64 * m)) (h : ∀ k, k < m → wd a k = wd b k) : a = b := by
  have key : ∀ k, k ≤ m → a % 2 ^ (64 * k) = b % 2 ^ (64 * k) := by
    intro k
    induction k with
    | zero => intro _; simp [Nat.mod_one]
    | succ k ih =>
      intro hk
      rw [mod_succ_word, mod_succ_word, ih (by omega), h k (by omega)]
  have := key m (Nat.le_refl _)
  rwa [Nat.mod_eq_of_lt ha, Nat.mod_eq_of_lt hb] at this
end Go.Proofs.Ytalaffabcnccgaa
