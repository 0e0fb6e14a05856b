/- Plain laws for package quot: dividing word by word and bit by bit, what divides two numbers, the rounds that rests take, roots. No program is in sight here. -/
import Derived.Below
namespace Go.Proofs.Ytalaffabcnccgaa

/-! ### dividing by a word, from the top -/
theorem step_div {A w y M : Nat} (hy : 0 < y) : (A * M + w) / y = A / y * M + (A % y * M + w) / y ∧ (A * M + w) % y = (A % y * M + w) % y := by
  have h : A * M + w = (A % y * M + w) + y * (A / y * M) := by
    conv => lhs; rw [← Nat.div_add_mod A y, Nat.add_mul]
    rw [Nat.mul_assoc]
    omega
  refine ⟨?_, ?_⟩
  · rw [h, Nat.add_mul_div_left _ _ hy, Nat.add_comm]
  · rw [h, Nat.add_mul_mod_self_left]
/-! ### powers of two in a number -/
def IsTz (a n : Nat) : Prop := a % 2 ^ n = 0 ∧ a / 2 ^ n % 2 = 1
theorem tz_lt {a n m : Nat} (h1 : IsTz a n) (h2 : a % 2 ^ m = 0) : m ≤ n := by
  rcases Nat.lt_or_ge n m with h | h
  · exfalso
    obtain ⟨d, rfl⟩ : ∃ d, m = n + 1 + d := ⟨m - n - 1, by omega⟩
    have h3 : a % 2 ^ (n + 1) = 0 := by
      have := congrArg (· % 2 ^ (n + 1)) h2
      simp only [Nat.zero_mod] at this
      rwa [Nat.mod_mod_of_dvd _ ⟨2 ^ d, by rw [Nat.pow_add]⟩] at this
    rw [Nat.pow_succ, Nat.mod_mul, h1.1, h1.2, Nat.zero_add, Nat.mul_one] at h3
    have := Nat.two_pow_pos n
    omega
  · exact h
theorem tz_uniq {a n m : Nat} (h1 : IsTz a n) (h2 : IsTz a m) : n = m := Nat.le_antisymm (tz_lt h2 h1.1) (tz_lt h1 h2.1)
open Classical in
/-- How many noughts a number ends with. -/
noncomputable def tz (a : Nat) : Nat := if h : ∃ n, IsTz a n then Classical.choose h else 0
theorem tz_is {a n : Nat} (h : IsTz a n) : tz a = n := by
  unfold tz
  rw [dif_pos ⟨n, h⟩]
  exact tz_uniq (Classical.choose_spec (⟨n, h⟩ : ∃ n, IsTz a n)) h
theorem tz_step {a n : Nat} (h : a % 2 ^ n = 0) (hb : ¬ a / 2 ^ n % 2 = 1) : a % 2 ^ (n + 1) = 0 := by
  rw [Nat.pow_succ, Nat.mod_mul, h, show a / 2 ^ n % 2 = 0 by omega]
  rfl
theorem tz_ex {a : Nat} (h : a ≠ 0) : IsTz a (tz a) := by
  have key : ∀ k n, a % 2 ^ n = 0 → a < 2 ^ (n + k) → ∃ n, IsTz a n := by
    intro k
    induction k with
    | zero =>
      intro n h1 h2
      rw [Nat.add_zero] at h2
      rw [Nat.mod_eq_of_lt h2] at h1
      exact absurd h1 h
    | succ k ih =>
      intro n h1 h2
      by_cases hb : a / 2 ^ n % 2 = 1
      · exact ⟨n, h1, hb⟩
      · exact ih (n + 1) (tz_step h1 hb) (by rw [show n + 1 + k = n + (k + 1) by omega]; exact h2)
  obtain ⟨n, hn⟩ := key a 0 (by simp [Nat.mod_one]) (by rw [Nat.zero_add]; exact Nat.lt_two_pow_self)
  rw [tz_is hn]
  exact hn
theorem tz_mul {a : Nat} (h : a ≠ 0) : a / 2 ^ tz a * 2 ^ tz a = a := by
  have := Nat.div_add_mod a (2 ^ tz a)
  rw [(tz_ex h).1, Nat.add_zero, Nat.mul_comm] at this
  exact this
theorem odd_gcd (k a b : Nat) (hb : b % 2 = 1) : Nat.gcd (a * 2 ^ k) b = Nat.gcd a b := by
  have h1 : Nat.Coprime (2 ^ k) b := Nat.Coprime.pow_left k (by
    unfold Nat.Coprime
    rw [Nat.gcd_rec, hb]
    simp)
  rw [Nat.mul_comm]
  exact Nat.Coprime.gcd_mul_left_cancel a h1
theorem gcd_twos {a b : Nat} (ha : a ≠ 0) (hb : b ≠ 0) : Nat.gcd a b = Nat.gcd (a / 2 ^ tz a) (b / 2 ^ tz b) * 2 ^ min (tz a) (tz b) := by
  have h1 := tz_mul ha
  have h2 := tz_mul hb
  have o1 := (tz_ex ha).2
  have o2 := (tz_ex hb).2
  generalize a / 2 ^ tz a = x at *
  generalize b / 2 ^ tz b = y at *
  conv => lhs; rw [← h1, ← h2]
  generalize tz a = m
  generalize tz b = n
  rcases Nat.le_total m n with h | h
  · rw [Nat.min_eq_left h]
    obtain ⟨d, rfl⟩ : ∃ d, n = d + m := ⟨n - m, by omega⟩
    rw [Nat.pow_add, ← Nat.mul_assoc, Nat.gcd_mul_right, Nat.gcd_comm, odd_gcd d y x o1, Nat.gcd_comm]
  · rw [Nat.min_eq_right h]
    obtain ⟨d, rfl⟩ : ∃ d, m = d + n := ⟨m - n, by omega⟩
    rw [Nat.pow_add, ← Nat.mul_assoc, Nat.gcd_mul_right, odd_gcd d x y o2]
/-- One round: the difference without its twos. -/
theorem gcd_round {a b : Nat} (hb : b % 2 = 1) (hlt : b < a) : Nat.gcd ((a - b) / 2 ^ tz (a - b)) b = Nat.gcd a b := by
  have h0 : a - b ≠ 0 := by omega
  rw [← odd_gcd (tz (a - b)) _ b hb, tz_mul h0]
  exact Nat.gcd_sub_self_left (by omega)
/-! ### how many rounds rests take -/
def fibP : Nat → Nat × Nat
  | 0 => (0, 1)
  | n + 1 => ((fibP n).2, (fibP n).1 + (fibP n).2)
/-- The numbers behind k rounds by rests. -/
def rnd : Nat → Nat × Nat → Nat × Nat
  | 0, p => p
  | k + 1, p => if p.2 = 0 then p else rnd k (p.2, p.1 % p.2)
theorem rnd_zero (k : Nat) (a : Nat) : rnd k (a, 0) = (a, 0) := by cases k <;> rfl
theorem rnd_gcd (k : Nat) : ∀ p : Nat × Nat, Nat.gcd (rnd k p).1 (rnd k p).2 = Nat.gcd p.1 p.2 := by
  induction k with
  | zero => intro p; rfl
  | succ k ih =>
    intro p
    unfold rnd
    split
    · rfl
    · rw [ih]
      show Nat.gcd p.2 (p.1 % p.2) = _
      rw [Nat.gcd_comm p.1, Nat.gcd_rec p.2 p.1, Nat.gcd_comm]
/-- Where k rounds are not enough, the numbers are great. -/
theorem rnd_fib (k : Nat) : ∀ a b : Nat, b ≤ a → (rnd k (a, b)).2 ≠ 0 → (fibP k).2 ≤ b ∧ (fibP (k + 1)).2 ≤ a := by
  induction k with
  | zero => intro a b hab h; simp only [rnd, fibP] at h ⊢; omega
  | succ k ih =>
    intro a b hab h
    unfold rnd at h
    simp only at h
    split at h
    · rename_i h0; exact absurd h0 h
    · rename_i h0
      have hlt := Nat.mod_lt a (Nat.pos_of_ne_zero h0)
      obtain ⟨h1, h2⟩ := ih b (a % b) (by omega) h
      refine ⟨h2, ?_⟩
      have h3 := Nat.div_add_mod a b
      have h4 : 1 ≤ a / b := Nat.div_pos hab (by omega)
      have h5 : b * 1 ≤ b * (a / b) := Nat.mul_le_mul_left _ h4
      simp only [fibP] at h2 ⊢
      omega
theorem fib_grow (k : Nat) : ∀ n, (fibP n).2 ≤ 2 * (fibP n).1 → 4 ^ k * (fibP n).2 ≤ (fibP (n + 3 * k)).2 ∧ (fibP (n + 3 * k)).2 ≤ 2 * (fibP (n + 3 * k)).1 := by
  induction k with
  | zero => intro n h; simpa using h
  | succ k ih =>
    intro n h
    obtain ⟨h1, h2⟩ := ih n h
    rw [show n + 3 * (k + 1) = n + 3 * k + 1 + 1 + 1 by omega, Nat.pow_succ]
    simp only [fibP]
    generalize (fibP (n + 3 * k)).1 = x at *
    generalize (fibP (n + 3 * k)).2 = y at *
    generalize 4 ^ k = p at *
    have h3 : p * 4 * (fibP n).2 = 4 * (p * (fibP n).2) := by rw [Nat.mul_comm p 4, Nat.mul_assoc]
    rw [h3]
    generalize p * (fibP n).2 = z at *
    omega
theorem fib_big {N : Nat} (hN : N = 512) : 2 ^ N ≤ (fibP 1000).2 ∧ 2 ^ N ≤ (fibP 999).2 := by
  obtain ⟨k, hk⟩ : ∃ k, k = 332 := ⟨332, rfl⟩
  have h1 := (fib_grow (k + 1) 1 (by decide)).1
  have h2 := (fib_grow k 3 (by decide)).1
  rw [show 1 + 3 * (k + 1) = 1000 by omega, show (fibP 1).2 = 1 from rfl] at h1
  rw [show 3 + 3 * k = 999 by omega, show (fibP 3).2 = 3 from rfl] at h2
  have e : ∀ k, 4 ^ k = 2 ^ (2 * k) := fun k => by rw [Nat.pow_mul]
  rw [e] at h1 h2
  have h3 : 2 ^ N ≤ 2 ^ (2 * (k + 1)) := Nat.pow_le_pow_right (by decide) (by omega)
  have h4 : 2 ^ N ≤ 2 ^ (2 * k) := Nat.pow_le_pow_right (by decide) (by omega)
  generalize 2 ^ (2 * (k + 1)) = p at *
  generalize 2 ^ (2 * k) = q at *
  clear e
  generalize (fibP 1000).2 = r at *
  generalize (fibP 999).2 = t at *
  omega
/-- A thousand rounds are enough. -/
theorem rnd_enough {N a b : Nat} (hN : N = 512) (ha : a < 2 ^ N) (hb : b < 2 ^ N) : (rnd 1000 (a, b)).2 = 0 := by
  obtain ⟨f1, f2⟩ := fib_big hN
  rcases Nat.lt_or_ge a b with h | h
  · have e : rnd 1000 (a, b) = rnd 999 (b, a) := by
      show (if b = 0 then (a, b) else rnd 999 (b, a % b)) = _
      rw [if_neg (by omega), Nat.mod_eq_of_lt h]
    rw [e]
    rcases Nat.eq_zero_or_pos (rnd 999 (b, a)).2 with h1 | h1
    · exact h1
    · have := (rnd_fib 999 b a (by omega) (by omega)).1
      omega
  · rcases Nat.eq_zero_or_pos (rnd 1000 (a, b)).2 with h1 | h1
    · exact h1
    · have := (rnd_fib 1000 a b h (by omega)).1
      omega
theorem tz_bound {a n : Nat} (h : IsTz a n) : 2 ^ n ≤ a := by
  have h1 := h.2
  rcases Nat.lt_or_ge a (2 ^ n) with h2 | h2
  · rw [Nat.div_eq_of_lt h2] at h1; cases h1
  · exact h2
/-! ### bit by bit -/
/-- What dividing bit by bit holds to: behind the rounds down to n. -/
structure DivI (a b n q r : Nat) : Prop where
  sum : a = q * b + r
  lt : r < b * 2 ^ n
  mul : q % 2 ^ n = 0
theorem DivI.skip {a b n q r : Nat} (h : DivI a b (n + 1) q r) (hlt : r < b * 2 ^ n) : DivI a b n q r :=
  ⟨h.sum, hlt, by
    have h1 := h.mul
    have := congrArg (· % 2 ^ n) h1
    simp only [Nat.zero_mod] at this
    rwa [Nat.mod_mod_of_dvd _ ⟨2, by rw [Nat.pow_succ]⟩] at this⟩
theorem DivI.take {a b n q r : Nat} (h : DivI a b (n + 1) q r) (hle : b * 2 ^ n ≤ r) : DivI a b n (q + 2 ^ n) (r - b * 2 ^ n) := by
  refine ⟨?_, ?_, ?_⟩
  · rw [Nat.add_mul, Nat.mul_comm (2 ^ n) b]
    have := h.sum
    omega
  · have := h.lt
    rw [Nat.pow_succ, ← Nat.mul_assoc] at this
    omega
  · have h1 := h.mul
    have := congrArg (· % 2 ^ n) h1
    simp only [Nat.zero_mod] at this
    rw [Nat.mod_mod_of_dvd _ ⟨2, by rw [Nat.pow_succ]⟩] at this
    rw [Nat.add_mod_right]
    exact this
theorem DivI.done {a b q r : Nat} (h : DivI a b 0 q r) : q = a / b ∧ r = a % b := by
  have h1 := h.lt
  rw [Nat.pow_zero, Nat.mul_one] at h1
  have h6 := (Nat.div_mod_unique (show 0 < b by omega)).2 ⟨show r + b * q = a by rw [Nat.mul_comm]; have := h.sum; omega, h1⟩
  exact ⟨h6.1.symm, h6.2.symm⟩
theorem DivI.start {a b n : Nat} (h : a < b * 2 ^ n) : DivI a b n 0 a := ⟨by omega, h, by simp⟩
/-! ### roots -/
structure RootI (a n r : Nat) : Prop where
  le : r * r ≤ a
  lt : a < (r + 2 ^ n) * (r + 2 ^ n)
theorem RootI.take {a n r : Nat} (h : RootI a (n + 1) r) (hle : (r + 2 ^ n) * (r + 2 ^ n) ≤ a) : RootI a n (r + 2 ^ n) := by
  refine ⟨hle, ?_⟩
  have h1 := h.lt
  rw [Nat.pow_succ] at h1
  rwa [show r + 2 ^ n + 2 ^ n = r + 2 ^ n * 2 by omega]
theorem RootI.skip {a n r : Nat} (h : RootI a (n + 1) r) (hlt : a < (r + 2 ^ n) * (r + 2 ^ n)) : RootI a n r := ⟨h.le, hlt⟩
end Go.Proofs.Ytalaffabcnccgaa
