/- How far a point is from a line, in whole numbers; fractions in lowest terms: plain. What far reckons of near spots, as whole numbers; turned about. Plain. -/
import Derived.Test.YtebgjcginmgoaaaGreatRa
import Derived.Test.YtebgjcginmgoaaaGreatFd
namespace Go.Proofs.YtebgjcginmgoaaaGreat
open Go.RowKit
open R (In64 InU64 lo64 nth)

def qAdd (a b : Int × Int) : Int × Int := (a.1 * b.2 + b.1 * a.2, a.2 * b.2)
def qMul (a b : Int × Int) : Int × Int := (a.1 * b.1, a.2 * b.2)
def qSub (a b : Int × Int) : Int × Int := qAdd a (-b.1, b.2)
def qOver (a b : Int × Int) : Int × Int := (a.1 * b.2, a.2 * b.1)
structure Ln where
  ax : Int
  ay : Int
  aw : Int
  bx : Int
  b_y : Int
  bw : Int
  px : Int
  py : Int
namespace Ln
variable (l : Ln)
def Ux : Int := l.px * l.aw - l.ax
def Uy : Int := l.py * l.aw - l.ay
def Tx : Int := l.px * l.bw - l.bx
def Ty : Int := l.py * l.bw - l.b_y
def Vx : Int := l.bx * l.aw - l.ax * l.bw
def Vy : Int := l.b_y * l.aw - l.ay * l.bw
def N : Int := (l.Ux * l.Vx + l.Uy * l.Vy) * l.bw
def D : Int := l.Vx * l.Vx + l.Vy * l.Vy
def X : Int := l.Ux * l.Vy - l.Uy * l.Vx
def EA : Int := l.Ux * l.Ux + l.Uy * l.Uy
def EB : Int := l.Tx * l.Tx + l.Ty * l.Ty
def tQ : Int × Int :=
  qOver (qAdd (qMul (qSub (l.px, 1) (l.ax, l.aw)) (qSub (l.bx, l.bw) (l.ax, l.aw))) (qMul (qSub (l.py, 1) (l.ay, l.aw)) (qSub (l.b_y, l.bw) (l.ay, l.aw))))
    (qAdd (qMul (qSub (l.bx, l.bw) (l.ax, l.aw)) (qSub (l.bx, l.bw) (l.ax, l.aw))) (qMul (qSub (l.b_y, l.bw) (l.ay, l.aw)) (qSub (l.b_y, l.bw) (l.ay, l.aw))))
def partQ : Int × Int := if l.tQ.1 < 0 then (0, 1) else if 1 * l.tQ.2 < l.tQ.1 * 1 then (1, 1) else l.tQ
def offQ (a : Int × Int) (b : Int × Int) (p : Int) (t : Int × Int) : Int × Int := qSub (qAdd a (qMul t (qSub b a))) (p, 1)
def sumQ (x y : Int × Int) : Int × Int := qAdd (qMul x x) (qMul y y)
def sqQ (t : Int × Int) : Int × Int := sumQ (offQ (l.ax, l.aw) (l.bx, l.bw) l.px t) (offQ (l.ay, l.aw) (l.b_y, l.bw) l.py t)
def squareQ : Int × Int := l.sqQ l.partQ
def endQ : Int × Int := sumQ (qSub (l.ax, l.aw) (l.px, 1)) (qSub (l.ay, l.aw) (l.py, 1))
def e1 : Int := l.aw * (l.bw * l.aw)
def e2 : Int := l.bw * l.aw * (l.bw * l.aw)
def K : Int := l.e1 * l.e1 * l.e2
theorem tQ_eq : l.tQ = (l.K * l.N, l.K * l.D) := by
  unfold tQ qOver qAdd qMul qSub qAdd K N D e1 e2 Ux Uy Vx Vy
  simp only [Prod.mk.injEq]
  constructor <;> grind

def F (m n : Int) : Int := (m * l.Vx - n * l.bw * l.Ux) * (m * l.Vx - n * l.bw * l.Ux) + (m * l.Vy - n * l.bw * l.Uy) * (m * l.Vy - n * l.bw * l.Uy)
theorem offQx (m n : Int) : offQ (l.ax, l.aw) (l.bx, l.bw) l.px (m, n) = (l.aw * (m * l.Vx - n * l.bw * l.Ux), n * l.e1) := by
  unfold offQ qMul qSub qAdd e1 Ux Vx
  simp only [Prod.mk.injEq]
  constructor <;> grind
theorem offQy (m n : Int) : offQ (l.ay, l.aw) (l.b_y, l.bw) l.py (m, n) = (l.aw * (m * l.Vy - n * l.bw * l.Uy), n * l.e1) := by
  unfold offQ qMul qSub qAdd e1 Uy Vy
  simp only [Prod.mk.injEq]
  constructor <;> grind
theorem sqQ_same {m n a d : Int} (h : l.aw * l.aw * l.F m n * d = a * (n * l.e1 * (n * l.e1))) : (l.sqQ (m, n)).1 * d = a * (l.sqQ (m, n)).2 := by
  unfold sqQ
  rw [offQx, offQy]
  unfold sumQ qAdd qMul
  dsimp only
  unfold F at h
  grind
theorem F_0 (n : Int) : l.F 0 n = n * n * (l.bw * l.bw) * l.EA := by unfold F EA; grind
theorem F_1 (n : Int) : l.F n n = n * n * (l.aw * l.aw) * l.EB := by unfold F EB Tx Ty Ux Uy Vx Vy; grind
theorem F_t (k : Int) : l.F (k * l.N) (k * l.D) = k * k * (l.bw * l.bw) * l.D * (l.X * l.X) := by unfold F N D X; grind
variable (ha : 0 < l.aw) (hb : 0 < l.bw)
include ha hb
theorem e1_pos : 0 < l.e1 := Int.mul_pos ha (Int.mul_pos hb ha)
theorem e2_pos : 0 < l.e2 := Int.mul_pos (Int.mul_pos hb ha) (Int.mul_pos hb ha)
theorem K_pos : 0 < l.K := Int.mul_pos (Int.mul_pos (l.e1_pos ha hb) (l.e1_pos ha hb)) (l.e2_pos ha hb)
variable (hD : 0 < l.D)
include hD
theorem part_lo (h : l.N ≤ 0) : l.partQ.1 = 0 ∧ 0 < l.partQ.2 := by
  have hK := l.K_pos ha hb
  unfold partQ
  rw [tQ_eq]
  dsimp only
  have h1 := Int.mul_pos hK hD
  have h2 : l.K * l.N ≤ 0 := Int.mul_nonpos_of_nonneg_of_nonpos (by omega) h
  split
  · exact ⟨rfl, by decide⟩
  · rw [if_neg (by omega)]
    exact ⟨by dsimp only; omega, h1⟩
theorem part_hi (h : l.D ≤ l.N) : l.partQ.1 = l.partQ.2 ∧ 0 < l.partQ.2 := by
  have hK := l.K_pos ha hb
  unfold partQ
  rw [tQ_eq]
  dsimp only
  have h1 := Int.mul_pos hK hD
  have h2 : l.K * l.D ≤ l.K * l.N := Int.mul_le_mul_of_nonneg_left h (by omega)
  rw [if_neg (by omega)]
  split
  · exact ⟨rfl, by decide⟩
  · exact ⟨by dsimp only; omega, h1⟩
theorem part_in (h0 : 0 < l.N) (h : l.N < l.D) : l.partQ = (l.K * l.N, l.K * l.D) ∧ 0 < l.K * l.D := by
  have hK := l.K_pos ha hb
  unfold partQ
  rw [tQ_eq]
  dsimp only
  have h1 := Int.mul_pos hK hD
  have h2 : l.K * l.N < l.K * l.D := Int.mul_lt_mul_of_pos_left h hK
  have h3 := Int.mul_pos hK h0
  rw [if_neg (by omega), if_neg (by omega)]
  exact ⟨rfl, h1⟩
theorem sq_lo (h : l.N ≤ 0) : l.squareQ.1 * (l.aw * l.aw) = l.EA * l.squareQ.2 := by
  obtain ⟨h1, h2⟩ := l.part_lo ha hb hD h
  unfold squareQ
  generalize l.partQ = t at h1 h2 ⊢
  obtain ⟨m, n⟩ := t
  dsimp only at h1 h2 ⊢
  subst h1
  refine l.sqQ_same ?_
  rw [F_0]
  unfold e1
  grind
theorem sq_hi (h : l.D ≤ l.N) : l.squareQ.1 * (l.bw * l.bw) = l.EB * l.squareQ.2 := by
  obtain ⟨h1, h2⟩ := l.part_hi ha hb hD h
  unfold squareQ
  generalize l.partQ = t at h1 h2 ⊢
  obtain ⟨m, n⟩ := t
  dsimp only at h1 h2 ⊢
  subst h1
  refine l.sqQ_same ?_
  rw [F_1]
  unfold e1
  grind
theorem sq_in (h0 : 0 < l.N) (h : l.N < l.D) : l.squareQ.1 * (l.aw * l.aw * l.D) = l.X * l.X * l.squareQ.2 := by
  obtain ⟨h1, h2⟩ := l.part_in ha hb hD h0 h
  unfold squareQ
  rw [h1]
  refine l.sqQ_same ?_
  rw [F_t]
  unfold e1
  grind
theorem sq_den : 0 < l.squareQ.2 := by
  have hp : 0 < l.partQ.2 := by
    rcases Int.lt_or_le 0 l.N with h0 | h0
    · rcases Int.lt_or_le l.N l.D with h | h
      · obtain ⟨h1, h2⟩ := l.part_in ha hb hD h0 h
        rw [h1]
        exact h2
      · exact (l.part_hi ha hb hD h).2
    · exact (l.part_lo ha hb hD h0).2
  unfold squareQ
  generalize l.partQ = t at hp ⊢
  obtain ⟨m, n⟩ := t
  dsimp only at hp ⊢
  unfold sqQ
  rw [offQx, offQy]
  have h1 := Int.mul_pos hp (l.e1_pos ha hb)
  exact Int.mul_pos (Int.mul_pos h1 h1) (Int.mul_pos h1 h1)
omit ha hb hD
theorem endQ_eq : l.endQ = (l.EA * (l.aw * l.aw), l.aw * l.aw * (l.aw * l.aw)) := by
  unfold endQ sumQ qSub qAdd qMul EA Ux Uy
  simp only [Prod.mk.injEq]
  constructor <;> grind
theorem lagr : l.EA * l.D = l.X * l.X + (l.Ux * l.Vx + l.Uy * l.Vy) * (l.Ux * l.Vx + l.Uy * l.Vy) := by unfold EA D X; grind
theorem ends : l.aw * l.aw * l.EB = l.bw * l.bw * l.EA - 2 * l.N + l.D := by unfold EA EB N D Tx Ty Ux Uy Vx Vy; grind
theorem sq_nn (a : Int) : 0 ≤ a * a := by
  rcases Int.le_total 0 a with h | h
  · exact Int.mul_nonneg h h
  · exact Int.mul_nonneg_of_nonpos_of_nonpos h h
theorem le_frac {S1 S2 a d q E : Int} (h : S1 * d = a * S2) (hd : 0 < d) (hq : 0 < q) (hS : 0 ≤ S2) (hle : a * q ≤ E * d) : S1 * (q * q) ≤ E * q * S2 := by
  refine Int.le_of_mul_le_mul_right ?_ hd
  have := Int.mul_le_mul_of_nonneg_right hle (Int.mul_nonneg hS (Int.le_of_lt hq))
  have e1 : S1 * (q * q) * d = a * q * (S2 * q) := by grind
  have e2 : E * q * S2 * d = E * d * (S2 * q) := by grind
  rw [e1, e2]
  exact this
include ha hb hD
theorem end_le : l.squareQ.1 * l.endQ.2 ≤ l.endQ.1 * l.squareQ.2 := by
  have hq := Int.mul_pos ha ha
  have hS := Int.le_of_lt (l.sq_den ha hb hD)
  rw [endQ_eq]
  dsimp only
  rcases Int.lt_or_le 0 l.N with h0 | h0
  · rcases Int.lt_or_le l.N l.D with h | h
    · refine le_frac (l.sq_in ha hb hD h0 h) (Int.mul_pos hq hD) hq hS ?_
      have h1 := l.lagr
      have h2 := sq_nn (l.Ux * l.Vx + l.Uy * l.Vy)
      have h3 : l.X * l.X ≤ l.EA * l.D := by omega
      have := Int.mul_le_mul_of_nonneg_right h3 (Int.le_of_lt hq)
      have e : l.EA * (l.aw * l.aw * l.D) = l.EA * l.D * (l.aw * l.aw) := by grind
      rw [e]
      exact this
    · refine le_frac (l.sq_hi ha hb hD h) (Int.mul_pos hb hb) hq hS ?_
      have h1 := l.ends
      have e : l.EB * (l.aw * l.aw) = l.aw * l.aw * l.EB := by grind
      have e2 : l.EA * (l.bw * l.bw) = l.bw * l.bw * l.EA := by grind
      rw [e, e2]
      omega
  · exact le_frac (l.sq_lo ha hb hD h0) hq hq hS (Int.le_refl _)
omit ha hb hD
def swap : Ln := ⟨l.bx, l.b_y, l.bw, l.ax, l.ay, l.aw, l.px, l.py⟩
theorem swap_D : l.swap.D = l.D := by unfold swap D Vx Vy; grind
theorem swap_N : l.swap.N = l.D - l.N := by unfold swap N D Ux Uy Vx Vy; grind
theorem swap_EA : l.swap.EA = l.EB := rfl
theorem swap_EB : l.swap.EB = l.EA := rfl
theorem swap_X : l.swap.X * l.swap.X * (l.aw * l.aw) = l.X * l.X * (l.bw * l.bw) := by
  have h : l.swap.X * l.aw = l.X * l.bw ∨ l.swap.X * l.aw = -(l.X * l.bw) := by unfold swap X Ux Uy Vx Vy; grind
  have e : l.swap.X * l.swap.X * (l.aw * l.aw) = l.swap.X * l.aw * (l.swap.X * l.aw) := by grind
  rw [e]
  rcases h with h | h <;> rw [h] <;> grind
end Ln

/-- A fraction in lowest terms that is n / d. -/
def IsR (n d : Int) (r : Rt) : Prop := r.num.z * d = n * (r.den.n : Int) ∧ r.num = sgn r.num.z ∧ Nat.gcd r.num.mag.n r.den.n = 1 ∧ 0 < r.den.n
theorem IsR.terms {n d : Int} {r : Rt} (h : IsR n d r) : termsB r = true := by
  unfold termsB
  rw [decide_eq_false (by have := h.2.2.2; omega), decide_eq_true h.2.1, decide_eq_true (show gcdW r.num.mag r.den = W 1 by unfold gcdW; rw [h.2.2.1])]
  rfl
theorem IsR.uniq {n d m e : Int} {r s : Rt} (hr : IsR n d r) (hs : IsR m e s) (hd : 0 < d) (he : 0 < e) (h : n * e = m * d) : r = s := by
  obtain ⟨r1, r2, r3, r4⟩ := hr
  obtain ⟨s1, s2, s3, s4⟩ := hs
  have hx : r.num.z * (s.den.n : Int) = s.num.z * (r.den.n : Int) := by
    have hde := Int.mul_pos hd he
    refine Int.eq_of_mul_eq_mul_right (a := d * e) (by omega) ?_
    have e1 : r.num.z * (s.den.n : Int) * (d * e) = (r.num.z * d) * ((s.den.n : Int) * e) := by grind
    have e2 : s.num.z * (r.den.n : Int) * (d * e) = (s.num.z * e) * ((r.den.n : Int) * d) := by grind
    rw [e1, e2, r1, s1]
    grind
  have hn : r.num.mag.n * s.den.n = s.num.mag.n * r.den.n := by
    have := congrArg Int.natAbs hx
    rwa [Int.natAbs_mul, Int.natAbs_mul, Sg.abs, Sg.abs, Int.natAbs_natCast, Int.natAbs_natCast] at this
  have d1 : r.den.n ∣ s.den.n := (Nat.Coprime.symm r3 : Nat.Coprime r.den.n r.num.mag.n).dvd_of_dvd_mul_left ⟨s.num.mag.n, by rw [hn, Nat.mul_comm]⟩
  have d2 : s.den.n ∣ r.den.n := (Nat.Coprime.symm s3 : Nat.Coprime s.den.n s.num.mag.n).dvd_of_dvd_mul_left ⟨r.num.mag.n, by rw [← hn, Nat.mul_comm]⟩
  have hde : r.den.n = s.den.n := Nat.dvd_antisymm d1 d2
  have hnz : r.num.z = s.num.z := by
    rw [hde] at hx
    exact Int.eq_of_mul_eq_mul_right (by omega) hx
  exact Rt.ext_iff.2 ⟨by rw [r2, s2, hnz], Wd.ext_ hde⟩
theorem ofR_is {n d : Int} (hn : n.natAbs < W512) (hd : 0 < d) (hdl : d.natAbs < W512) : IsR n d (ofR (sgn n) (sgn d)) := by
  have m1 := sgn_mag hn
  have m2 := sgn_mag hdl
  have hp : 0 < d.natAbs := by omega
  have hs : sidS (sgn n) (sgn d) = sgn n := by
    unfold sidS sgn
    dsimp only
    rw [decide_eq_false (by omega : ¬ d < 0)]
    cases decide (n < 0) <;> rfl
  have hg0 : 0 < Nat.gcd n.natAbs d.natAbs := Nat.gcd_pos_of_pos_right _ hp
  have hgn : Nat.gcd n.natAbs d.natAbs ∣ n.natAbs := Nat.gcd_dvd_left _ _
  have hgd : Nat.gcd n.natAbs d.natAbs ∣ d.natAbs := Nat.gcd_dvd_right _ _
  have hco : Nat.gcd (n.natAbs / Nat.gcd n.natAbs d.natAbs) (d.natAbs / Nat.gcd n.natAbs d.natAbs) = 1 := Nat.gcd_div_gcd_div_gcd_of_pos_right hp
  have hG : (gcdW (sgn n).mag (sgn d).mag).n = Nat.gcd n.natAbs d.natAbs := by rw [gcdW_n, m1, m2]
  unfold ofR
  rw [if_neg (by rw [m2]; omega), hs]
  unfold lowR
  have q1 : (qW (sgn n).mag (gcdW (sgn n).mag (sgn d).mag)).n = n.natAbs / Nat.gcd n.natAbs d.natAbs := by rw [qWn, hG, m1]
  have q2 : (qW (sgn d).mag (gcdW (sgn n).mag (sgn d).mag)).n = d.natAbs / Nat.gcd n.natAbs d.natAbs := by rw [qWn, hG, m2]
  generalize qW (sgn n).mag (gcdW (sgn n).mag (sgn d).mag) = A at q1
  generalize qW (sgn d).mag (gcdW (sgn n).mag (sgn d).mag) = B at q2
  generalize Nat.gcd n.natAbs d.natAbs = g at *
  obtain ⟨x, hx⟩ := hgn
  obtain ⟨y, hy⟩ := hgd
  rw [hx, Nat.mul_div_cancel_left _ hg0] at q1 hco
  rw [hy, Nat.mul_div_cancel_left _ hg0] at q2 hco
  have hz : (⟨(sgn n).neg, A⟩ : Sg).z = if n < 0 then -(x : Int) else (x : Int) := by
    unfold sgn Sg.z
    dsimp only
    rw [q1]
    by_cases c : n < 0
    · rw [decide_eq_true c, if_pos rfl, if_pos c]
    · rw [decide_eq_false c, if_neg (by decide), if_neg c]
  have hzl := Sg.z_lt ⟨(sgn n).neg, A⟩
  have hza : (⟨(sgn n).neg, A⟩ : Sg).z.natAbs = x := by rw [Sg.abs]; exact q1
  refine ⟨?_, ?_, ?_, ?_⟩
  · show (sgn (⟨(sgn n).neg, A⟩ : Sg).z).z * d = n * (B.n : Int)
    rw [sgn_z hzl, hz, q2]
    have e1 : d = (g : Int) * (y : Int) := by rw [← Int.natCast_mul, ← hy]; omega
    have e2 : n = if n < 0 then -((g : Int) * (x : Int)) else (g : Int) * (x : Int) := by rw [← Int.natCast_mul, ← hx]; split <;> omega
    by_cases c : n < 0
    · rw [if_pos c] at e2 ⊢
      grind
    · rw [if_neg c] at e2 ⊢
      grind
  · show sgn (⟨(sgn n).neg, A⟩ : Sg).z = sgn (sgn (⟨(sgn n).neg, A⟩ : Sg).z).z
    rw [sgn_z hzl]
  · show Nat.gcd (sgn (⟨(sgn n).neg, A⟩ : Sg).z).mag.n B.n = 1
    rw [sgn_mag hzl, hza, q2]
    exact hco
  · show 0 < B.n
    rw [q2]
    rcases Nat.eq_zero_or_pos y with c | c
    · rw [c] at hy
      omega
    · exact c
end Go.Proofs.YtebgjcginmgoaaaGreat
namespace Go.Proofs.YtebgjcginmgoaaaGreat
open Go.RowKit
open R (In64 InU64 lo64 nth)

/-- A number of not more than k bits. -/
def BZ (k : Nat) (z : Int) : Prop := z.natAbs < 2 ^ k
theorem BZ.mono {i j : Nat} {a : Int} (h : BZ i a) (hij : i ≤ j) : BZ j a := Nat.lt_of_lt_of_le h (Nat.pow_le_pow_right (by decide) hij)
theorem BZ.mul {i j : Nat} {a b : Int} (ha : BZ i a) (hb : BZ j b) : BZ (i + j) (a * b) := by
  unfold BZ at *
  rw [Int.natAbs_mul, Nat.pow_add]
  exact Nat.mul_lt_mul_of_lt_of_le ha (Nat.le_of_lt hb) (Nat.two_pow_pos j)
theorem BZ.add {i : Nat} {a b : Int} (ha : BZ i a) (hb : BZ i b) : BZ (i + 1) (a + b) := by
  unfold BZ at *
  rw [Nat.pow_succ]
  omega
theorem BZ.sub {i : Nat} {a b : Int} (ha : BZ i a) (hb : BZ i b) : BZ (i + 1) (a - b) := by
  unfold BZ at *
  rw [Nat.pow_succ]
  omega
theorem BZ.fit {k : Nat} {z : Int} (h : BZ k z) (hk : k ≤ 512) : z.natAbs < W512 := by
  refine Nat.lt_of_lt_of_le (h.mono hk) (Nat.le_of_eq ?_)
  decide +kernel
theorem BZ.res {k : Nat} {z : Int} (h : BZ k z) (hk : k ≤ 512) : (resZ z).z = z := by rw [res_fit (h.fit hk), sgn_z (h.fit hk)]
attribute [irreducible] BZ
theorem near_of {a : Sp} (h : nearS a = true) : BZ 92 a.x.z ∧ BZ 92 a.y.z ∧ BZ 62 (a.w.n : Int) ∧ mayS a = true := by
  unfold nearS at h
  simp only [Bool.and_eq_true, decide_eq_true_eq] at h
  obtain ⟨h1, h2, h3, h4⟩ := h
  have key : ∀ {n k : Nat}, ((bitLen n : Nat) : Int) ≤ (k : Nat) → n < 2 ^ k := fun {n k} h => Nat.lt_of_lt_of_le (bitLen_spec n).1 (Nat.pow_le_pow_right (by decide) (by omega))
  refine ⟨?_, ?_, ?_, h4⟩
  · unfold BZ
    rw [Sg.abs]
    exact key h1
  · unfold BZ
    rw [Sg.abs]
    exact key h2
  · unfold BZ
    rw [Int.natAbs_natCast]
    exact key h3
theorem may_of {a : Sp} (h : mayS a = true) : 0 < a.w.n ∧ Nat.gcd (Nat.gcd a.x.mag.n a.y.mag.n) a.w.n = 1 ∧ a.x = sgn a.x.z ∧ a.y = sgn a.y.z := by
  unfold mayS at h
  simp only [Bool.and_eq_true, Bool.not_eq_true', decide_eq_true_eq, decide_eq_false_iff_not] at h
  obtain ⟨h0, _, _, _, h4⟩ := h
  have e1 : a.x = (lowS a.x a.y a.w).x := congrArg Sp.x h4
  have e2 : a.y = (lowS a.x a.y a.w).y := congrArg Sp.y h4
  have e3 : a.w = (lowS a.x a.y a.w).w := congrArg Sp.w h4
  have fx : ∀ {s : Sg} {z : Sg}, s = sgn z.z → s = sgn s.z := fun {s z} e => by rw [e, sgn_z (Sg.z_lt z)]
  refine ⟨by omega, ?_, fx e1, fx e2⟩
  have e4 : a.w.n = a.w.n / (gS a.x a.y a.w).n := by
    have := congrArg Wd.n e3
    rwa [show (lowS a.x a.y a.w).w = qW a.w (gS a.x a.y a.w) from rfl, qWn] at this
  have e5 : (gS a.x a.y a.w).n = Nat.gcd (Nat.gcd a.x.mag.n a.y.mag.n) a.w.n := by unfold gS; rw [gcdW_n, gcdW_n]
  rw [← e5]
  rcases Nat.lt_or_ge 1 (gS a.x a.y a.w).n with c | c
  · have := Nat.div_lt_self (n := a.w.n) (by omega) c
    omega
  · rcases Nat.eq_zero_or_pos (gS a.x a.y a.w).n with d | d
    · rw [d, Nat.div_zero] at e4
      omega
    · omega
def lineL (a b : Sp) (p : Pt) : Ln := ⟨a.x.z, a.y.z, a.w.n, b.x.z, b.y.z, b.w.n, p.x, p.y⟩
theorem line_swap (a b : Sp) (p : Pt) : lineL b a p = (lineL a b p).swap := rfl
structure NearL (a b : Sp) (p : Pt) : Prop where
  na : nearS a = true
  nb : nearS b = true
  ne : a ≠ b
  pt : ptB p = true
theorem NearL.of {a b : Sp} {p : Pt} (h : lineB a b p = true) : NearL a b p := by
  unfold lineB at h
  simp only [Bool.and_eq_true, Bool.not_eq_true', decide_eq_false_iff_not] at h
  exact ⟨h.1, h.2.1, h.2.2.1, h.2.2.2⟩
theorem NearL.swap {a b : Sp} {p : Pt} (h : NearL a b p) : NearL b a p := ⟨h.nb, h.na, fun e => h.ne e.symm, h.pt⟩
theorem NearL.line {a b : Sp} {p : Pt} (h : NearL a b p) : lineB a b p = true := by
  unfold lineB
  rw [h.na, h.nb, h.pt, decide_eq_false h.ne]
  rfl
section
variable {a b : Sp} {p : Pt} (h : NearL a b p)
include h
theorem NearL.pb : BZ 30 p.x ∧ BZ 30 p.y := by
  have := h.pt
  unfold ptB at this
  simp only [Bool.and_eq_true, decide_eq_true_eq] at this
  unfold BZ
  omega
theorem NearL.aw : 0 < (lineL a b p).aw := by
  have := (may_of (near_of h.na).2.2.2).1
  show (0 : Int) < (a.w.n : Int)
  omega
theorem NearL.bw : 0 < (lineL a b p).bw := h.swap.aw
theorem NearL.U : BZ 93 (lineL a b p).Ux ∧ BZ 93 (lineL a b p).Uy := by
  obtain ⟨a1, a2, a3, -⟩ := near_of h.na
  obtain ⟨p1, p2⟩ := h.pb
  exact ⟨((p1.mul a3).sub (i := 92) a1), ((p2.mul a3).sub (i := 92) a2)⟩
theorem NearL.T : BZ 93 (lineL a b p).Tx ∧ BZ 93 (lineL a b p).Ty := h.swap.U
theorem NearL.V : BZ 155 (lineL a b p).Vx ∧ BZ 155 (lineL a b p).Vy := by
  obtain ⟨a1, a2, a3, -⟩ := near_of h.na
  obtain ⟨b1, b2, b3, -⟩ := near_of h.nb
  exact ⟨(b1.mul a3).sub (a1.mul b3), (b2.mul a3).sub (a2.mul b3)⟩
theorem NearL.to : toW a p = ⟨sgn (lineL a b p).Ux, sgn (lineL a b p).Uy⟩ := by
  obtain ⟨a1, a2, a3, -⟩ := near_of h.na
  obtain ⟨p1, p2⟩ := h.pb
  obtain ⟨u1, u2⟩ := h.U
  unfold toW
  rw [sgn_z (p1.fit (by decide)), sgn_z (p2.fit (by decide))]
  show (⟨resZ ((resZ (p.x * (a.w.n : Int))).z - a.x.z), resZ ((resZ (p.y * (a.w.n : Int))).z - a.y.z)⟩ : Wy) = _
  rw [(p1.mul a3).res (by decide), (p2.mul a3).res (by decide)]
  show (⟨resZ (lineL a b p).Ux, resZ (lineL a b p).Uy⟩ : Wy) = _
  rw [res_fit (u1.fit (by decide)), res_fit (u2.fit (by decide))]
theorem NearL.btw : btwW a b = ⟨sgn (lineL a b p).Vx, sgn (lineL a b p).Vy⟩ := by
  obtain ⟨a1, a2, a3, -⟩ := near_of h.na
  obtain ⟨b1, b2, b3, -⟩ := near_of h.nb
  obtain ⟨u1, u2⟩ := h.V
  unfold btwW
  show (⟨resZ ((resZ (b.x.z * (a.w.n : Int))).z - (resZ (a.x.z * (b.w.n : Int))).z), resZ ((resZ (b.y.z * (a.w.n : Int))).z - (resZ (a.y.z * (b.w.n : Int))).z)⟩ : Wy) = _
  rw [(b1.mul a3).res (by decide), (b2.mul a3).res (by decide), (a1.mul b3).res (by decide), (a2.mul b3).res (by decide)]
  show (⟨resZ (lineL a b p).Vx, resZ (lineL a b p).Vy⟩ : Wy) = _
  rw [res_fit (u1.fit (by decide)), res_fit (u2.fit (by decide))]
omit h
theorem dot_fit {i j : Nat} {x y u v : Int} (hx : BZ i x) (hy : BZ i y) (hu : BZ j u) (hv : BZ j v) (hk : i + j + 1 ≤ 512) : dotW ⟨sgn x, sgn y⟩ ⟨sgn u, sgn v⟩ = sgn (x * u + y * v) ∧ BZ (i + j + 1) (x * u + y * v) := by
  have h1 := (hx.mul hu).add (hy.mul hv)
  refine ⟨?_, h1⟩
  unfold dotW
  rw [sgn_z (hx.fit (by omega)), sgn_z (hy.fit (by omega)), sgn_z (hu.fit (by omega)), sgn_z (hv.fit (by omega)), (hx.mul hu).res (by omega), (hy.mul hv).res (by omega), res_fit (h1.fit hk)]
theorem cross_fit {i j : Nat} {x y u v : Int} (hx : BZ i x) (hy : BZ i y) (hu : BZ j u) (hv : BZ j v) (hk : i + j + 1 ≤ 512) : crossW ⟨sgn x, sgn y⟩ ⟨sgn u, sgn v⟩ = sgn (x * v - y * u) ∧ BZ (i + j + 1) (x * v - y * u) := by
  have h1 := (hx.mul hv).sub (hy.mul hu)
  refine ⟨?_, h1⟩
  unfold crossW
  rw [sgn_z (hx.fit (by omega)), sgn_z (hy.fit (by omega)), sgn_z (hu.fit (by omega)), sgn_z (hv.fit (by omega)), (hx.mul hv).res (by omega), (hy.mul hu).res (by omega), res_fit (h1.fit hk)]
include h
theorem NearL.N : partN a b p = sgn (lineL a b p).N ∧ BZ 311 (lineL a b p).N := by
  obtain ⟨b1, b2, b3, -⟩ := near_of h.nb
  obtain ⟨u1, u2⟩ := h.U
  obtain ⟨v1, v2⟩ := h.V
  obtain ⟨d1, d2⟩ := dot_fit u1 u2 v1 v2 (by decide)
  have h1 : BZ 311 (lineL a b p).N := d2.mul b3
  refine ⟨?_, h1⟩
  unfold partN
  rw [h.to, h.btw, d1, sgn_z (d2.fit (by decide))]
  show resZ (lineL a b p).N = _
  rw [res_fit (h1.fit (by decide))]
theorem NearL.D : partD a b = sgn (lineL a b p).D ∧ BZ 311 (lineL a b p).D := by
  obtain ⟨v1, v2⟩ := h.V
  obtain ⟨d1, d2⟩ := dot_fit v1 v2 v1 v2 (by decide)
  unfold partD
  rw [h.btw]
  exact ⟨d1, d2⟩
theorem NearL.Dpos : 0 < (lineL a b p).D := by
  obtain ⟨a1, a2, a3, a4⟩ := may_of (near_of h.na).2.2.2
  obtain ⟨b1, b2, b3, b4⟩ := may_of (near_of h.nb).2.2.2
  have hx := Ln.sq_nn (lineL a b p).Vx
  have hy := Ln.sq_nn (lineL a b p).Vy
  rcases Int.lt_or_le 0 (lineL a b p).D with c | c
  · exact c
  exfalso
  unfold Ln.D at c
  have x0 : (lineL a b p).Vx = 0 := by
    rcases Int.mul_eq_zero.1 (show (lineL a b p).Vx * (lineL a b p).Vx = 0 by omega) with e | e <;> exact e
  have y0 : (lineL a b p).Vy = 0 := by
    rcases Int.mul_eq_zero.1 (show (lineL a b p).Vy * (lineL a b p).Vy = 0 by omega) with e | e <;> exact e
  have ex : b.x.z * (a.w.n : Int) = a.x.z * (b.w.n : Int) := by
    have : b.x.z * (a.w.n : Int) - a.x.z * (b.w.n : Int) = 0 := x0
    omega
  have ey : b.y.z * (a.w.n : Int) = a.y.z * (b.w.n : Int) := by
    have : b.y.z * (a.w.n : Int) - a.y.z * (b.w.n : Int) = 0 := y0
    omega
  have nx : b.x.mag.n * a.w.n = a.x.mag.n * b.w.n := by
    have := congrArg Int.natAbs ex
    rwa [Int.natAbs_mul, Int.natAbs_mul, Sg.abs, Sg.abs, Int.natAbs_natCast, Int.natAbs_natCast] at this
  have ny : b.y.mag.n * a.w.n = a.y.mag.n * b.w.n := by
    have := congrArg Int.natAbs ey
    rwa [Int.natAbs_mul, Int.natAbs_mul, Sg.abs, Sg.abs, Int.natAbs_natCast, Int.natAbs_natCast] at this
  have hw : a.w.n = b.w.n := by
    have e1 : Nat.gcd (Nat.gcd (b.x.mag.n * a.w.n) (b.y.mag.n * a.w.n)) (b.w.n * a.w.n) = a.w.n := by
      rw [Nat.gcd_mul_right, Nat.gcd_mul_right, b2, Nat.one_mul]
    have e2 : Nat.gcd (Nat.gcd (a.x.mag.n * b.w.n) (a.y.mag.n * b.w.n)) (a.w.n * b.w.n) = b.w.n := by
      rw [Nat.gcd_mul_right, Nat.gcd_mul_right, a2, Nat.one_mul]
    rw [nx, ny, Nat.mul_comm b.w.n a.w.n, e2] at e1
    exact e1.symm
  have hn0 : (a.w.n : Int) ≠ 0 := by omega
  rw [← hw] at ex ey
  have zx := Int.eq_of_mul_eq_mul_right hn0 ex
  have zy := Int.eq_of_mul_eq_mul_right hn0 ey
  exact h.ne (Sp.ext_iff.2 ⟨by rw [a3, b3, zx], by rw [a4, b4, zy], Wd.ext_ hw⟩)
theorem NearL.sqA : squareA a b p = ofR (sgn ((lineL a b p).X * (lineL a b p).X)) (sgn ((lineL a b p).aw * (lineL a b p).aw * (lineL a b p).D)) ∧ BZ 498 ((lineL a b p).X * (lineL a b p).X) ∧ BZ 435 ((lineL a b p).aw * (lineL a b p).aw * (lineL a b p).D) := by
  obtain ⟨a1, a2, a3, -⟩ := near_of h.na
  obtain ⟨u1, u2⟩ := h.U
  obtain ⟨v1, v2⟩ := h.V
  obtain ⟨c1, c2⟩ := cross_fit u1 u2 v1 v2 (by decide)
  obtain ⟨d1, d2⟩ := h.D
  have c3 : BZ 498 ((lineL a b p).X * (lineL a b p).X) := c2.mul c2
  have w2 : BZ 124 ((a.w.n : Int) * (a.w.n : Int)) := a3.mul a3
  have d3 : BZ 435 ((lineL a b p).aw * (lineL a b p).aw * (lineL a b p).D) := w2.mul d2
  refine ⟨?_, c3, d3⟩
  unfold squareA
  have e1 : crossW (toW a p) (btwW a b) = sgn (lineL a b p).X := by rw [h.to, h.btw]; exact c1
  have e2 : dotW (btwW a b) (btwW a b) = sgn (lineL a b p).D := d1
  rw [e1, e2, sgn_z (z := (lineL a b p).X) (c2.fit (by decide)), res_fit (c3.fit (by decide)), sgn_z (d2.fit (by decide))]
  show ofR _ (resZ ((resZ ((a.w.n : Int) * (a.w.n : Int))).z * (lineL a b p).D)) = _
  rw [w2.res (by decide)]
  show ofR _ (resZ ((lineL a b p).aw * (lineL a b p).aw * (lineL a b p).D)) = _
  rw [res_fit (d3.fit (by decide))]
theorem NearL.sqB : squareB a p = ofR (sgn (lineL a b p).EA) (sgn ((lineL a b p).aw * (lineL a b p).aw)) ∧ BZ 187 (lineL a b p).EA ∧ BZ 124 ((lineL a b p).aw * (lineL a b p).aw) := by
  obtain ⟨a1, a2, a3, -⟩ := near_of h.na
  obtain ⟨u1, u2⟩ := h.U
  obtain ⟨c1, c2⟩ := dot_fit u1 u2 u1 u2 (by decide)
  have w2 : BZ 124 ((a.w.n : Int) * (a.w.n : Int)) := a3.mul a3
  refine ⟨?_, c2, w2⟩
  unfold squareB
  rw [h.to, c1]
  show ofR _ (resZ ((a.w.n : Int) * (a.w.n : Int))) = _
  rw [res_fit (w2.fit (by decide))]
  rfl
/-- What far answers, as whole numbers. -/
theorem NearL.cases : (0 < (partN a b p).z ↔ 0 < (lineL a b p).N) ∧ ((partN a b p).z < (partD a b).z ↔ (lineL a b p).N < (lineL a b p).D) := by
  obtain ⟨n1, n2⟩ := h.N
  obtain ⟨d1, d2⟩ := h.D
  rw [n1, d1, sgn_z (n2.fit (by decide)), sgn_z (d2.fit (by decide))]
  exact ⟨Iff.rfl, Iff.rfl⟩
theorem NearL.square : ∃ n d, 0 < d ∧ IsR n d (squareR a b p) ∧ (lineL a b p).squareQ.1 * d = n * (lineL a b p).squareQ.2 := by
  obtain ⟨k1, k2⟩ := h.cases
  have ha := h.aw
  have hb := h.bw
  have hD := h.Dpos
  unfold squareR
  rcases Int.lt_or_le 0 (lineL a b p).N with h0 | h0
  · rcases Int.lt_or_le (lineL a b p).N (lineL a b p).D with h1 | h1
    · rw [if_pos ⟨k1.2 h0, k2.2 h1⟩]
      obtain ⟨s1, s2, s3⟩ := h.sqA
      have hd := Int.mul_pos (Int.mul_pos ha ha) hD
      rw [s1]
      exact ⟨_, _, hd, ofR_is (s2.fit (by decide)) hd (s3.fit (by decide)), (lineL a b p).sq_in ha hb hD h0 h1⟩
    · have q : ¬ (partN a b p).z < (partD a b).z := fun c => by have := k2.1 c; omega
      rw [if_neg (fun c => q c.2), if_pos (by omega)]
      obtain ⟨s1, s2, s3⟩ := h.swap.sqB
      have hd := Int.mul_pos hb hb
      rw [s1]
      exact ⟨_, _, hd, ofR_is (s2.fit (by decide)) hd (s3.fit (by decide)), (lineL a b p).sq_hi ha hb hD h1⟩
  · have q : ¬ 0 < (partN a b p).z := fun c => by have := k1.1 c; omega
    have q2 : (partN a b p).z < (partD a b).z := k2.2 (by omega)
    rw [if_neg (fun c => q c.1), if_neg (by omega)]
    obtain ⟨s1, s2, s3⟩ := h.sqB
    have hd := Int.mul_pos ha ha
    rw [s1]
    exact ⟨_, _, hd, ofR_is (s2.fit (by decide)) hd (s3.fit (by decide)), (lineL a b p).sq_lo ha hb hD h0⟩
theorem NearL.part : (∃ n d, 0 < d ∧ IsR n d (partR a b p) ∧ (lineL a b p).partQ.1 * d = n * (lineL a b p).partQ.2) ∧ fpartE a b p = 0 := by
  obtain ⟨k1, k2⟩ := h.cases
  have ha := h.aw
  have hb := h.bw
  have hD := h.Dpos
  obtain ⟨n1, n2⟩ := h.N
  obtain ⟨d1, d2⟩ := h.D
  have one : ∀ z : Int, z.natAbs < 2 → IsR z 1 ⟨sgn z, W 1⟩ := fun z hz => by
    have w1 : (W 1).n = 1 := wlx (by decide)
    have hz' : z.natAbs < W512 := Nat.lt_of_lt_of_le hz (by decide +kernel)
    refine ⟨?_, ?_, ?_, ?_⟩
    · show (sgn z).z * 1 = z * ((W 1).n : Int)
      rw [w1, sgn_z hz']
      omega
    · show sgn z = sgn (sgn z).z
      rw [sgn_z hz']
    · show Nat.gcd _ (W 1).n = 1
      rw [w1, Nat.gcd_one_right]
    · show 0 < (W 1).n
      rw [w1]
      decide
  unfold partR fpartE
  rcases Int.lt_or_le 0 (lineL a b p).N with h0 | h0
  · have c1 : ¬ (partN a b p).z ≤ 0 := by have := k1.2 h0; omega
    rw [if_neg c1, if_neg c1]
    rcases Int.lt_or_le (lineL a b p).N (lineL a b p).D with h1 | h1
    · have c2 : ¬ (partD a b).z ≤ (partN a b p).z := by have := k2.2 h1; omega
      rw [if_neg c2, if_neg c2, n1, d1]
      obtain ⟨e1, -⟩ := (lineL a b p).part_in ha hb hD h0 h1
      refine ⟨⟨_, _, hD, ofR_is (n2.fit (by decide)) hD (d2.fit (by decide)), ?_⟩, ?_⟩
      · rw [e1]
        dsimp only
        grind
      · unfold eW
        rw [sgn_mag (d2.fit (by decide)), if_neg (by omega)]
    · have q : ¬ (partN a b p).z < (partD a b).z := fun c => by have := k2.1 c; omega
      have c2 : (partD a b).z ≤ (partN a b p).z := by omega
      rw [if_pos c2, if_pos c2]
      obtain ⟨e1, -⟩ := (lineL a b p).part_hi ha hb hD h1
      exact ⟨⟨1, 1, by decide, one 1 (by decide), by omega⟩, rfl⟩
  · have q : ¬ 0 < (partN a b p).z := fun c => by have := k1.1 c; omega
    have c1 : (partN a b p).z ≤ 0 := by omega
    rw [if_pos c1, if_pos c1]
    obtain ⟨e1, -⟩ := (lineL a b p).part_lo ha hb hD h0
    exact ⟨⟨0, 1, by decide, one 0 (by decide), by omega⟩, rfl⟩
/-- Turned about, a point is as far. -/
theorem NearL.turn : squareR b a p = squareR a b p := by
  obtain ⟨k1, k2⟩ := h.cases
  obtain ⟨j1, j2⟩ := h.swap.cases
  have ha := h.aw
  have hb := h.bw
  have hD := h.Dpos
  rw [line_swap a b p, Ln.swap_N] at j1 j2
  rw [Ln.swap_D] at j2
  unfold squareR
  rcases Int.lt_or_le 0 (lineL a b p).N with h0 | h0
  · rcases Int.lt_or_le (lineL a b p).N (lineL a b p).D with h1 | h1
    · rw [if_pos ⟨j1.2 (by omega), j2.2 (by omega)⟩, if_pos ⟨k1.2 h0, k2.2 h1⟩]
      obtain ⟨s1, s2, s3⟩ := h.sqA
      obtain ⟨t1, t2, t3⟩ := h.swap.sqA
      have hd := Int.mul_pos (Int.mul_pos ha ha) hD
      have hd2 := Int.mul_pos (Int.mul_pos h.swap.aw h.swap.aw) h.swap.Dpos
      rw [s1, t1]
      refine (ofR_is (t2.fit (by decide)) hd2 (t3.fit (by decide))).uniq (ofR_is (s2.fit (by decide)) hd (s3.fit (by decide))) hd2 hd ?_
      have e := (lineL a b p).swap_X
      rw [line_swap a b p, Ln.swap_D]
      show (lineL a b p).swap.X * (lineL a b p).swap.X * _ = _ * ((lineL a b p).bw * (lineL a b p).bw * (lineL a b p).D)
      grind
    · have q1 : ¬ (partN a b p).z < (partD a b).z := fun c => by have := k2.1 c; omega
      have q2 : ¬ 0 < (partN b a p).z := fun c => by have := j1.1 c; omega
      have q3 : (partN b a p).z < (partD b a).z := j2.2 (by omega)
      rw [if_neg (fun c => q2 c.1), if_neg (by omega), if_neg (fun c => q1 c.2), if_pos (by omega)]
  · have q1 : ¬ 0 < (partN a b p).z := fun c => by have := k1.1 c; omega
    have q2 : (partN a b p).z < (partD a b).z := k2.2 (by omega)
    have q3 : ¬ (partN b a p).z < (partD b a).z := fun c => by have := j2.1 c; omega
    rw [if_neg (fun c => q3 c.2), if_pos (by omega), if_neg (fun c => q1 c.1), if_neg (by omega)]
end
end Go.Proofs.YtebgjcginmgoaaaGreat
