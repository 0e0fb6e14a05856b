/- How far a point is from a line, in plain whole numbers. -/
import Derived.Test.YtebgjcginmgoaaaGreatFe
namespace Go.Proofs.YtebgjcginmgoaaaGreat
open Go.RowKit
open R (In64 InU64 lo64 nth)

def dotI (a b c d : Int) : Int := a * c + b * d
def crossI (a b c d : Int) : Int := a * d - b * c
theorem dotI_turn (a b c d : Int) : dotI (-b) a (-d) c = dotI a b c d := by
  unfold dotI
  rw [Int.neg_mul_neg, Int.add_comm]
theorem dotI_neg (a b c d : Int) : dotI (-a) (-b) (-c) (-d) = dotI a b c d := by
  unfold dotI
  rw [Int.neg_mul_neg, Int.neg_mul_neg]
theorem crossI_turn (a b c d : Int) : crossI (-b) a (-d) c = crossI a b c d := by
  unfold crossI
  rw [Int.neg_mul, Int.mul_neg]
  omega
theorem crossI_neg (a b c d : Int) : crossI (-a) (-b) (-c) (-d) = crossI a b c d := by
  unfold crossI
  rw [Int.neg_mul_neg, Int.neg_mul_neg]
theorem dotI_back (a b c d : Int) : dotI b (-a) d (-c) = dotI a b c d := by
  unfold dotI
  rw [Int.neg_mul_neg, Int.add_comm]
theorem crossI_back (a b c d : Int) : crossI b (-a) d (-c) = crossI a b c d := by
  unfold crossI
  rw [Int.neg_mul, Int.mul_neg]
  omega
theorem mul_le_sq {a b n : Nat} (ha : a ≤ n) (hb : b ≤ n) : a * b ≤ n * n := Nat.mul_le_mul ha hb
theorem abs_mul_le {a b : Int} {n : Nat} (ha : a.natAbs ≤ n) (hb : b.natAbs ≤ n) : (a * b).natAbs ≤ n * n := by
  rw [Int.natAbs_mul]
  exact mul_le_sq ha hb
theorem dotI_abs {a b c d : Int} {n : Nat} (ha : a.natAbs ≤ n) (hb : b.natAbs ≤ n) (hc : c.natAbs ≤ n) (hd : d.natAbs ≤ n) : (dotI a b c d).natAbs ≤ 2 * (n * n) := by
  have h1 := abs_mul_le ha hc
  have h2 := abs_mul_le hb hd
  unfold dotI
  generalize a * c = x at *
  generalize b * d = y at *
  generalize n * n = m at *
  omega
theorem crossI_abs {a b c d : Int} {n : Nat} (ha : a.natAbs ≤ n) (hb : b.natAbs ≤ n) (hc : c.natAbs ≤ n) (hd : d.natAbs ≤ n) : (crossI a b c d).natAbs ≤ 2 * (n * n) := by
  have h1 := abs_mul_le ha hd
  have h2 := abs_mul_le hb hc
  unfold crossI
  generalize a * d = x at *
  generalize b * c = y at *
  generalize n * n = m at *
  omega
theorem sq_nn (a : Int) : 0 ≤ a * a := by
  rcases Int.le_total 0 a with h | h
  · exact Int.mul_nonneg h h
  · have := Int.mul_nonneg (Int.neg_nonneg.2 h) (Int.neg_nonneg.2 h)
    rwa [Int.neg_mul_neg] at this
theorem sq_pos {a : Int} (h : a ≠ 0) : 0 < a * a := by
  have h1 := sq_nn a
  have h2 : a * a ≠ 0 := fun e => by
    rcases Int.mul_eq_zero.1 e with g | g <;> exact h g
  omega
theorem dotI_self (a b : Int) : 0 ≤ dotI a b a b := by
  have := sq_nn a
  have := sq_nn b
  unfold dotI
  omega
theorem dotI_pos {a b : Int} (h : a ≠ 0 ∨ b ≠ 0) : 0 < dotI a b a b := by
  unfold dotI
  rcases h with h | h
  · have := sq_pos h
    have := sq_nn b
    omega
  · have := sq_pos h
    have := sq_nn a
    omega
/-- Points as spots. -/
theorem atS_x (x y : Int) : (atS x y).x = sgn x := rfl
theorem atS_y (x y : Int) : (atS x y).y = sgn y := rfl
theorem by1 (x y : Int) : (byS (atS x y)).z = 1 := by
  show ((W 1).n : Int) = 1
  rw [wlx (by decide)]
  rfl
theorem sz_ {z : Int} (h : z.natAbs ≤ 9223372036854775808) : (sgn z).z = z := lz_ (by omega)
theorem rs_ {z : Int} (h : z.natAbs ≤ 9223372036854775808) : resZ z = sgn z := res_fit (wsmall (by omega))
theorem rz_ {z : Int} (h : z.natAbs ≤ 9223372036854775808) : (resZ z).z = z := by rw [rs_ h, sz_ h]
def inP (p : Pt) : Prop := (-536870912 ≤ p.x ∧ p.x ≤ 536870912) ∧ -536870912 ≤ p.y ∧ p.y ≤ 536870912
theorem ptB_t {p : Pt} (h : inP p) : ptB p = true := by
  obtain ⟨⟨h1, h2⟩, h3, h4⟩ := h
  unfold ptB
  rw [decide_eq_true h1, decide_eq_true h2, decide_eq_true h3, decide_eq_true h4]
  rfl
theorem ptB_of {p : Pt} (h : ptB p = true) : inP p := by
  unfold ptB at h
  simp at h
  exact ⟨⟨h.1, h.2.1⟩, h.2.2⟩
def atP (a : Pt) : Sp := atS a.x a.y
theorem toW_at {a p : Pt} (ha : inP a) (hp : inP p) : toW (atP a) p = ⟨sgn (p.x - a.x), sgn (p.y - a.y)⟩ := by
  obtain ⟨⟨a1, a2⟩, a3, a4⟩ := ha
  obtain ⟨⟨p1, p2⟩, p3, p4⟩ := hp
  unfold toW atP
  rw [by1, Int.mul_one, Int.mul_one, sz_ (by omega), sz_ (by omega), rz_ (by omega), rz_ (by omega), atS_x, atS_y, sz_ (by omega), sz_ (by omega), rs_ (by omega), rs_ (by omega)]
theorem btwW_at {a b : Pt} (ha : inP a) (hb : inP b) : btwW (atP a) (atP b) = ⟨sgn (b.x - a.x), sgn (b.y - a.y)⟩ := by
  obtain ⟨⟨a1, a2⟩, a3, a4⟩ := ha
  obtain ⟨⟨p1, p2⟩, p3, p4⟩ := hb
  unfold btwW atP
  rw [by1, by1, Int.mul_one, Int.mul_one, Int.mul_one, Int.mul_one, atS_x, atS_y, atS_x, atS_y, sz_ (by omega), sz_ (by omega), sz_ (by omega), sz_ (by omega), rz_ (by omega), rz_ (by omega), rz_ (by omega), rz_ (by omega), rs_ (by omega), rs_ (by omega)]
theorem dotW_at {a b c d : Int} (ha : a.natAbs ≤ 1073741824) (hb : b.natAbs ≤ 1073741824) (hc : c.natAbs ≤ 1073741824) (hd : d.natAbs ≤ 1073741824) : dotW ⟨sgn a, sgn b⟩ ⟨sgn c, sgn d⟩ = sgn (dotI a b c d) := by
  have h1 := abs_mul_le ha hc
  have h2 := abs_mul_le hb hd
  have h3 := dotI_abs ha hb hc hd
  unfold dotW
  dsimp only
  rw [sz_ (by omega), sz_ (by omega), sz_ (by omega), sz_ (by omega), rz_ (by omega), rz_ (by omega)]
  exact rs_ (by unfold dotI at h3; omega)
theorem crossW_at {a b c d : Int} (ha : a.natAbs ≤ 1073741824) (hb : b.natAbs ≤ 1073741824) (hc : c.natAbs ≤ 1073741824) (hd : d.natAbs ≤ 1073741824) : crossW ⟨sgn a, sgn b⟩ ⟨sgn c, sgn d⟩ = sgn (crossI a b c d) := by
  have h1 := abs_mul_le ha hd
  have h2 := abs_mul_le hb hc
  have h3 := crossI_abs ha hb hc hd
  unfold crossW
  dsimp only
  rw [sz_ (by omega), sz_ (by omega), sz_ (by omega), sz_ (by omega), rz_ (by omega), rz_ (by omega)]
  exact rs_ (by unfold crossI at h3; omega)
/-- What is reckoned out of how far along, how long, twice the area, how far from the ends. -/
def pR (n d : Int) : Rt := if n ≤ 0 then ⟨sgn 0, W 1⟩ else if d ≤ n then ⟨sgn 1, W 1⟩ else ofR (sgn n) (sgn d)
def sR (n d x ea eb : Int) : Rt := if 0 < n ∧ n < d then ofR (sgn (x * x)) (sgn d) else if d ≤ n then ofR (sgn eb) (sgn 1) else ofR (sgn ea) (sgn 1)
section
variable {a b p : Pt} (ha : inP a) (hb : inP b) (hp : inP p)
include ha hb hp
theorem partN_at : partN (atP a) (atP b) p = sgn (dotI (p.x - a.x) (p.y - a.y) (b.x - a.x) (b.y - a.y)) := by
  obtain ⟨⟨a1, a2⟩, a3, a4⟩ := id ha
  obtain ⟨⟨b1, b2⟩, b3, b4⟩ := id hb
  obtain ⟨⟨p1, p2⟩, p3, p4⟩ := id hp
  have h := dotI_abs (a := p.x - a.x) (b := p.y - a.y) (c := b.x - a.x) (d := b.y - a.y) (n := 1073741824) (by omega) (by omega) (by omega) (by omega)
  unfold partN
  rw [toW_at ha hp, btwW_at ha hb, dotW_at (by omega) (by omega) (by omega) (by omega)]
  rw [show (byS (atP b)).z = 1 from by1 _ _, Int.mul_one, sz_ (by omega), rs_ (by omega)]
omit hp in
theorem partD_at : partD (atP a) (atP b) = sgn (dotI (b.x - a.x) (b.y - a.y) (b.x - a.x) (b.y - a.y)) := by
  obtain ⟨⟨a1, a2⟩, a3, a4⟩ := id ha
  obtain ⟨⟨b1, b2⟩, b3, b4⟩ := id hb
  unfold partD
  rw [btwW_at ha hb, dotW_at (by omega) (by omega) (by omega) (by omega)]
theorem partR_at : partR (atP a) (atP b) p = pR (dotI (p.x - a.x) (p.y - a.y) (b.x - a.x) (b.y - a.y)) (dotI (b.x - a.x) (b.y - a.y) (b.x - a.x) (b.y - a.y)) := by
  obtain ⟨⟨a1, a2⟩, a3, a4⟩ := id ha
  obtain ⟨⟨b1, b2⟩, b3, b4⟩ := id hb
  obtain ⟨⟨p1, p2⟩, p3, p4⟩ := id hp
  have h1 := dotI_abs (a := p.x - a.x) (b := p.y - a.y) (c := b.x - a.x) (d := b.y - a.y) (n := 1073741824) (by omega) (by omega) (by omega) (by omega)
  have h2 := dotI_abs (a := b.x - a.x) (b := b.y - a.y) (c := b.x - a.x) (d := b.y - a.y) (n := 1073741824) (by omega) (by omega) (by omega) (by omega)
  unfold partR pR
  rw [partN_at ha hb hp, partD_at ha hb, sz_ (by omega), sz_ (by omega)]
theorem squareR_at : squareR (atP a) (atP b) p = sR (dotI (p.x - a.x) (p.y - a.y) (b.x - a.x) (b.y - a.y)) (dotI (b.x - a.x) (b.y - a.y) (b.x - a.x) (b.y - a.y)) (crossI (p.x - a.x) (p.y - a.y) (b.x - a.x) (b.y - a.y)) (dotI (p.x - a.x) (p.y - a.y) (p.x - a.x) (p.y - a.y)) (dotI (p.x - b.x) (p.y - b.y) (p.x - b.x) (p.y - b.y)) := by
  obtain ⟨⟨a1, a2⟩, a3, a4⟩ := id ha
  obtain ⟨⟨b1, b2⟩, b3, b4⟩ := id hb
  obtain ⟨⟨p1, p2⟩, p3, p4⟩ := id hp
  have h1 := dotI_abs (a := p.x - a.x) (b := p.y - a.y) (c := b.x - a.x) (d := b.y - a.y) (n := 1073741824) (by omega) (by omega) (by omega) (by omega)
  have h2 := dotI_abs (a := b.x - a.x) (b := b.y - a.y) (c := b.x - a.x) (d := b.y - a.y) (n := 1073741824) (by omega) (by omega) (by omega) (by omega)
  have h3 := crossI_abs (a := p.x - a.x) (b := p.y - a.y) (c := b.x - a.x) (d := b.y - a.y) (n := 1073741824) (by omega) (by omega) (by omega) (by omega)
  have h4 : (crossI (p.x - a.x) (p.y - a.y) (b.x - a.x) (b.y - a.y) * crossI (p.x - a.x) (p.y - a.y) (b.x - a.x) (b.y - a.y)).natAbs < W512 := wtwo (by
    have := abs_mul_le h3 h3
    omega)
  unfold squareR squareA squareB sR
  rw [partN_at ha hb hp, partD_at ha hb, show (byS (atP a)).z = 1 from by1 _ _, show (byS (atP b)).z = 1 from by1 _ _, toW_at ha hp, toW_at hb hp, btwW_at ha hb, dotW_at (by omega) (by omega) (by omega) (by omega), dotW_at (by omega) (by omega) (by omega) (by omega), dotW_at (by omega) (by omega) (by omega) (by omega), crossW_at (by omega) (by omega) (by omega) (by omega)]
  generalize dotI (p.x - a.x) (p.y - a.y) (b.x - a.x) (b.y - a.y) = n at *
  generalize dotI (b.x - a.x) (b.y - a.y) (b.x - a.x) (b.y - a.y) = d at *
  generalize crossI (p.x - a.x) (p.y - a.y) (b.x - a.x) (b.y - a.y) = x at *
  rw [sz_ (z := n) (by omega), sz_ (z := d) (by omega), sz_ (z := x) (by omega), res_fit h4, Int.mul_one, rz_ (by decide), Int.one_mul, rs_ (z := d) (by omega), rs_ (z := 1) (by decide)]
end
/-- What is reckoned of numbers that are not great is short. -/
theorem ofR_len {a b : Sg} {m : Nat} (ha : a.mag.n < 2 ^ m) (hb : b.mag.n < 2 ^ m) : bitLen (ofR a b).num.mag.n ≤ m ∧ bitLen (ofR a b).den.n ≤ m := by
  unfold ofR
  split
  · have h0 : (W 0).n < 2 ^ m := by
      rw [W_n W512_pos]
      exact Nat.two_pow_pos m
    exact ⟨bitLen_le_ h0, bitLen_le_ h0⟩
  · unfold lowR
    refine ⟨bitLen_le_ ?_, bitLen_le_ ?_⟩
    · refine Nat.lt_of_le_of_lt ?_ ha
      have e : (⟨(sidS a b).neg, qW (sidS a b).mag (gcdW (sidS a b).mag b.mag)⟩ : Sg).z.natAbs = (qW (sidS a b).mag (gcdW (sidS a b).mag b.mag)).n := by
        unfold Sg.z
        split <;> simp
      show (sgn _).mag.n ≤ a.mag.n
      unfold sgn
      dsimp only
      rw [e, W_n (Wd.lt _), qWn]
      exact Nat.div_le_self _ _
    · refine Nat.lt_of_le_of_lt ?_ hb
      show (qW b.mag _).n ≤ b.mag.n
      rw [qWn]
      exact Nat.div_le_self _ _
/-- Points that are turned. -/
def turnP (m : Int) (p : Pt) : Pt := if m = 1 then ⟨-p.y, p.x⟩ else if m = 2 then ⟨-p.x, -p.y⟩ else if m = 3 then ⟨p.y, -p.x⟩ else p
theorem turn_in {m : Int} {p : Pt} (h : inP p) : inP (turnP m p) := by
  obtain ⟨⟨h1, h2⟩, h3, h4⟩ := id h
  unfold turnP
  split
  · exact ⟨⟨by dsimp only; omega, by dsimp only; omega⟩, by dsimp only; omega, by dsimp only; omega⟩
  split
  · exact ⟨⟨by dsimp only; omega, by dsimp only; omega⟩, by dsimp only; omega, by dsimp only; omega⟩
  split
  · exact ⟨⟨by dsimp only; omega, by dsimp only; omega⟩, by dsimp only; omega, by dsimp only; omega⟩
  · exact h
theorem turn_ne {m : Int} {p q : Pt} (h : p ≠ q) : turnP m p ≠ turnP m q := fun e => h (by
  obtain ⟨px, py⟩ := p
  obtain ⟨qx, qy⟩ := q
  unfold turnP at e
  dsimp only at e
  have key : px = qx ∧ py = qy := by
    split at e
    · injection e with e1 e2; omega
    split at e
    · injection e with e1 e2; omega
    split at e
    · injection e with e1 e2; omega
    · injection e with e1 e2; omega
  rw [key.1, key.2])
theorem sub_neg_ (a b : Int) : -a - -b = -(a - b) := by omega
theorem turn_dot (m : Int) (p q s t : Pt) : dotI ((turnP m p).x - (turnP m q).x) ((turnP m p).y - (turnP m q).y) ((turnP m s).x - (turnP m t).x) ((turnP m s).y - (turnP m t).y) = dotI (p.x - q.x) (p.y - q.y) (s.x - t.x) (s.y - t.y) := by
  unfold turnP
  split
  · dsimp only
    rw [sub_neg_, sub_neg_, dotI_turn]
  split
  · dsimp only
    rw [sub_neg_, sub_neg_, sub_neg_, sub_neg_, dotI_neg]
  split
  · dsimp only
    rw [sub_neg_, sub_neg_, dotI_back]
  · rfl
theorem turn_cross (m : Int) (p q s t : Pt) : crossI ((turnP m p).x - (turnP m q).x) ((turnP m p).y - (turnP m q).y) ((turnP m s).x - (turnP m t).x) ((turnP m s).y - (turnP m t).y) = crossI (p.x - q.x) (p.y - q.y) (s.x - t.x) (s.y - t.y) := by
  unfold turnP
  split
  · dsimp only
    rw [sub_neg_, sub_neg_, crossI_turn]
  split
  · dsimp only
    rw [sub_neg_, sub_neg_, sub_neg_, sub_neg_, crossI_neg]
  split
  · dsimp only
    rw [sub_neg_, sub_neg_, crossI_back]
  · rfl
theorem near_at {a : Pt} (ha : inP a) : nearS (atP a) = true := by
  obtain ⟨⟨a1, a2⟩, a3, a4⟩ := ha
  have key : ∀ z : Int, z.natAbs ≤ 536870912 → (((bitLen (sgn z).mag.n : Nat) : Int) ≤ 92) := fun z hz => by
    rw [sgm (by omega)]
    have := bitLen_le_ (x := z.natAbs) (m := 30) (by omega)
    omega
  have h3 : ((bitLen (atP a).w.n : Nat) : Int) ≤ 62 := by
    show ((bitLen (W 1).n : Nat) : Int) ≤ 62
    rw [wlx (by decide)]
    have := bitLen_le_ (x := 1) (m := 30) (by decide)
    omega
  unfold nearS
  rw [decide_eq_true (show ((bitLen (atP a).x.mag.n : Nat) : Int) ≤ 92 from key a.x (by omega)), decide_eq_true (show ((bitLen (atP a).y.mag.n : Nat) : Int) ≤ 92 from key a.y (by omega)), decide_eq_true h3, Bool.true_and, Bool.true_and, Bool.true_and]
  exact mayS_at (by unfold In64; omega) (by unfold In64; omega)
theorem atP_ne {a b : Pt} (ha : inP a) (hb : inP b) (h : a ≠ b) : atP a ≠ atP b := fun e => h (by
  obtain ⟨⟨a1, a2⟩, a3, a4⟩ := ha
  obtain ⟨⟨b1, b2⟩, b3, b4⟩ := hb
  have e1 : (sgn a.x).z = (sgn b.x).z := congrArg (fun s : Sp => s.x.z) e
  have e2 : (sgn a.y).z = (sgn b.y).z := congrArg (fun s : Sp => s.y.z) e
  rw [sz_ (by omega), sz_ (by omega)] at e1 e2
  obtain ⟨ax, ay⟩ := a
  obtain ⟨bx, by_⟩ := b
  dsimp only at e1 e2
  rw [e1, e2])
theorem line_at {a b p : Pt} (ha : inP a) (hb : inP b) (hp : inP p) (h : a ≠ b) : lineB (atP a) (atP b) p = true := by
  unfold lineB
  rw [near_at ha, near_at hb, ptB_t hp, decide_eq_false (atP_ne ha hb h)]
  rfl
theorem mag_lt {z : Int} {m : Nat} (h : z.natAbs < 2 ^ m) (hm : z.natAbs < W512) : (sgn z).mag.n < 2 ^ m := by
  rw [sgn_mag hm]
  exact h
section
variable {a b p : Pt} (ha : inP a) (hb : inP b) (hp : inP p)
include ha hb hp
theorem short_at : shortB (squareR (atP a) (atP b) p) = true := by
  rw [squareR_at ha hb hp]
  obtain ⟨⟨a1, a2⟩, a3, a4⟩ := id ha
  obtain ⟨⟨b1, b2⟩, b3, b4⟩ := id hb
  obtain ⟨⟨p1, p2⟩, p3, p4⟩ := id hp
  have h2 := dotI_abs (a := b.x - a.x) (b := b.y - a.y) (c := b.x - a.x) (d := b.y - a.y) (n := 1073741824) (by omega) (by omega) (by omega) (by omega)
  have h3 := crossI_abs (a := p.x - a.x) (b := p.y - a.y) (c := b.x - a.x) (d := b.y - a.y) (n := 1073741824) (by omega) (by omega) (by omega) (by omega)
  have h4 := dotI_abs (a := p.x - a.x) (b := p.y - a.y) (c := p.x - a.x) (d := p.y - a.y) (n := 1073741824) (by omega) (by omega) (by omega) (by omega)
  have h5 := dotI_abs (a := p.x - b.x) (b := p.y - b.y) (c := p.x - b.x) (d := p.y - b.y) (n := 1073741824) (by omega) (by omega) (by omega) (by omega)
  have h6 := abs_mul_le h3 h3
  have key : ∀ u v : Int, u.natAbs < 340282366920938463463374607431768211456 → v.natAbs < 340282366920938463463374607431768211456 → shortB (ofR (sgn u) (sgn v)) = true := fun u v hu hv => by
    obtain ⟨g1, g2⟩ := ofR_len (a := sgn u) (b := sgn v) (m := 128) (mag_lt hu (wtwo hu)) (mag_lt hv (wtwo hv))
    unfold shortB
    rw [decide_eq_true (by omega), decide_eq_true (by omega)]
    rfl
  unfold sR
  split
  · exact key _ _ (by omega) (by omega)
  split
  · exact key _ _ (by omega) (by omega)
  · exact key _ _ (by omega) (by omega)
theorem squareE_at (h : a ≠ b) : squareE (atP a) (atP b) p = 0 := by
  unfold squareE
  rw [line_at ha hb hp h, if_pos rfl, short_at ha hb hp, if_pos rfl]
omit hp in
theorem fpartE_at (h : a ≠ b) : fpartE (atP a) (atP b) p = 0 := by
  obtain ⟨⟨a1, a2⟩, a3, a4⟩ := id ha
  obtain ⟨⟨b1, b2⟩, b3, b4⟩ := id hb
  have h2 := dotI_abs (a := b.x - a.x) (b := b.y - a.y) (c := b.x - a.x) (d := b.y - a.y) (n := 1073741824) (by omega) (by omega) (by omega) (by omega)
  have h3 : 0 < dotI (b.x - a.x) (b.y - a.y) (b.x - a.x) (b.y - a.y) := dotI_pos (by
    by_cases g : b.x - a.x = 0
    · refine .inr fun g2 => h ?_
      obtain ⟨ax, ay⟩ := a
      obtain ⟨bx, by_⟩ := b
      dsimp only at g g2
      rw [show ax = bx by omega, show ay = by_ by omega]
    · exact .inl g)
  unfold fpartE
  split
  · rfl
  split
  · rfl
  · rw [partD_at ha hb]
    unfold eW
    rw [if_neg]
    rw [sgn_mag (wsmall (by omega))]
    omega
theorem square_turn (m : Int) : squareR (atP (turnP m a)) (atP (turnP m b)) (turnP m p) = squareR (atP a) (atP b) p := by
  rw [squareR_at ha hb hp, squareR_at (turn_in ha) (turn_in hb) (turn_in hp)]
  rw [turn_dot, turn_dot, turn_dot, turn_dot, turn_cross]
theorem part_turn (m : Int) : partR (atP (turnP m a)) (atP (turnP m b)) (turnP m p) = partR (atP a) (atP b) p := by
  rw [partR_at ha hb hp, partR_at (turn_in ha) (turn_in hb) (turn_in hp)]
  rw [turn_dot, turn_dot]
end
end Go.Proofs.YtebgjcginmgoaaaGreat
