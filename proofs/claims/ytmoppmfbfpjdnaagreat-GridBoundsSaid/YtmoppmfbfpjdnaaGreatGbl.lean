/- Squares and boxes of near nets. Plain. grid.lay: an edge is laid into all squares that its box touches. grid.Of: the grid of any near net; which squares hold each edge. -/
import Derived.Test.YtmoppmfbfpjdnaaGreatGrd
namespace Go.Proofs.YtmoppmfbfpjdnaaGreat
open Go.RowKit
open R (In64 InU64 lo64 nth)

theorem sq_mono {a b : Int} (h0 : 0 ≤ a) (h : a ≤ b ∨ a ≤ -b) : a * a ≤ b * b := by
  rcases h with h | h
  · exact Int.mul_le_mul h h h0 (by omega)
  · have := Int.mul_le_mul h h h0 (by omega)
    rwa [Int.neg_mul_neg] at this
theorem gap_sq {p X Y W Q : Int} (hW : 0 < W) (h1 : X * W ≤ Q) (h2 : Q ≤ Y * W) : gapV p X Y * W * (gapV p X Y * W) ≤ (p * W - Q) * (p * W - Q) := by
  have hg : 0 ≤ gapV p X Y := by unfold gapV; omega
  have h0 : 0 ≤ gapV p X Y * W := Int.mul_nonneg hg (by omega)
  rcases Int.lt_or_le p X with c | c
  · refine sq_mono h0 (.inr ?_)
    have hle : gapV p X Y ≤ X - p ∨ gapV p X Y ≤ p - Y := by unfold gapV; omega
    rcases Int.lt_or_le Y p with d | d
    · have : Y * W ≤ X * W := Int.mul_le_mul_of_nonneg_right (by omega) (by omega)
      have hxy : Y * W < X * W := Int.mul_lt_mul_of_pos_right (by omega) hW
      omega
    · have hle : gapV p X Y ≤ X - p := by unfold gapV; omega
      have := Int.mul_le_mul_of_nonneg_right hle (Int.le_of_lt hW)
      rw [Int.sub_mul] at this
      omega
  · rcases Int.lt_or_le Y p with d | d
    · refine sq_mono h0 (.inl ?_)
      have hle : gapV p X Y ≤ p - Y := by unfold gapV; omega
      have := Int.mul_le_mul_of_nonneg_right hle (Int.le_of_lt hW)
      rw [Int.sub_mul] at this
      omega
    · have hz : gapV p X Y = 0 := by unfold gapV; omega
      rw [hz, Int.zero_mul, Int.zero_mul]
      rcases Int.le_total 0 (p * W - Q) with h | h
      · exact Int.mul_nonneg h h
      · exact Int.mul_nonneg_of_nonpos_of_nonpos h h
theorem cell_at {lo S W Q L H m : Int} (hS : 1 ≤ S) (hW : 0 < W) (hm : 1 ≤ m) (hL : lo ≤ L) (hLH : L ≤ H) (hH : H ≤ lo + S * m) (h1 : L * W ≤ Q) (h2 : Q ≤ H * W) : ∃ c, firstV (L - lo) S ≤ c ∧ c ≤ lastV (H - lo) S m ∧ (lo + c * S) * W ≤ Q ∧ Q ≤ (lo + c * S + S) * W := by
  have hSW : 0 < S * W := Int.mul_pos (by omega) hW
  obtain ⟨f, hf⟩ : ∃ f, (Q - lo * W) / (S * W) = f := ⟨_, rfl⟩
  have q0 : 0 ≤ Q - lo * W := by
    have := Int.mul_le_mul_of_nonneg_right hL (Int.le_of_lt hW)
    omega
  have f0 : 0 ≤ f := by rw [← hf]; exact Int.ediv_nonneg q0 (by omega)
  have f1 : f * (S * W) ≤ Q - lo * W := by rw [← hf]; exact Int.ediv_mul_le _ (by omega)
  have f2 : Q - lo * W < (f + 1) * (S * W) := by rw [← hf]; exact Int.lt_ediv_add_one_mul_self _ hSW
  -- the far end
  obtain ⟨h, hh⟩ : ∃ h, (H - lo) / S = h := ⟨_, rfl⟩
  have h3 : h * S ≤ H - lo := by rw [← hh]; exact Int.ediv_mul_le _ (by omega)
  have h4 : H - lo < (h + 1) * S := by rw [← hh]; exact Int.lt_ediv_add_one_mul_self _ (by omega)
  have fh : f ≤ h := by
    rcases Int.lt_or_le h f with c | c
    · have a1 : (h + 1) * (S * W) ≤ f * (S * W) := Int.mul_le_mul_of_nonneg_right (by omega) (by omega)
      have a2 := Int.mul_lt_mul_of_pos_right h4 hW
      have e1 : (h + 1) * S * W = (h + 1) * (S * W) := by rw [Int.mul_assoc]
      rw [Int.sub_mul, e1] at a2
      omega
    · exact c
  -- the near end
  obtain ⟨g, hg⟩ : ∃ g, (L - lo + S - 1) / S = g := ⟨_, rfl⟩
  have g3 : g * S ≤ L - lo + S - 1 := by rw [← hg]; exact Int.ediv_mul_le _ (by omega)
  have e2 : (g - 1) * S = g * S - S := by rw [Int.sub_mul, Int.one_mul]
  have gm : g - 1 ≤ m - 1 := by
    rcases Int.lt_or_le (m - 1) (g - 1) with c | c
    · have a1 := Int.mul_le_mul_of_nonneg_right (a := m) (b := g - 1) (c := S) (by omega) (by omega)
      rw [Int.mul_comm m S] at a1
      omega
    · exact c
  have gf : g - 1 ≤ f := by
    rcases Int.lt_or_le f (g - 1) with c | c
    · have a1 := Int.mul_le_mul_of_nonneg_right (a := f + 1) (b := g - 1) (c := S * W) (by omega) (by omega)
      have a2 := Int.mul_le_mul_of_nonneg_right (a := (g - 1) * S) (b := L - lo) (c := W) (by omega) (by omega)
      have e3 : (g - 1) * S * W = (g - 1) * (S * W) := by rw [Int.mul_assoc]
      have e4 : (L - lo) * W = L * W - lo * W := Int.sub_mul _ _ _
      rw [e3] at a2
      omega
    · exact c
  have k1 : ∀ k : Int, (lo + k * S) * W = lo * W + k * (S * W) := fun k => by rw [Int.add_mul, Int.mul_assoc]
  have k2 : ∀ k : Int, (lo + k * S + S) * W = lo * W + (k + 1) * (S * W) := fun k => by rw [Int.add_mul, k1, Int.add_mul k 1 (S * W), Int.one_mul]; omega
  unfold firstV lastV
  rw [hh, hg]
  rcases Int.le_total f (m - 1) with c | c
  · refine ⟨f, by omega, by omega, ?_, ?_⟩
    · rw [k1]; omega
    · rw [k2]; omega
  · refine ⟨m - 1, by omega, by omega, ?_, ?_⟩
    · have := Int.mul_le_mul_of_nonneg_right c (Int.le_of_lt hSW)
      rw [k1]
      omega
    · have a1 := Int.mul_le_mul_of_nonneg_right hH (Int.le_of_lt hW)
      have e3 : (lo + S * m) * W = lo * W + m * (S * W) := by rw [Int.add_mul, Int.mul_comm S m, Int.mul_assoc]
      rw [k2, show m - 1 + 1 = m by omega]
      omega

theorem cancel_le {a b c : Int} (hc : 0 < c) (h : a * c ≤ b * c) : a ≤ b := Int.le_of_mul_le_mul_right h hc
theorem flr_pos {z : Int} {n : Nat} (hn : 0 < n) : flrZ z (n : Int) * (n : Int) ≤ z ∧ z < (flrZ z (n : Int) + 1) * (n : Int) ∧ (flrZ z (n : Int)).natAbs ≤ z.natAbs := by
  have h1 := Nat.div_add_mod z.natAbs n
  have h2 := Nat.mod_lt z.natAbs hn
  have h3 := Nat.div_le_self z.natAbs n
  unfold flrZ
  rw [Int.natAbs_natCast]
  generalize hq : z.natAbs / n = q at *
  generalize hr : z.natAbs % n = r at *
  have hmul : ((n * q : Nat) : Int) = (q : Int) * (n : Int) := by rw [Int.natCast_mul, Int.mul_comm]
  by_cases hz : z < 0
  · rw [if_neg (by omega)]
    by_cases hr0 : r = 0
    · rw [if_pos hr0]
      refine ⟨?_, ?_, by omega⟩
      · rw [Int.neg_mul]; omega
      · rw [Int.add_mul, Int.neg_mul, Int.one_mul]; omega
    · rw [if_neg hr0]
      have hq1 : q + 1 ≤ z.natAbs := by
        rcases Nat.lt_or_ge 1 n with c | c
        · have : z.natAbs / n < z.natAbs := Nat.div_lt_self (by omega) c
          omega
        · have : n = 1 := by omega
          subst this
          omega
      refine ⟨?_, ?_, by omega⟩
      · rw [Int.neg_mul, Int.add_mul, Int.one_mul]; omega
      · rw [show -((q : Int) + 1) + 1 = -(q : Int) by omega, Int.neg_mul]; omega
  · rw [if_pos (by omega)]
    refine ⟨by omega, ?_, by omega⟩
    rw [Int.add_mul, Int.one_mul]
    omega
theorem ov_z {s : Sg} {b : Wd} (hb : b.n ≠ 0) : (ovS s ⟨false, b⟩).z = flrZ s.z (b.n : Int) := by
  obtain ⟨_, _, h3⟩ := flr_pos (z := s.z) (n := b.n) (by omega)
  have e : (⟨false, b⟩ : Sg).z = (b.n : Int) := rfl
  unfold ovS
  rw [if_neg hb, e, sgn_z (Nat.lt_of_le_of_lt h3 s.z_lt)]
theorem dn_spec {s : Sg} {b : Wd} (h : dnP s b) : 0 < b.n ∧ dnN s b * (b.n : Int) ≤ s.z ∧ s.z < (dnN s b + 1) * (b.n : Int) ∧ -1073741824 ≤ dnN s b ∧ dnN s b ≤ 1073741824 := by
  obtain ⟨h0, h1, h2⟩ := h
  obtain ⟨f1, f2, _⟩ := flr_pos (z := s.z) (n := b.n) (by omega)
  have e := ov_z (s := s) h0
  have e2 : dnN s b = flrZ s.z (b.n : Int) := by
    unfold dnN smZ
    rw [if_pos (by omega), e]
  rw [e2]
  rw [e] at h1 h2
  exact ⟨by omega, f1, f2, h1, h2⟩
theorem up_spec {s : Sg} {b : Wd} (h : upP s b) : s.z ≤ upN s b * (b.n : Int) ∧ -1073741824 ≤ upN s b ∧ upN s b ≤ 1073741824 := by
  obtain ⟨h0, h1, h2, h3, h4⟩ := dn_spec h
  have e : (sgn (-s.z)).z = -s.z := sgn_z (by rw [Int.natAbs_neg]; exact s.z_lt)
  rw [e] at h1
  have e2 : upN s b = -(dnN (sgn (-s.z)) b) := by
    unfold upN
    rw [R.wrap_i64 (by unfold In64; omega)]
  rw [e2, Int.neg_mul]
  omega
/-- What is known of a near spot's corners. -/
theorem corner_spec {x : Sp} (h : nearP x) : 0 < x.w.n ∧ ((lowQ x).x * (x.w.n : Int) ≤ x.x.z ∧ x.x.z ≤ (highQ x).x * (x.w.n : Int)) ∧ ((lowQ x).y * (x.w.n : Int) ≤ x.y.z ∧ x.y.z ≤ (highQ x).y * (x.w.n : Int)) ∧
    ((lowQ x).x ≤ (highQ x).x ∧ (lowQ x).y ≤ (highQ x).y) ∧ (-1073741824 ≤ (lowQ x).x ∧ (highQ x).x ≤ 1073741824) ∧ -1073741824 ≤ (lowQ x).y ∧ (highQ x).y ≤ 1073741824 := by
  obtain ⟨h1, h2, h3, h4⟩ := h
  obtain ⟨w0, a1, a2, a3, a4⟩ := dn_spec h1
  obtain ⟨_, b1, b2, b3, b4⟩ := dn_spec h2
  obtain ⟨c1, c2, c3⟩ := up_spec h3
  obtain ⟨d1, d2, d3⟩ := up_spec h4
  have hw : (0 : Int) < (x.w.n : Int) := by omega
  exact ⟨w0, ⟨a1, c1⟩, ⟨b1, d1⟩, ⟨Int.le_of_mul_le_mul_right (Int.le_trans a1 c1) hw, Int.le_of_mul_le_mul_right (Int.le_trans b1 d1) hw⟩, ⟨a3, c3⟩, b3, d3⟩
theorem box_spec {x : Nt} {e : Nat} (hA : nearP (nodeA x e)) (hB : nearP (nodeB x e)) :
    ((boxQ x e).a.x ≤ (boxQ x e).b.x ∧ (boxQ x e).a.y ≤ (boxQ x e).b.y) ∧ (-1073741824 ≤ (boxQ x e).a.x ∧ (boxQ x e).b.x ≤ 1073741824) ∧ (-1073741824 ≤ (boxQ x e).a.y ∧ (boxQ x e).b.y ≤ 1073741824) ∧
    (∀ s, s = nodeA x e ∨ s = nodeB x e → ((boxQ x e).a.x * (s.w.n : Int) ≤ s.x.z ∧ s.x.z ≤ (boxQ x e).b.x * (s.w.n : Int)) ∧ (boxQ x e).a.y * (s.w.n : Int) ≤ s.y.z ∧ s.y.z ≤ (boxQ x e).b.y * (s.w.n : Int)) := by
  have hC := corner_spec hA
  have hC2 := corner_spec hB
  unfold boxQ leastQ mostQ
  dsimp only
  generalize nodeA x e = s at *
  generalize nodeB x e = t at *
  obtain ⟨s0, ⟨s1, s2⟩, ⟨s3, s4⟩, ⟨s5, s6⟩, ⟨s7, s8⟩, s9, s10⟩ := hC
  obtain ⟨t0, ⟨t1, t2⟩, ⟨t3, t4⟩, ⟨t5, t6⟩, ⟨t7, t8⟩, t9, t10⟩ := hC2
  have key : ∀ (L M n z : Int), M ≤ L → 0 ≤ n → L * n ≤ z → M * n ≤ z := fun L M n z h h0 h1 => Int.le_trans (Int.mul_le_mul_of_nonneg_right h h0) h1
  have keyu : ∀ (H M n z : Int), H ≤ M → 0 ≤ n → z ≤ H * n → z ≤ M * n := fun H M n z h h0 h1 => Int.le_trans h1 (Int.mul_le_mul_of_nonneg_right h h0)
  refine ⟨⟨by omega, by omega⟩, ⟨by omega, by omega⟩, ⟨by omega, by omega⟩, fun u hu => ?_⟩
  rcases hu with rfl | rfl
  · exact ⟨⟨key _ _ _ _ (by omega) (by omega) s1, keyu _ _ _ _ (by omega) (by omega) s2⟩, key _ _ _ _ (by omega) (by omega) s3, keyu _ _ _ _ (by omega) (by omega) s4⟩
  · exact ⟨⟨key _ _ _ _ (by omega) (by omega) t1, keyu _ _ _ _ (by omega) (by omega) t2⟩, key _ _ _ _ (by omega) (by omega) t3, keyu _ _ _ _ (by omega) (by omega) t4⟩
end Go.Proofs.YtmoppmfbfpjdnaaGreat
namespace Go.Proofs.YtmoppmfbfpjdnaaGreat
open Go.RowKit
open R (In64 InU64 lo64 nth)

section
variable {T : Type} {e : TypeId} {sz : Nat} {enc : T → List Value} {F : List Nat} {W0 w : World} {l : List R.Res} {M : List (R.Sl T)} {j : Nat}
/-- Rows whose slices are M. -/
def nst1 (e : TypeId) (sz : Nat) (enc : T → List Value) (x : R.Sl T) : R.Res := .row x.A x.n x.c e sz (x.L.flatMap enc)
def nst (e : TypeId) (sz : Nat) (enc : T → List Value) (M : List (R.Sl T)) : List R.Res := M.map (nst1 e sz enc)
theorem nst_app (M N : List (R.Sl T)) : nst e sz enc (M ++ N) = nst e sz enc M ++ nst e sz enc N := List.map_append
theorem split_at (hj : j < M.length) : M = M.take j ++ nth M j :: M.drop (j + 1) := by
  rw [R.nth_eq hj, List.getElem_cons_drop, List.take_append_drop]
theorem nst_pick (hj : j < M.length) : (nst e sz enc M).Perm (nst1 e sz enc (nth M j) :: (nst e sz enc (M.take j) ++ nst e sz enc (M.drop (j + 1)))) := by
  conv => lhs; rw [split_at hj, nst_app]
  exact List.perm_middle
theorem nst_set (hj : j < M.length) (x : R.Sl T) : (nst e sz enc (M.set j x)).Perm (nst1 e sz enc x :: (nst e sz enc (M.take j) ++ nst e sz enc (M.drop (j + 1)))) := by
  rw [List.set_eq_take_append_cons_drop, if_pos hj, nst_app]
  exact List.perm_middle
theorem own_nils (hM : R.Own F W0 w l) (e : TypeId) (sz : Nat) (enc : T → List Value) : ∀ n : Nat, R.Own F W0 w (nst e sz enc (List.replicate n (default : R.Sl T)) ++ l)
  | 0 => hM
  | n + 1 => by
    rw [List.replicate_succ]
    exact R.Own.nil (own_nils hM e sz enc n) e sz
theorem nst_focus {pre : List R.Res} (hM : R.Own F W0 w (pre ++ nst e sz enc M)) (hj : j < M.length) : R.Own F W0 w (nst1 e sz enc (nth M j) :: (pre ++ (nst e sz enc (M.take j) ++ nst e sz enc (M.drop (j + 1))))) :=
  hM.perm (List.perm_middle.symm.trans (List.Perm.append_left pre (nst_pick hj).symm))
theorem nst_back {pre : List R.Res} {x : R.Sl T} (hM : R.Own F W0 w (nst1 e sz enc x :: (pre ++ (nst e sz enc (M.take j) ++ nst e sz enc (M.drop (j + 1)))))) (hj : j < M.length) : R.Own F W0 w (pre ++ nst e sz enc (M.set j x)) :=
  hM.perm ((List.Perm.append_left pre (nst_set hj x)).trans List.perm_middle)
theorem nst_mem (hj : j < M.length) : nst1 e sz enc (nth M j) ∈ nst e sz enc M := List.mem_map.2 ⟨_, R.nth_mem hj, rfl⟩
end
theorem nth_setM {Ms : List (R.Sl Int)} {j i : Nat} {z : R.Sl Int} (hj : j < Ms.length) : nth (Ms.set j z) i = if j = i then z else nth Ms i := by
  unfold R.nth
  rw [List.getD_eq_getElem?_getD, List.getD_eq_getElem?_getD, List.getElem?_set]
  by_cases h : j = i
  · subst h
    rw [if_pos rfl, if_pos rfl, if_pos hj]
    rfl
  · rw [if_neg h, if_neg h]
def layL (gC gb N : Nat) (lx ly S m : Int) (Ms : List (R.Sl Int)) : List R.Res := .row (some ⟨gC, 0, none⟩) N N 40 1 (Ms.flatMap R.cSl) :: .blk gb 36 [.int .i64 lx, .int .i64 ly, .int .i64 S, .int .i64 m, .int .i64 m, .slice (some ⟨gC, 0, none⟩) N N] :: nst 3 1 R.cI Ms
/-- Squares that hold what they held, and an edge where D says. -/
structure LayS (m : Int) (N : Nat) (Ms Ms' : List (R.Sl Int)) (B e : Int) (D : Int → Int → Prop) : Prop where
  len : Ms'.length = N
  bnd : ∀ y ∈ Ms', y.n = y.L.length ∧ ((y.L.length : Nat) : Int) ≤ B
  keep : ∀ i, ∀ v ∈ (nth Ms i).L, v ∈ (nth Ms' i).L
  has : ∀ r c, D r c → e ∈ (nth Ms' (r * m + c).toNat).L
theorem LayS.mono {m : Int} {N : Nat} {Ms Ms' : List (R.Sl Int)} {B B' e : Int} {D D' : Int → Int → Prop} (h : LayS m N Ms Ms' B e D) (hB : B ≤ B') (hD : ∀ r c, D' r c → D r c) : LayS m N Ms Ms' B' e D' :=
  ⟨h.len, fun y hy => ⟨(h.bnd y hy).1, Int.le_trans (h.bnd y hy).2 hB⟩, h.keep, fun r c hrc => h.has r c (hD r c hrc)⟩
theorem LayS.add {m : Int} {N : Nat} {Ms Ms' : List (R.Sl Int)} {B e : Int} {D : Int → Int → Prop} {row col : Int} {A : Option Addr} {c2 : Nat} (h : LayS m N Ms Ms' B e D) (hj : (row * m + col).toNat < N) :
    LayS m N Ms (Ms'.set (row * m + col).toNat ⟨A, (nth Ms' (row * m + col).toNat).n + 1, c2, (nth Ms' (row * m + col).toNat).L ++ [e]⟩) (B + 1) e (fun r c => D r c ∨ r = row ∧ c = col) := by
  have hjl : (row * m + col).toNat < Ms'.length := by rw [h.len]; exact hj
  have hb := h.bnd _ (R.nth_mem hjl)
  refine ⟨by rw [List.length_set, h.len], fun y hy => ?_, fun i v hv => ?_, fun r c hrc => ?_⟩
  · rcases List.mem_or_eq_of_mem_set hy with q | q
    · have := h.bnd y q
      exact ⟨this.1, by omega⟩
    · rw [q]
      dsimp only
      rw [List.length_append, List.length_singleton]
      exact ⟨by omega, by omega⟩
  · have hv2 := h.keep i v hv
    rw [nth_setM hjl]
    split
    · subst_vars
      exact List.mem_append_left _ hv2
    · exact hv2
  · rw [nth_setM hjl]
    split
    · exact List.mem_append_right _ (.head _)
    · rename_i hne
      rcases hrc with q | ⟨q1, q2⟩
      · exact h.has r c q
      · subst q1 q2
        exact absurd rfl hne
/-- The squares of an edge that are laid when row and col come up. -/
def Dn (r0 c0 c1 row col : Int) (r c : Int) : Prop := (r0 ≤ r ∧ r < row ∧ c0 ≤ c ∧ c ≤ c1) ∨ r = row ∧ c0 ≤ c ∧ c < col
set_option maxHeartbeats 8000000 in
theorem lay_any (gb gC N e T : Nat) (lx ly S m : Int) (b : Bq) (Ms : List (R.Sl Int)) (w : World) (hS : 1 ≤ S ∧ S ≤ 2147483648) (hm : 1 ≤ m ∧ m ≤ 64) (hN : ((N : Nat) : Int) = m * m) (hT : T ≤ 1000000)
    (hMs : LayS m N Ms Ms (T : Nat) 0 (fun _ _ => False)) (hx0 : lx ≤ b.a.x) (hx1 : b.a.x ≤ b.b.x) (hx2 : b.b.x ≤ lx + S * m) (hy0 : ly ≤ b.a.y) (hy1 : b.a.y ≤ b.b.y) (hy2 : b.b.y ≤ ly + S * m)
    (hlx : -1073741824 ≤ lx ∧ b.b.x ≤ 1073741824) (hly : -1073741824 ≤ ly ∧ b.b.y ≤ 1073741824) (hR : R.Has w (layL gC gb N lx ly S m Ms)) :
    Calls Tryz.prog 21 #[.pointer (some ⟨gb, 0, none⟩), .int .i64 (e : Nat), .agg (cBq b).toArray] w fun r w' => r = .returned (.tuple #[]) ∧
      ∃ Ms', LayS m N Ms Ms' ((T : Nat) + 5000) (e : Nat) (fun r c => (firstV (b.a.y - ly) S ≤ r ∧ r ≤ lastV (b.b.y - ly) S m) ∧ firstV (b.a.x - lx) S ≤ c ∧ c ≤ lastV (b.b.x - lx) S m) ∧ R.Own (R.keysOf (layL gC gb N lx ly S m Ms)) w w' (layL gC gb N lx ly S m Ms') := by
  have hM := R.Own.startF hR
  obtain ⟨F, hF⟩ : ∃ F, R.keysOf (layL gC gb N lx ly S m Ms) = F := ⟨_, rfl⟩
  rw [hF] at hM ⊢
  clear hF hR
  unfold layL at hM ⊢
  obtain ⟨r0, hr0⟩ : ∃ r0, firstV (b.a.y - ly) S = r0 := ⟨_, rfl⟩
  obtain ⟨r1, hr1⟩ : ∃ r1, lastV (b.b.y - ly) S m = r1 := ⟨_, rfl⟩
  obtain ⟨c0, hc0⟩ : ∃ c0, firstV (b.a.x - lx) S = c0 := ⟨_, rfl⟩
  obtain ⟨c1, hc1⟩ : ∃ c1, lastV (b.b.x - lx) S m = c1 := ⟨_, rfl⟩
  obtain ⟨qr, u1, u2, _⟩ := cell_at (W := 1) (Q := b.a.y) hS.1 (by decide) hm.1 hy0 hy1 hy2 (by omega) (by omega)
  obtain ⟨qc, v1, v2, _⟩ := cell_at (W := 1) (Q := b.a.x) hS.1 (by decide) hm.1 hx0 hx1 hx2 (by omega) (by omega)
  have r00 : 0 ≤ r0 := by rw [← hr0]; unfold firstV; omega
  have c00 : 0 ≤ c0 := by rw [← hc0]; unfold firstV; omega
  have r1m : r1 ≤ m - 1 := by rw [← hr1]; unfold lastV; omega
  have c1m : c1 ≤ m - 1 := by rw [← hc1]; unfold lastV; omega
  rw [hr0] at u1
  rw [hr1] at u2
  rw [hc0] at v1
  rw [hc1] at v2
  rw [hr0, hr1, hc0, hc1]
  have hmm : m * m ≤ 4096 := (mul_bd (a := m) (b := m) (A := 64) (B := 64) (by omega) hm.2 (by omega) hm.2).2
  refine R.calls_of_WC (fn := Tryz.f21) Tryz.func21 rfl Tryz.ntmps21 (Nat.le_of_ble_eq_true rfl) ?_
  (refine R.stepN ?_; (repeat' (first | (with_reducible refine And.intro ?_ ?_) | (with_reducible intro _))); all_goals refine R.Lft.mk ?_)
  rename_i gd _ _ _ _ _ hM
  refine R.WC_loop (fun i : Int × List (R.Sl Int) => [(0, .pointer (some ⟨gb, 0, none⟩)), (1, .int .i64 (e : Nat)), (5, .pointer (some ⟨gd, 0, none⟩)), (6, .int .i64 i.1)])
    (fun i w2 => (r0 ≤ i.1 ∧ i.1 ≤ r1 + 1) ∧ LayS m N Ms i.2 ((T : Nat) + i.1 * m) (e : Nat) (Dn r0 c0 c1 i.1 c0) ∧ R.Own F w w2 (.row (some ⟨gC, 0, none⟩) N N 40 1 (i.2.flatMap R.cSl) :: .blk gd 71 (cBq b) :: .blk gb 36 [.int .i64 lx, .int .i64 ly, .int .i64 S, .int .i64 m, .int .i64 m, .slice (some ⟨gC, 0, none⟩) N N] :: nst 3 1 R.cI i.2)) (fun i => (r1 + 1 - i.1).toNat)
    ⟨(r0, Ms), ⟨rfl, rfl, rfl, R.viaI rfl (by rw [hr0]), trivial⟩, ⟨by dsimp only; omega, ⟨hMs.len, fun y hy => ⟨(hMs.bnd y hy).1, by have := (hMs.bnd y hy).2; have := Int.mul_nonneg (a := r0) (b := m) r00 (by omega); dsimp only; omega⟩, fun _ _ h => h, fun r c h => by unfold Dn at h; dsimp only at h; omega⟩, R.pk (r := .row (some ⟨gC, 0, none⟩) _ _ _ _ _) hM⟩⟩ ?_
  clear hM
  rintro ⟨row, M⟩ f w2 ⟨⟨hw0, hw1⟩, hL, hM⟩
  dsimp only at hw0 hw1 hL hM ⊢
  have hP0 := Int.mul_nonneg (a := row) (b := m) (by omega) (by omega)
  by_cases hlt : row ≤ r1
  · have hP1 := Int.mul_le_mul_of_nonneg_right (a := row + 1) (b := m) (c := m) (by omega) (by omega)
    rw [Int.add_mul, Int.one_mul] at hP1
    (refine R.stepN ?_; (repeat' (first | (with_reducible refine And.intro ?_ ?_) | (with_reducible intro _))); all_goals refine R.Lft.mk ?_)
    refine R.WC_planO [(0, false), (1, false), (2, false), (3, false), (4, false), (5, false), (6, false), (7, false), (8, false), (9, false), (10, false), (11, false), (12, false), (13, false), (14, false), (15, false), (16, false), (17, false), (18, true), (19, false)] R.mixed (by decide +kernel) R.ohm ?_
    (refine R.stepN ?_; (repeat' (first | (with_reducible refine And.intro ?_ ?_) | (with_reducible intro _))); all_goals refine R.Lft.mk ?_)
    rename_i hM
    refine R.WC_loop (fun i : Int × List (R.Sl Int) => [(0, .pointer (some ⟨gb, 0, none⟩)), (1, .int .i64 (e : Nat)), (5, .pointer (some ⟨gd, 0, none⟩)), (6, .int .i64 row), (7, .int .i64 i.1)])
      (fun i w2 => (c0 ≤ i.1 ∧ i.1 ≤ c1 + 1) ∧ LayS m N Ms i.2 ((T : Nat) + row * m + i.1) (e : Nat) (Dn r0 c0 c1 row i.1) ∧ R.Own F w w2 (.row (some ⟨gC, 0, none⟩) N N 40 1 (i.2.flatMap R.cSl) :: .blk gd 71 (cBq b) :: .blk gb 36 [.int .i64 lx, .int .i64 ly, .int .i64 S, .int .i64 m, .int .i64 m, .slice (some ⟨gC, 0, none⟩) N N] :: nst 3 1 R.cI i.2)) (fun i => (c1 + 1 - i.1).toNat)
      ⟨(c0, M), ⟨rfl, rfl, rfl, rfl, R.viaI rfl (by rw [hc0]), trivial⟩, ⟨by dsimp only; omega, hL.mono (by dsimp only; omega) (fun _ _ h => h), hM⟩⟩ ?_
    clear hM hL
    rintro ⟨col, M⟩ f w3 ⟨⟨hv0, hv1⟩, hL, hM⟩
    dsimp only at hv0 hv1 hL hM ⊢
    by_cases hlt2 : col ≤ c1
    · have hj : (row * m + col).toNat < N := by omega
      have hjM : (row * m + col).toNat < M.length := by rw [hL.len]; exact hj
      have hMl := hL.len
      obtain ⟨hxn, hxl⟩ := hL.bnd _ (R.nth_mem hjM)
      have hxb : (nth M (row * m + col).toNat).L.length ≤ 2000000 := by omega
      (refine R.stepN ?_; (repeat' (first | (with_reducible refine And.intro ?_ ?_) | (with_reducible intro _))); all_goals refine R.Lft.mk ?_)
      refine R.WC_planO [(0, false), (1, false), (2, false), (3, false), (4, false), (5, false), (6, false), (7, false), (8, false), (9, false), (10, false), (11, false), (12, false), (13, false), (14, false), (15, false), (16, false), (17, false), (18, true), (19, false)] R.mixed (by decide +kernel) R.ohm ?_
      (refine R.stepN ?_; (repeat' (first | (with_reducible refine And.intro ?_ ?_) | (with_reducible intro _))); all_goals refine R.Lft.mk ?_)
      rename_i hM
      have hM := nst_focus (pre := [_, _, _]) hM (j := (row * m + col).toNat) hjM
      have hM : R.Own F w _ (.row (nth M (row * m + col).toNat).A (nth M (row * m + col).toNat).n (nth M (row * m + col).toNat).c 3 1 ((nth M (row * m + col).toNat).L.flatMap R.cI) :: .row (some ⟨gC, 0, none⟩) N N 40 1 (M.flatMap R.cSl) :: .blk gd 71 (cBq b) :: .blk gb 36 [.int .i64 lx, .int .i64 ly, .int .i64 S, .int .i64 m, .int .i64 m, .slice (some ⟨gC, 0, none⟩) N N] :: (nst 3 1 R.cI (M.take (row * m + col).toNat) ++ nst 3 1 R.cI (M.drop ((row * m + col).toNat + 1)))) := hM
      refine R.WC_planXD1 [(0, false), (1, false), (2, false), (3, false), (4, false), (5, false), (6, false), (7, false), (8, false), (9, false), (10, false), (11, false), (12, false), (13, true), (14, true), (15, false), (16, true)] R.mixed (by decide +kernel) R.ohm ?_
      (refine R.stepN ?_; (repeat' (first | (with_reducible refine And.intro ?_ ?_) | (with_reducible intro _))); all_goals refine R.Lft.mk ?_)
      rename_i A2 d2 _ hM
      refine R.WO_stP (T := R.Sl Int) (enc := R.cSl) (L := M) (z := ⟨A2, (nth M (row * m + col).toNat).n + 1, d2, (nth M (row * m + col).toNat).L ++ [((e : Nat) : Int)]⟩) rfl rfl rfl rfl R.ohm R.upds (by omega) (by decide) rfl (fun w8 hM => ?_)
      have hM : R.Own F w w8 (nst1 3 1 R.cI ⟨A2, (nth M (row * m + col).toNat).n + 1, d2, (nth M (row * m + col).toNat).L ++ [((e : Nat) : Int)]⟩ :: ([.row (some ⟨gC, 0, none⟩) N N 40 1 ((M.set (row * m + col).toNat ⟨A2, (nth M (row * m + col).toNat).n + 1, d2, (nth M (row * m + col).toNat).L ++ [((e : Nat) : Int)]⟩).flatMap R.cSl), .blk gd 71 (cBq b), .blk gb 36 [.int .i64 lx, .int .i64 ly, .int .i64 S, .int .i64 m, .int .i64 m, .slice (some ⟨gC, 0, none⟩) N N]] ++ (nst 3 1 R.cI (M.take (row * m + col).toNat) ++ nst 3 1 R.cI (M.drop ((row * m + col).toNat + 1))))) := R.ohm
      have hM := nst_back hM hjM
      have hL2 := hL.add (A := A2) (c2 := d2) (row := row) (col := col) hj
      (refine R.stepN ?_; (repeat' (first | (with_reducible refine And.intro ?_ ?_) | (with_reducible intro _))); all_goals refine R.Lft.mk ?_)
      rename_i hM
      exact ⟨(col + 1, M.set (row * m + col).toNat ⟨A2, (nth M (row * m + col).toNat).n + 1, d2, (nth M (row * m + col).toNat).L ++ [((e : Nat) : Int)]⟩), ⟨rfl, rfl, rfl, rfl, R.viaI rfl rfl, trivial⟩, ⟨by dsimp only; omega, hL2.mono (by dsimp only; omega) (fun r c h => by unfold Dn at h ⊢; dsimp only at h; omega), hM⟩, by dsimp only; omega⟩
    · obtain rfl : col = c1 + 1 := by omega
      (refine R.stepN ?_; (repeat' (first | (with_reducible refine And.intro ?_ ?_) | (with_reducible intro _))); all_goals refine R.Lft.mk ?_)
      refine R.WC_planO [(0, false), (1, false), (2, false), (3, false), (4, false), (5, false), (6, false), (7, false), (8, false), (9, false), (10, false), (11, false), (12, false), (13, false), (14, false), (15, false), (16, false), (17, false), (18, true), (19, false)] R.mixed (by decide +kernel) R.ohm ?_
      (refine R.stepN ?_; (repeat' (first | (with_reducible refine And.intro ?_ ?_) | (with_reducible intro _))); all_goals refine R.Lft.mk ?_)
      rename_i hM
      exact ⟨(row + 1, M), ⟨rfl, rfl, rfl, R.viaI rfl rfl, trivial⟩, ⟨by dsimp only; omega, hL.mono (by dsimp only; rw [Int.add_mul, Int.one_mul]; omega) (fun r c h => by unfold Dn at h ⊢; dsimp only at h; omega), hM⟩, by dsimp only; omega⟩
  · obtain rfl : row = r1 + 1 := by omega
    have hP1 := mul_bd (a := r1 + 1) (b := m) (A := 64) (B := 64) (by omega) (by omega) (by omega) hm.2
    (refine R.stepN ?_; (repeat' (first | (with_reducible refine And.intro ?_ ?_) | (with_reducible intro _))); all_goals refine R.Lft.mk ?_)
    refine R.WC_planO [(0, false), (1, false), (2, false), (3, false), (4, false), (5, false), (6, false), (7, false), (8, false), (9, false), (10, false), (11, false), (12, false), (13, false), (14, false), (15, false), (16, false), (17, false), (18, true), (19, false)] R.mixed (by decide +kernel) R.ohm ?_
    (refine R.stepN ?_; (repeat' (first | (with_reducible refine And.intro ?_ ?_) | (with_reducible intro _))); all_goals refine R.Lft.mk ?_)
    rename_i hM
    exact ⟨rfl, M, hL.mono (by omega) (fun r c h => by unfold Dn; omega), R.dr (.blk gd _ _) hM⟩
end Go.Proofs.YtmoppmfbfpjdnaaGreat
namespace Go.Proofs.YtmoppmfbfpjdnaaGreat
open Go.RowKit
open R (In64 InU64 lo64 nth)

theorem near_all {x : Nt} (h : nearN x = true) : x.e.n ≤ 2000 ∧ netB x = true ∧ ∀ s ∈ x.s.L, nearP s := by
  unfold nearN at h
  rw [Bool.and_eq_true, Bool.and_eq_true, Bool.not_eq_true', decide_eq_true_eq, List.any_eq_false] at h
  refine ⟨h.1, h.2.1, fun s hs => ?_⟩
  have := h.2.2 s hs
  simpa using this
theorem near_nodes {x : Nt} {k : Nat} (hs : x.s.n = x.s.L.length) (h : nearN x = true) (hk : k < x.e.n) : nearP (nodeA x k) ∧ nearP (nodeB x k) := by
  obtain ⟨_, hb, hall⟩ := near_all h
  obtain ⟨h1, h2, h3⟩ := gedge hb hk
  exact ⟨hall _ (R.nth_mem (by omega)), hall _ (R.nth_mem (by omega))⟩
/-- The box of the first edges (of the first one, where there is none). -/
def allB (x : Nt) : Nat → Bq
  | 0 => boxQ x 0
  | k + 1 => ⟨leastQ (allB x k).a (boxQ x k).a, mostQ (allB x k).b (boxQ x k).b⟩
def BoxIn (b c : Bq) : Prop := (c.a.x ≤ b.a.x ∧ b.b.x ≤ c.b.x) ∧ c.a.y ≤ b.a.y ∧ b.b.y ≤ c.b.y
def BoxOk (b : Bq) : Prop := (b.a.x ≤ b.b.x ∧ b.a.y ≤ b.b.y) ∧ (-1073741824 ≤ b.a.x ∧ b.b.x ≤ 1073741824) ∧ -1073741824 ≤ b.a.y ∧ b.b.y ≤ 1073741824
theorem box_ok {x : Nt} {k : Nat} (hs : x.s.n = x.s.L.length) (h : nearN x = true) (hk : k < x.e.n) : BoxOk (boxQ x k) := by
  obtain ⟨h1, h2⟩ := near_nodes hs h hk
  obtain ⟨b1, b2, b3, _⟩ := box_spec h1 h2
  exact ⟨b1, b2, b3⟩
theorem allB_ok {x : Nt} (hs : x.s.n = x.s.L.length) (h : nearN x = true) (h0 : 0 < x.e.n) : ∀ k, k ≤ x.e.n → BoxOk (allB x k) ∧ ∀ e, e < k → BoxIn (boxQ x e) (allB x k)
  | 0, _ => ⟨box_ok hs h h0, fun e he => absurd he (Nat.not_lt_zero _)⟩
  | k + 1, hk => by
    obtain ⟨⟨⟨i1, i2⟩, ⟨i3, i4⟩, i5, i6⟩, ih⟩ := allB_ok hs h h0 k (by omega)
    obtain ⟨⟨j1, j2⟩, ⟨j3, j4⟩, j5, j6⟩ := box_ok hs h (k := k) (by omega)
    have key : ∀ e, e < k + 1 → BoxIn (boxQ x e) (allB x (k + 1)) := fun e he => by
      have ha : (allB x (k + 1)) = ⟨leastQ (allB x k).a (boxQ x k).a, mostQ (allB x k).b (boxQ x k).b⟩ := rfl
      rw [ha]
      unfold BoxIn leastQ mostQ
      dsimp only
      by_cases c : e = k
      · subst c
        omega
      · obtain ⟨⟨q1, q2⟩, q3, q4⟩ := ih e (by omega)
        omega
    refine ⟨?_, key⟩
    have ha : (allB x (k + 1)) = ⟨leastQ (allB x k).a (boxQ x k).a, mostQ (allB x k).b (boxQ x k).b⟩ := rfl
    rw [ha]
    unfold BoxOk leastQ mostQ
    dsimp only
    omega
theorem side_spec {f m : Int} (h0 : 0 ≤ f) (h1 : f ≤ 2147483648) (hm : 1 ≤ m) : f ≤ sideV f m * m ∧ 1 ≤ sideV f m ∧ sideV f m ≤ 2147483648 := by
  have q1 : f + m - 1 < ((f + m - 1) / m + 1) * m := Int.lt_ediv_add_one_mul_self _ (by omega)
  rw [Int.add_mul, Int.one_mul] at q1
  have q2 : (f + m - 1) / m * m ≤ f + m - 1 := Int.ediv_mul_le _ (by omega)
  unfold sideV
  generalize (f + m - 1) / m = q at *
  have hq : q ≤ 2147483648 := by
    rcases Int.lt_or_le 2147483648 q with c | c
    · have := Int.mul_le_mul_of_nonneg_right (a := 2147483648 + 1) (b := q) (c := m) (by omega) (by omega)
      omega
    · exact c
  rcases Int.le_total q 1 with c | c
  · rw [Int.max_eq_right c]
    have := Int.mul_le_mul_of_nonneg_right (a := q) (b := 1) (c := m) c (by omega)
    omega
  · rw [Int.max_eq_left c]
    omega
/-- Where an edge is laid. -/
def InR (x : Nt) (lx ly S m : Int) (e : Nat) (r c : Int) : Prop := (firstV ((boxQ x e).a.y - ly) S ≤ r ∧ r ≤ lastV ((boxQ x e).b.y - ly) S m) ∧ firstV ((boxQ x e).a.x - lx) S ≤ c ∧ c ≤ lastV ((boxQ x e).b.x - lx) S m
structure GridP (x : Nt) (m lx ly S : Int) (N : Nat) (Ms : List (R.Sl Int)) : Prop where
  side : 1 ≤ S ∧ S ≤ 2147483648
  num : ((N : Nat) : Int) = m * m
  lens : LayS m N Ms Ms (5000 * (x.e.n : Nat)) 0 (fun _ _ => False)
  low : (-1073741824 ≤ lx ∧ lx ≤ 1073741824) ∧ -1073741824 ≤ ly ∧ ly ≤ 1073741824
  boxes : ∀ e, e < x.e.n → (lx ≤ (boxQ x e).a.x ∧ (boxQ x e).a.x ≤ (boxQ x e).b.x ∧ (boxQ x e).b.x ≤ lx + S * m) ∧ ly ≤ (boxQ x e).a.y ∧ (boxQ x e).a.y ≤ (boxQ x e).b.y ∧ (boxQ x e).b.y ≤ ly + S * m
  has : ∀ e, e < x.e.n → ∀ r c, InR x lx ly S m e r c → ((e : Nat) : Int) ∈ (nth Ms (r * m + c).toNat).L
theorem row_formG {w : World} {A : Option Addr} {n c sz : Nat} {e : TypeId} {cs : List Value} (h : w.ownsRow 0 e sz (.slice A n c) n cs) (hn : 0 < n) : ∃ g, A = some ⟨g, 0, none⟩ := by
  rcases h.2 with ⟨hv, h0⟩ | ⟨g, cap, cur, hv, _, h1, h2, h3, h4, h5⟩
  · omega
  · injection hv with a1 a2 a3
    exact ⟨g, a1⟩
set_option maxHeartbeats 8000000 in
theorem of_yes (x : Nt) (m : Int) (w : World) (hG : GNt w x) (hnr : nearN x = true) (hm : 1 ≤ m ∧ m ≤ 64) (h0 : 0 < x.e.n) (h1 : x.e.n ≤ 100) : Calls Tryz.prog 6 #[.agg (cNt x).toArray, .int .i64 m] w fun e w' => ∃ gC N lx ly S Ms, e = .returned (.tuple #[.agg #[.int .i64 lx, .int .i64 ly, .int .i64 S, .int .i64 m, .int .i64 m, .slice (some ⟨gC, 0, none⟩) N N], .int .i64 0]) ∧ GridP x m lx ly S N Ms ∧ R.Own [] w w' (.row (some ⟨gC, 0, none⟩) N N 40 1 (Ms.flatMap R.cSl) :: nst 3 1 R.cI Ms) := by
  have hM := R.Own.start [] w
  have hn := (near_all hnr).2.1
  have hsl : x.s.n = x.s.L.length := hG.1.2.1
  have hL := hG.lasts
  have iN : R.ConB Tryz.prog 16 #[.agg (cNt x).toArray] Unit (fun _ w => GNt w x) (fun _ => .bool true) := ⟨fun _ w h => by
    have q := gnearN_any x w h
    rw [hnr] at q
    exact q⟩
  have iB : ∀ k : Nat, R.ConB Tryz.prog 17 #[.agg (cNt x).toArray, .int .i64 (k : Nat)] Unit (fun _ w => GNt w x ∧ k < x.e.n) (fun _ => .agg (cBq (boxQ x k)).toArray) := fun k => ⟨fun _ w h => gbox_any x k w h.1 hn h.2⟩
  have iB0 := iB 0
  refine R.calls_of_WC (fn := Tryz.f6) Tryz.func6 rfl Tryz.ntmps6 (Nat.le_of_ble_eq_true rfl) ?_
  (refine R.stepN ?_; (repeat' (first | (with_reducible refine And.intro ?_ ?_) | (with_reducible intro _))); all_goals refine R.Lft.mk ?_)
  rename_i gn _ _ gr _ _ _ _ _ _ ga _ _ _ hM
  refine R.WC_loop (fun k : Nat => [(1, .int .i64 m), (2, .pointer (some ⟨gn, 0, none⟩)), (4, .pointer (some ⟨gr, 0, none⟩)), (5, .int .i64 0), (6, .pointer (some ⟨ga, 0, none⟩)), (31, .int .i64 (x.e.n : Nat)), (32, .int .i64 (k : Nat))])
    (fun k w2 => k ≤ x.e.n ∧ R.Own [] w w2 [.blk ga 71 (cBq (allB x k)), .blk gr 36 [.int .i64 0, .int .i64 0, .int .i64 0, .int .i64 0, .int .i64 0, .slice none 0 0], .blk gn 26 (cNt x)]) (fun k => x.e.n - k)
    ⟨0, ⟨rfl, rfl, rfl, rfl, rfl, rfl, rfl, trivial⟩, Nat.zero_le _, hM⟩ ?_
  clear hM
  rintro k f w2 ⟨hk, hM⟩
  by_cases hlt : k < x.e.n
  · have iBk := iB k
    (refine R.stepN ?_; (repeat' (first | (with_reducible refine And.intro ?_ ?_) | (with_reducible intro _))); all_goals refine R.Lft.mk ?_)
    rename_i gb _ _ _ hM
    refine R.WC_planX [(0, false), (1, false), (2, false), (3, false), (5, false), (6, false), (7, false), (8, false), (4, true), (9, true), (10, false), (11, true)] R.mixed (by decide +kernel) R.ohm ?_
    (refine R.stepN ?_; (repeat' (first | (with_reducible refine And.intro ?_ ?_) | (with_reducible intro _))); all_goals refine R.Lft.mk ?_)
    refine R.WO_call2 rfl rfl R.vv R.vv ?_
    refine (gleast_any (allB x k).a (boxQ x k).a _).mono ?_
    rintro _ w4 ⟨rfl, hb4⟩
    have hM := R.Own.call R.ohm hb4
    refine ⟨_, rfl, hM, ?_⟩
    (refine R.stepN ?_; (repeat' (first | (with_reducible refine And.intro ?_ ?_) | (with_reducible intro _))); all_goals refine R.Lft.mk ?_)
    refine R.WO_call2 rfl rfl R.vv R.vv ?_
    refine (gmost_any (allB x k).b (boxQ x k).b _).mono ?_
    rintro _ w4 ⟨rfl, hb4⟩
    have hM := R.Own.call R.ohm hb4
    refine ⟨_, rfl, hM, ?_⟩
    (refine R.stepN ?_; (repeat' (first | (with_reducible refine And.intro ?_ ?_) | (with_reducible intro _))); all_goals refine R.Lft.mk ?_)
    rename_i hM
    exact ⟨k + 1, ⟨rfl, rfl, rfl, rfl, rfl, rfl, R.viaI rfl (by omega), trivial⟩, ⟨by omega, R.dr (.blk gb _ _) hM⟩, by omega⟩
  · obtain rfl : k = x.e.n := by omega
    obtain ⟨hOk, hIn⟩ := allB_ok hsl hnr h0 x.e.n (Nat.le_refl _)
    generalize allB x x.e.n = A at hM hOk hIn
    obtain ⟨⟨o1, o2⟩, ⟨o3, o4⟩, o5, o6⟩ := hOk
    obtain ⟨sx1, sx2, sx3⟩ := side_spec (f := A.b.x - A.a.x) (m := m) (by omega) (by omega) hm.1
    obtain ⟨sy1, sy2, sy3⟩ := side_spec (f := A.b.y - A.a.y) (m := m) (by omega) (by omega) hm.1
    have hmm := mul_bd (a := m) (b := m) (A := 64) (B := 64) (by omega) hm.2 (by omega) hm.2
    have hmm1 := Int.mul_le_mul_of_nonneg_right (a := 1) (b := m) (c := m) hm.1 (by omega)
    obtain ⟨S, hS⟩ : ∃ S, max (sideV (A.b.x - A.a.x) m) (sideV (A.b.y - A.a.y) m) = S := ⟨_, rfl⟩
    have hSx := Int.mul_le_mul_of_nonneg_right (a := sideV (A.b.x - A.a.x) m) (b := S) (c := m) (by omega) (by omega)
    have hSy := Int.mul_le_mul_of_nonneg_right (a := sideV (A.b.y - A.a.y) m) (b := S) (c := m) (by omega) (by omega)
    (refine R.stepN ?_; (repeat' (first | (with_reducible refine And.intro ?_ ?_) | (with_reducible intro _))); all_goals refine R.Lft.mk ?_)
    refine R.WC_planO [(0, false), (1, false), (2, false), (3, false), (4, false), (5, false), (6, false), (7, false), (9, false), (10, false), (11, false), (12, false), (13, false), (14, false), (15, false), (16, false), (8, true), (17, true), (18, false), (19, false)] R.mixed (by decide +kernel) R.ohm ?_
    (refine R.stepN ?_; (repeat' (first | (with_reducible refine And.intro ?_ ?_) | (with_reducible intro _))); all_goals refine R.Lft.mk ?_)
    rename_i hM
    obtain ⟨N, hN⟩ : ∃ N, (m * m).toNat = N := ⟨_, rfl⟩
    refine R.WC_cut2 (ι := Nat × Option Addr) (fun i => [(2, .pointer (some ⟨gn, 0, none⟩)), (4, .pointer (some ⟨gr, 0, none⟩)), (5, .int .i64 0), (10, .pointer (some ⟨i.1, 0, none⟩))])
      (fun i w2 => R.Own [] w w2 [.row i.2 N N 40 1 ((List.replicate N (default : R.Sl Int)).flatMap R.cSl), .blk i.1 36 [.int .i64 A.a.x, .int .i64 A.a.y, .int .i64 S, .int .i64 m, .int .i64 m, .slice i.2 N N], .blk gr 36 [.int .i64 0, .int .i64 0, .int .i64 0, .int .i64 0, .int .i64 0, .slice none 0 0], .blk gn 26 (cNt x)]) ?h1 ?h2
    case h1 =>
      refine R.WC_planF (.q 0 (.q 1 (.q 2 (.q 3 (.q 4 (.q 5 (.q 6 (.q 7 (.f 8 10 (.q 9 (.e 10 (.e 11 .nil))) (.e 8 (.q 9 (.e 11 .nil)))))))))))) R.mixed (by decide +kernel) R.ohm ?_
      (refine R.stepU ?_; (repeat' (first | (with_reducible refine And.intro ?_ ?_) | (with_reducible intro _))); all_goals refine R.Lft.mk ?_)
      all_goals refine R.WO_makeO (T := R.Sl Int) (enc := R.cSl) (z0 := default) rfl (by rfl) rfl rfl (by omega) (by omega) (by omega) R.ohm (fun A1 w4 hM => ?_)
      · rw [hN] at hM ⊢
        (refine R.stepU ?_; (repeat' (first | (with_reducible refine And.intro ?_ ?_) | (with_reducible intro _))); all_goals refine R.Lft.mk ?_)
        rename_i hM
        rw [hS] at hM
        exact ⟨rfl, (_, A1), ⟨rfl, rfl, rfl, rfl, trivial⟩, R.dr (.blk ga _ _) (R.Own.swap hM)⟩
      · rw [hN] at hM ⊢
        (refine R.stepU ?_; (repeat' (first | (with_reducible refine And.intro ?_ ?_) | (with_reducible intro _))); all_goals refine R.Lft.mk ?_)
        rename_i hM
        rw [hS] at hM
        exact ⟨rfl, (_, A1), ⟨rfl, rfl, rfl, rfl, trivial⟩, R.dr (.blk ga _ _) hM⟩
    case h2 =>
      clear hM
      rintro ⟨gg, A1⟩ f w2 hM
      dsimp only at hM ⊢
      obtain ⟨gC, rfl⟩ := row_formG (R.Own.ok hM _ (.head _)) (by omega)
      have hM := (own_nils hM 3 1 R.cI N).perm (List.perm_append_comm (l₁ := [_, _, _, _]))
      (refine R.stepN ?_; (repeat' (first | (with_reducible refine And.intro ?_ ?_) | (with_reducible intro _))); all_goals refine R.Lft.mk ?_)
      rename_i hM
      refine R.WC_loop (fun i : Nat × List (R.Sl Int) => [(2, .pointer (some ⟨gn, 0, none⟩)), (4, .pointer (some ⟨gr, 0, none⟩)), (5, .int .i64 0), (10, .pointer (some ⟨gg, 0, none⟩)), (81, .int .i64 (x.e.n : Nat)), (82, .int .i64 (i.1 : Nat))])
        (fun i w2 => i.1 ≤ x.e.n ∧ LayS m N i.2 i.2 (5000 * (i.1 : Nat)) 0 (fun _ _ => False) ∧ (∀ e, e < i.1 → ∀ r c, InR x A.a.x A.a.y S m e r c → ((e : Nat) : Int) ∈ (nth i.2 (r * m + c).toNat).L) ∧ R.Own [] w w2 ([.blk gr 36 [.int .i64 0, .int .i64 0, .int .i64 0, .int .i64 0, .int .i64 0, .slice none 0 0], .blk gn 26 (cNt x)] ++ layL gC gg N A.a.x A.a.y S m i.2)) (fun i => x.e.n - i.1)
        ⟨(0, List.replicate N default), ⟨rfl, rfl, rfl, rfl, rfl, rfl, trivial⟩, Nat.zero_le _, ⟨by simp, fun y hy => by rw [List.eq_of_mem_replicate hy]; exact ⟨rfl, by show ((0 : Nat) : Int) ≤ 5000 * ((0 : Nat) : Int); omega⟩, fun _ _ h => h, fun _ _ h => h.elim⟩, fun e he => absurd he (Nat.not_lt_zero _), R.Own.perm hM (List.perm_append_comm_assoc [_, _] [_, _] _)⟩ ?_
      clear hM
      rintro ⟨k, Ms⟩ f w3 ⟨hk, hLs, hHas, hM⟩
      dsimp only at hk hLs hHas hM ⊢
      have hSb : 1 ≤ S ∧ S ≤ 2147483648 := by rw [← hS]; omega
      by_cases hlt : k < x.e.n
      · have iBk := iB k
        obtain ⟨⟨q1, q2⟩, q3, q4⟩ := hIn k hlt
        obtain ⟨⟨b1, b2⟩, ⟨b3, b4⟩, b5, b6⟩ := box_ok hsl hnr hlt
        (refine R.stepN ?_; (repeat' (first | (with_reducible refine And.intro ?_ ?_) | (with_reducible intro _))); all_goals refine R.Lft.mk ?_)
        rename_i hP
        refine R.WO_call3 rfl rfl R.vv R.vv R.vv ?_
        refine (lay_any gg gC N k (5000 * k) A.a.x A.a.y S m (boxQ x k) Ms _ hSb (by omega) (by omega) (by omega) (hLs.mono (by omega) (fun _ _ h => h)) (by omega) (by omega) (by omega) (by omega) (by omega) (by omega) (by omega) (by omega) (R.Own.has hP)).mono ?_
        rintro _ w8 ⟨rfl, M2, hL2, hO⟩
        have hM := R.Own.callF hP hO
        clear hP hO
        refine ⟨_, rfl, ?_⟩
        (refine R.stepN ?_; (repeat' (first | (with_reducible refine And.intro ?_ ?_) | (with_reducible intro _))); all_goals refine R.Lft.mk ?_)
        exact ⟨(k + 1, M2), ⟨rfl, rfl, rfl, rfl, rfl, R.viaI rfl (by dsimp only; omega), trivial⟩, ⟨by dsimp only; omega, ⟨hL2.len, fun y hy => ⟨(hL2.bnd y hy).1, by have := (hL2.bnd y hy).2; dsimp only; omega⟩, fun _ _ h => h, fun _ _ h => h.elim⟩, fun e he r c h => by
          dsimp only at he ⊢
          by_cases ce : e = k
          · subst ce
            exact hL2.has r c h
          · exact hL2.keep _ _ (hHas e (by omega) r c h), R.ohm⟩, by dsimp only; omega⟩
      · obtain rfl : k = x.e.n := by omega
        unfold layL at hM
        dsimp only [List.append, List.cons_append, List.nil_append] at hM
        (refine R.stepN ?_; (repeat' (first | (with_reducible refine And.intro ?_ ?_) | (with_reducible intro _))); all_goals refine R.Lft.mk ?_)
        rename_i hM
        refine ⟨gC, N, A.a.x, A.a.y, S, Ms, rfl, ⟨hSb, by omega, hLs, ⟨by omega, by omega⟩, fun e he => ?_, hHas⟩, R.Own.sub hM (.cons _ (.cons _ (.cons_cons _ (.cons _ (.refl _)))))⟩
        obtain ⟨⟨q1, q2⟩, q3, q4⟩ := hIn e he
        obtain ⟨⟨b1, b2⟩, _⟩ := box_ok hsl hnr he
        exact ⟨⟨by omega, by omega, by omega⟩, by omega, by omega, by omega⟩
end Go.Proofs.YtmoppmfbfpjdnaaGreat
