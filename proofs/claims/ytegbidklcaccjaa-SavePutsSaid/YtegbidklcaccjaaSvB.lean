/- What a reader reads of bytes: the plain law. -/
import Derived.Test.YtegbidklcaccjaaSq
import Derived.Test.YtegbidklcaccjaaRoads9
import Derived.Test.YtegbidklcaccjaaSvR
namespace Go.Proofs.Ytegbidklcaccjaa
open R (In64 InU64 lo64 nth)
/-- What a reader holds: the bytes that are left, and whether one was none. -/
abbrev Rds := List Int × Bool
def rN (lo hi : Int) (s : Rds) : Int × Rds :=
  match rdF s.1 0 0 with
  | none => (0, (s.1, true))
  | some x => if s.2 = true ∨ x.1 < lo ∨ hi < x.1 then (0, (s.1, true)) else (x.1, (s.1.drop x.2, false))
def rAny (s : Rds) : Int × Rds := rN (-1152921504606846976) 1152921504606846976 s
def rPt (s : Rds) : Pt × Rds := (⟨(rAny s).1, (rAny (rAny s).2).1⟩, (rAny (rAny s).2).2)
def rBn (s : Rds) : Bn × Rds := (⟨(rAny s).1, (rAny (rAny s).2).1, decide ((rN 0 1 (rAny (rAny s).2).2).1 = 1)⟩, (rN 0 1 (rAny (rAny s).2).2).2)
def rMany {T : Type} (f : Rds → T × Rds) : Nat → Rds → List T × Rds
  | 0, s => ([], s)
  | k + 1, s => ((rMany f k s).1 ++ [(f (rMany f k s).2).1], (f (rMany f k s).2).2)
theorem rMany_len {T : Type} (f : Rds → T × Rds) (s : Rds) : ∀ k, (rMany f k s).1.length = k
  | 0 => rfl
  | k + 1 => by rw [rMany, List.length_append, rMany_len f s k]; rfl
theorem rMany_all {T : Type} (f : Rds → T × Rds) (P : T → Prop) (h : ∀ s, P (f s).1) (s : Rds) : ∀ k, ∀ x ∈ (rMany f k s).1, P x
  | 0, x, hx => by cases hx
  | k + 1, x, hx => by
    rw [rMany] at hx
    rcases List.mem_append.1 hx with h1 | h1
    · exact rMany_all f P h s k x h1
    · rw [List.mem_singleton.1 h1]
      exact h _
def rRoad (s : Rds) : RV × Rds :=
  let a := rAny s
  let b := rN 0 1 a.2
  let k := rN 0 100 b.2
  let P := rMany rPt k.1.toNat k.2
  let Q := rMany rAny (P.1.length - 1) P.2
  (⟨a.1, P.1, Q.1, decide (b.1 = 1)⟩, Q.2)
/-- What a session says. -/
structure PV where
  st : Int
  rd : List RV
  bn : List Bn
  pol : Int
  cl : List Int
  deriving DecidableEq
def rPlain (s : Rds) : PV × Rds :=
  let a := rN 0 3 s
  let b := rN 0 200 a.2
  let R := rMany rRoad b.1.toNat b.2
  let c := rAny R.2
  let d := rN 0 2000 c.2
  let B := rMany rBn d.1.toNat d.2
  let e := rN 0 2000 B.2
  let C := rMany rAny e.1.toNat e.2
  (⟨a.1, R.1, B.1, c.1, C.1⟩, C.2)
def flB (N : List Int) : List Int := N.flatMap fun v => numB (zig v)
theorem flB_app (N M : List Int) : flB (N ++ M) = flB N ++ flB M := by unfold flB; rw [List.flatMap_append]
theorem flB_cons (v : Int) (M : List Int) : flB (v :: M) = numB (zig v) ++ flB M := by unfold flB; rw [List.flatMap_cons]
theorem flB_nil : flB [] = [] := rfl
def numsRV (x : RV) : List Int := [x.id, bitI x.one, ((x.pts.length : Nat) : Int)] ++ x.pts.flatMap numsP ++ x.ws
def numsPV (p : PV) : List Int := [p.st, ((p.rd.length : Nat) : Int)] ++ p.rd.flatMap numsRV ++ [p.pol, ((p.bn.length : Nat) : Int)] ++ p.bn.flatMap numsB ++ [((p.cl.length : Nat) : Int)] ++ p.cl
/-! ### what is read was put -/
theorem zig_unzig {m : Int} (h : 0 ≤ m) : zig (unzig m) = m := by
  unfold unzig zig
  split <;> split <;> omega
theorem rdF_num : ∀ (L : List Int) (i : Nat) (u v : Int) (k : Nat), byte L → rdF L i u = some (v, k) → ∃ m : Int, 0 ≤ m ∧ v = unzig (u + 128 ^ i * m) ∧ (0 < i → 0 < m) ∧ i < k ∧ L = numB m ++ L.drop (k - i) ∧ -1152921504606846976 ≤ v ∧ v ≤ 1152921504606846976
  | [], i, u, v, k, _, h => by rw [rdF] at h; cases h
  | c :: r, i, u, v, k, hb, h => by
    have hc := hb c (.head _)
    rw [rdF] at h
    by_cases h9 : 9 ≤ i
    · rw [if_pos h9] at h; cases h
    rw [if_neg h9] at h
    by_cases hlo : c < 128
    · rw [if_pos hlo] at h
      split at h
      · cases h
      · rename_i hn
        injection h with h
        injection h with h1 h2
        refine ⟨c, hc.1, h1.symm, fun hi => by omega, by omega, ?_, by omega, by omega⟩
        rw [numB_lo (by omega), ← h2, show i + 1 - i = 1 by omega]
        rfl
    · rw [if_neg hlo] at h
      obtain ⟨m, h0, h1, h2, h3, h4, h5, h6⟩ := rdF_num r (i + 1) _ v k (fun x hx => hb x (.tail _ hx)) h
      have hm := h2 (Nat.succ_pos _)
      have e1 : u + 128 ^ i * (c % 128) + 128 ^ (i + 1) * m = u + 128 ^ i * (128 * m + c % 128) := by
        rw [Int.mul_add, Int.pow_succ, Int.mul_assoc]
        omega
      refine ⟨128 * m + c % 128, by omega, by rw [h1, e1], fun _ => by omega, by omega, ?_, h5, h6⟩
      rw [numB_hi (by omega), show (128 * m + c % 128) / 128 = m by omega, show (128 + (128 * m + c % 128) % 128) = c by omega, List.cons_append]
      congr 1
      rw [show k - i = (k - (i + 1)) + 1 by omega, List.drop_succ_cons]
      exact h4
theorem rdF_le : ∀ (L : List Int) (i : Nat) (u : Int) (x : Int × Nat), rdF L i u = some x → i < x.2 ∧ x.2 ≤ L.length + i
  | [], i, u, x, h => by rw [rdF] at h; cases h
  | c :: r, i, u, x, h => by
    rw [rdF] at h
    split at h
    · cases h
    · split at h
      · split at h
        · cases h
        · injection h with h
          rw [← h, List.length_cons]
          dsimp only
          omega
      · have := rdF_le r _ _ x h
        rw [List.length_cons]
        omega
theorem rd_put {L : List Int} {x : Int × Nat} (hb : byte L) (h : rdF L 0 0 = some x) : L = numB (zig x.1) ++ L.drop x.2 ∧ -1152921504606846976 ≤ x.1 ∧ x.1 ≤ 1152921504606846976 := by
  obtain ⟨m, h0, h1, _, h3, h4, h5, h6⟩ := rdF_num L 0 0 x.1 x.2 hb h
  have e : (0 : Int) + 128 ^ 0 * m = m := by simp
  rw [e] at h1
  refine ⟨?_, h5, h6⟩
  rw [h1, zig_unzig h0]
  exact h4
theorem rN_in (lo hi : Int) (s : Rds) (hb : byte s.1) : -1152921504606846976 ≤ (rN lo hi s).1 ∧ (rN lo hi s).1 ≤ 1152921504606846976 ∧ (lo ≤ 0 → lo ≤ (rN lo hi s).1) ∧ (0 ≤ hi → (rN lo hi s).1 ≤ hi) := by
  unfold rN
  cases h : rdF s.1 0 0 with
  | none => exact ⟨by show (_ : Int) ≤ 0; decide, by show (0 : Int) ≤ _; decide, fun h => h, fun h => h⟩
  | some x =>
    have := rd_put hb h
    dsimp only
    split
    · exact ⟨by show (_ : Int) ≤ 0; decide, by show (0 : Int) ≤ _; decide, fun h => h, fun h => h⟩
    · rename_i hn
      refine ⟨this.2.1, this.2.2, fun _ => ?_, fun _ => ?_⟩ <;> dsimp only <;> omega
theorem byte_drop {L : List Int} (h : byte L) (k : Nat) : byte (L.drop k) := fun x hx => h x (List.mem_of_mem_drop hx)
theorem rN_byte (lo hi : Int) {s : Rds} (hb : byte s.1) : byte (rN lo hi s).2.1 := by
  unfold rN
  split
  · exact hb
  · split
    · exact hb
    · exact byte_drop hb _
theorem rN_bad (lo hi : Int) {s : Rds} (h : (rN lo hi s).2.2 = false) : s.2 = false := by
  unfold rN at h
  split at h
  · cases h
  · split at h
    · cases h
    · rename_i hn
      cases hs : s.2
      · rfl
      · rw [hs] at hn
        exact absurd (.inl rfl) hn
/-- What f reads has the numbers g. -/
def Snd {T : Type} (f : Rds → T × Rds) (g : T → List Int) : Prop := ∀ s : Rds, byte s.1 → byte (f s).2.1 ∧ ((f s).2.2 = false → s.2 = false ∧ s.1 = flB (g (f s).1) ++ (f s).2.1)
theorem snd_N (lo hi : Int) : Snd (rN lo hi) fun v => [v] := fun s hb => ⟨rN_byte lo hi hb, fun h => ⟨rN_bad lo hi h, by
  unfold rN at h ⊢
  cases hr : rdF s.1 0 0 with
  | none => rw [hr] at h; cases h
  | some x =>
    rw [hr] at h
    dsimp only at h ⊢
    split at h
    · cases h
    · rename_i hn
      rw [if_neg hn, flB_cons, flB_nil, List.append_nil]
      exact (rd_put hb hr).1⟩⟩
theorem snd_any : Snd rAny fun v => [v] := snd_N _ _
theorem snd_many {T : Type} {f : Rds → T × Rds} {g : T → List Int} (h : Snd f g) (k : Nat) : Snd (rMany f k) fun l => l.flatMap g := fun s hb => by
  induction k with
  | zero => exact ⟨hb, fun h => ⟨h, rfl⟩⟩
  | succ k ih =>
    have h1 := h (rMany f k s).2 ih.1
    refine ⟨h1.1, fun hf => ?_⟩
    have h2 := h1.2 hf
    have h3 := ih.2 h2.1
    refine ⟨h3.1, ?_⟩
    show s.1 = flB (((rMany f k s).1 ++ [(f (rMany f k s).2).1]).flatMap g) ++ (f (rMany f k s).2).2.1
    rw [List.flatMap_append, flB_app, List.append_assoc, h3.2, List.flatMap_cons, List.flatMap_nil, List.append_nil, ← h2.2]
theorem snd_Pt : Snd rPt numsP := fun s hb => by
  have h1 := snd_any s hb
  have h2 := snd_any _ h1.1
  refine ⟨h2.1, fun h => ?_⟩
  have h3 := h2.2 h
  have h4 := h1.2 h3.1
  refine ⟨h4.1, ?_⟩
  show s.1 = flB ([(rAny s).1] ++ [(rAny (rAny s).2).1]) ++ (rAny (rAny s).2).2.1
  rw [flB_app, List.append_assoc, h4.2, ← h3.2]
theorem bit_01 {v : Int} (h0 : 0 ≤ v) (h1 : v ≤ 1) : bitI (decide (v = 1)) = v := by
  unfold bitI
  by_cases h : v = 1
  · simp [h]
  · simp [h]; omega
theorem bit_rN {s : Rds} (hb : byte s.1) : bitI (decide ((rN 0 1 s).1 = 1)) = (rN 0 1 s).1 :=
  bit_01 ((rN_in 0 1 s hb).2.2.1 (by decide)) ((rN_in 0 1 s hb).2.2.2 (by decide))
theorem snd_Bn : Snd rBn numsB := fun s hb => by
  have h1 := snd_any s hb
  have h2 := snd_any _ h1.1
  have h3 := snd_N 0 1 _ h2.1
  refine ⟨h3.1, fun h => ?_⟩
  have h4 := h3.2 h
  have h5 := h2.2 h4.1
  have h6 := h1.2 h5.1
  refine ⟨h6.1, ?_⟩
  show s.1 = flB ([(rAny s).1] ++ [(rAny (rAny s).2).1] ++ [bitI (decide ((rN 0 1 (rAny (rAny s).2).2).1 = 1))]) ++ (rN 0 1 (rAny (rAny s).2).2).2.1
  rw [bit_rN h2.1, flB_app, flB_app, List.append_assoc, List.append_assoc, h6.2, ← h4.2, ← h5.2]
theorem snd_Road : Snd rRoad numsRV := fun s hb => by
  obtain ⟨a, ha⟩ : ∃ a, rAny s = a := ⟨_, rfl⟩
  obtain ⟨b, hbb⟩ : ∃ b, rN 0 1 a.2 = b := ⟨_, rfl⟩
  obtain ⟨k, hk⟩ : ∃ k, rN 0 100 b.2 = k := ⟨_, rfl⟩
  obtain ⟨P, hP⟩ : ∃ P, rMany rPt k.1.toNat k.2 = P := ⟨_, rfl⟩
  obtain ⟨Q, hQ⟩ : ∃ Q, rMany rAny (P.1.length - 1) P.2 = Q := ⟨_, rfl⟩
  have e : rRoad s = (⟨a.1, P.1, Q.1, decide (b.1 = 1)⟩, Q.2) := by
    unfold rRoad
    simp only [ha, hbb, hk, hP, hQ]
  have h1 := snd_any s hb
  rw [ha] at h1
  have h2 := snd_N 0 1 a.2 h1.1
  have hbit := bit_rN h1.1
  rw [hbb] at h2 hbit
  have h3 := snd_N 0 100 b.2 h2.1
  have hk0 := (rN_in 0 100 b.2 h2.1).2.2.1 (by decide)
  rw [hk] at h3 hk0
  have h4 := snd_many snd_Pt k.1.toNat k.2 h3.1
  have hl := rMany_len rPt k.2 k.1.toNat
  rw [hP] at h4 hl
  have h5 := snd_many snd_any (P.1.length - 1) P.2 h4.1
  rw [hQ] at h5
  rw [e]
  refine ⟨h5.1, fun h => ?_⟩
  have g5 := h5.2 h
  have g4 := h4.2 g5.1
  have g3 := h3.2 g4.1
  have g2 := h2.2 g3.1
  have g1 := h1.2 g2.1
  refine ⟨g1.1, ?_⟩
  show s.1 = flB ([a.1] ++ [bitI (decide (b.1 = 1))] ++ [((P.1.length : Nat) : Int)] ++ P.1.flatMap numsP ++ Q.1) ++ Q.2.1
  have hQ2 : Q.1.flatMap (fun v => [v]) = Q.1 := by simp
  dsimp only at g5 g4 g3 g2 g1
  rw [hQ2] at g5
  rw [hbit, hl, Int.toNat_of_nonneg hk0]
  simp only [flB_app, List.append_assoc]
  rw [g1.2, g2.2, g3.2, g4.2, g5.2]
theorem snd_Plain : Snd rPlain numsPV := fun s hb => by
  obtain ⟨a, ha⟩ : ∃ a, rN 0 3 s = a := ⟨_, rfl⟩
  obtain ⟨b, hbb⟩ : ∃ b, rN 0 200 a.2 = b := ⟨_, rfl⟩
  obtain ⟨R, hR⟩ : ∃ R, rMany rRoad b.1.toNat b.2 = R := ⟨_, rfl⟩
  obtain ⟨c, hc⟩ : ∃ c, rAny R.2 = c := ⟨_, rfl⟩
  obtain ⟨d, hd⟩ : ∃ d, rN 0 2000 c.2 = d := ⟨_, rfl⟩
  obtain ⟨B, hB⟩ : ∃ B, rMany rBn d.1.toNat d.2 = B := ⟨_, rfl⟩
  obtain ⟨f, hf⟩ : ∃ f, rN 0 2000 B.2 = f := ⟨_, rfl⟩
  obtain ⟨C, hC⟩ : ∃ C, rMany rAny f.1.toNat f.2 = C := ⟨_, rfl⟩
  have e : rPlain s = (⟨a.1, R.1, B.1, c.1, C.1⟩, C.2) := by
    unfold rPlain
    simp only [ha, hbb, hR, hc, hd, hB, hf, hC]
  have h1 := snd_N 0 3 s hb
  rw [ha] at h1
  have h2 := snd_N 0 200 a.2 h1.1
  have i2 := (rN_in 0 200 a.2 h1.1).2.2.1 (by decide)
  rw [hbb] at h2 i2
  have h3 := snd_many snd_Road b.1.toNat b.2 h2.1
  have l3 := rMany_len rRoad b.2 b.1.toNat
  rw [hR] at h3 l3
  have h4 := snd_any R.2 h3.1
  rw [hc] at h4
  have h5 := snd_N 0 2000 c.2 h4.1
  have i5 := (rN_in 0 2000 c.2 h4.1).2.2.1 (by decide)
  rw [hd] at h5 i5
  have h6 := snd_many snd_Bn d.1.toNat d.2 h5.1
  have l6 := rMany_len rBn d.2 d.1.toNat
  rw [hB] at h6 l6
  have h7 := snd_N 0 2000 B.2 h6.1
  have i7 := (rN_in 0 2000 B.2 h6.1).2.2.1 (by decide)
  rw [hf] at h7 i7
  have h8 := snd_many snd_any f.1.toNat f.2 h7.1
  have l8 := rMany_len rAny f.2 f.1.toNat
  rw [hC] at h8 l8
  rw [e]
  refine ⟨h8.1, fun h => ?_⟩
  have g8 := h8.2 h
  have g7 := h7.2 g8.1
  have g6 := h6.2 g7.1
  have g5 := h5.2 g6.1
  have g4 := h4.2 g5.1
  have g3 := h3.2 g4.1
  have g2 := h2.2 g3.1
  have g1 := h1.2 g2.1
  refine ⟨g1.1, ?_⟩
  show s.1 = flB ([a.1] ++ [((R.1.length : Nat) : Int)] ++ R.1.flatMap numsRV ++ ([c.1] ++ [((B.1.length : Nat) : Int)]) ++ B.1.flatMap numsB ++ [((C.1.length : Nat) : Int)] ++ C.1) ++ C.2.1
  have hC2 : C.1.flatMap (fun v => [v]) = C.1 := by simp
  dsimp only at g8 g7 g6 g5 g4 g3 g2 g1
  rw [hC2] at g8
  rw [l3, l6, l8, Int.toNat_of_nonneg i2, Int.toNat_of_nonneg i5, Int.toNat_of_nonneg i7]
  simp only [flB_app, List.append_assoc]
  rw [g1.2, g2.2, g3.2, g4.2, g5.2, g6.2, g7.2, g8.2]
/-! ### what was put is read -/
def sml (v : Int) : Prop := -1152921504606846976 ≤ v ∧ v ≤ 1152921504606846976
theorem drop_app {T : Type} (A B : List T) : (A ++ B).drop A.length = B := by simp
theorem rdF_pre : ∀ (A B : List Int) (i : Nat) (u : Int) (x : Int × Nat), rdF A i u = some x → rdF (A ++ B) i u = some x
  | [], B, i, u, x, h => by rw [rdF] at h; cases h
  | c :: r, B, i, u, x, h => by
    rw [List.cons_append, rdF]
    rw [rdF] at h
    split at h
    · cases h
    · rename_i h9
      rw [if_neg h9]
      split at h
      · rename_i hc
        rw [if_pos hc]
        exact h
      · rename_i hc
        rw [if_neg hc]
        exact rdF_pre r B _ _ x h
theorem rN_put {lo hi v : Int} (B : List Int) (hs : sml v) (h0 : lo ≤ v) (h1 : v ≤ hi) : rN lo hi (flB [v] ++ B, false) = (v, (B, false)) := by
  unfold rN
  rw [flB_cons, flB_nil, List.append_nil, rdF_pre _ B 0 0 _ (rd_zig hs.1 hs.2)]
  dsimp only
  rw [if_neg (by simp; omega), drop_app]
theorem rAny_put {v : Int} (B : List Int) (hs : sml v) : rAny (flB [v] ++ B, false) = (v, (B, false)) := rN_put B hs hs.1 hs.2
def Cmp {T : Type} (f : Rds → T × Rds) (g : T → List Int) (x : T) : Prop := ∀ B, f (flB (g x) ++ B, false) = (x, (B, false))
theorem many_put {T : Type} [Inhabited T] {f : Rds → T × Rds} {g : T → List Int} {X : List T} (h : ∀ x ∈ X, Cmp f g x) (B : List Int) : ∀ k, k ≤ X.length → rMany f k (flB (X.flatMap g) ++ B, false) = (X.take k, (flB ((X.drop k).flatMap g) ++ B, false))
  | 0, _ => rfl
  | k + 1, hk => by
    have hk' : k < X.length := hk
    rw [rMany, many_put h B k (by omega), List.drop_eq_getElem_cons hk', List.flatMap_cons, flB_app, List.append_assoc, h _ (List.getElem_mem hk'), take_snoc hk', R.nth_eq hk']
theorem many_all {T : Type} [Inhabited T] {f : Rds → T × Rds} {g : T → List Int} {X : List T} (h : ∀ x ∈ X, Cmp f g x) (B : List Int) : rMany f X.length (flB (X.flatMap g) ++ B, false) = (X, (B, false)) := by
  rw [many_put h B X.length (Nat.le_refl _), List.take_length, List.drop_length]
  rfl
theorem pt_put {q : Pt} (h1 : sml q.x) (h2 : sml q.y) : Cmp rPt numsP q := fun B => by
  have e : flB (numsP q) ++ B = flB [q.x] ++ (flB [q.y] ++ B) := by
    rw [← List.append_assoc, ← flB_app]
    rfl
  unfold rPt
  rw [e, rAny_put _ h1]
  dsimp only
  rw [rAny_put _ h2]
theorem bit_in (b : Bool) : 0 ≤ bitI b ∧ bitI b ≤ 1 ∧ sml (bitI b) ∧ decide (bitI b = 1) = b := by cases b <;> (unfold sml; decide)
theorem bn_put {b : Bn} (h1 : sml b.frm) (h2 : sml b.to) : Cmp rBn numsB b := fun B => by
  have e : flB (numsB b) ++ B = flB [b.frm] ++ (flB [b.to] ++ (flB [bitI b.only] ++ B)) := by
    rw [← List.append_assoc, ← List.append_assoc, ← flB_app, ← flB_app]
    rfl
  have hb := bit_in b.only
  unfold rBn
  rw [e, rAny_put _ h1]
  dsimp only
  rw [rAny_put _ h2]
  dsimp only
  rw [rN_put _ hb.2.2.1 hb.1 hb.2.1]
  dsimp only
  rw [hb.2.2.2]
theorem int_put {v : Int} (h : sml v) : Cmp rAny (fun v => [v]) v := fun B => rAny_put B h
theorem flat_self (L : List Int) : L.flatMap (fun v => [v]) = L := by simp
theorem road_put {x : RV} (h1 : sml x.id) (hp : x.pts.length ≤ 100) (hw : x.ws.length = x.pts.length - 1) (h2 : ∀ q ∈ x.pts, sml q.x ∧ sml q.y) (h3 : ∀ v ∈ x.ws, sml v) : Cmp rRoad numsRV x := fun B => by
  have hb := bit_in x.one
  have e : flB (numsRV x) ++ B = flB [x.id] ++ (flB [bitI x.one] ++ (flB [((x.pts.length : Nat) : Int)] ++ (flB (x.pts.flatMap numsP) ++ (flB (x.ws.flatMap fun v => [v]) ++ B)))) := by
    rw [flat_self]
    simp only [← List.append_assoc, ← flB_app]
    rfl
  unfold rRoad
  dsimp only
  rw [e, rAny_put _ h1]
  dsimp only
  rw [rN_put _ hb.2.2.1 hb.1 hb.2.1]
  dsimp only
  rw [rN_put _ (by unfold sml; omega) (by omega) (by omega)]
  dsimp only
  rw [Int.toNat_natCast, many_all (fun q hq => pt_put (h2 q hq).1 (h2 q hq).2)]
  dsimp only
  rw [← hw, many_all (fun v hv => int_put (h3 v hv))]
  dsimp only
  rw [hb.2.2.2]
instance : Inhabited RV := ⟨⟨0, [], [], false⟩⟩
theorem plain_put {p : PV} (h1 : 0 ≤ p.st ∧ p.st ≤ 3) (h2 : p.rd.length ≤ 200) (h3 : ∀ x ∈ p.rd, sml x.id ∧ x.pts.length ≤ 100 ∧ x.ws.length = x.pts.length - 1 ∧ (∀ q ∈ x.pts, sml q.x ∧ sml q.y) ∧ ∀ v ∈ x.ws, sml v) (h4 : sml p.pol)
    (h5 : p.bn.length ≤ 2000) (h6 : ∀ b ∈ p.bn, sml b.frm ∧ sml b.to) (h7 : p.cl.length ≤ 2000) (h8 : ∀ v ∈ p.cl, sml v) : rPlain (flB (numsPV p), false) = (p, ([], false)) := by
  have e : flB (numsPV p) = flB [p.st] ++ (flB [((p.rd.length : Nat) : Int)] ++ (flB (p.rd.flatMap numsRV) ++ (flB [p.pol] ++ (flB [((p.bn.length : Nat) : Int)] ++ (flB (p.bn.flatMap numsB) ++ (flB [((p.cl.length : Nat) : Int)] ++ (flB (p.cl.flatMap fun v => [v]) ++ []))))))) := by
    rw [flat_self, List.append_nil]
    simp only [← List.append_assoc, ← flB_app]
    unfold numsPV
    simp only [List.append_assoc]
    rfl
  unfold rPlain
  dsimp only
  rw [e, rN_put _ (by unfold sml; omega) h1.1 h1.2]
  dsimp only
  rw [rN_put _ (by unfold sml; omega) (by omega) (by omega)]
  dsimp only
  rw [Int.toNat_natCast, many_all (fun x hx => road_put (h3 x hx).1 (h3 x hx).2.1 (h3 x hx).2.2.1 (h3 x hx).2.2.2.1 (h3 x hx).2.2.2.2)]
  dsimp only
  rw [rAny_put _ h4]
  dsimp only
  rw [rN_put _ (by unfold sml; omega) (by omega) (by omega)]
  dsimp only
  rw [Int.toNat_natCast, many_all (fun b hb => bn_put (h6 b hb).1 (h6 b hb).2)]
  dsimp only
  rw [rN_put _ (by unfold sml; omega) (by omega) (by omega)]
  dsimp only
  rw [Int.toNat_natCast, many_all (fun v hv => int_put (h8 v hv))]
end Go.Proofs.Ytegbidklcaccjaa
