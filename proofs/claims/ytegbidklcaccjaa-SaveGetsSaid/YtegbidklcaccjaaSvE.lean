/- Package save: Get. -/
import Derived.Test.YtegbidklcaccjaaSvD
import Derived.Test.YtegbidklcaccjaaSvF
namespace Go.Proofs.Ytegbidklcaccjaa
open Go.RowKit
open R (In64 InU64 lo64 nth)
instance iss_Bn (a b : Int) (c : Bool) : R.Iss cBn [.int .i64 a, .int .i64 b, .bool c] [⟨a, b, c⟩] := ⟨rfl⟩
/-- A session's own rows. -/
def nestP (p : Pln) : List R.Res := .row p.rd.A p.rd.n p.rd.c 93 4 (p.rd.L.flatMap cRoad) :: .row p.bn.A p.bn.n p.bn.c 106 3 (p.bn.L.flatMap cBn) :: .row p.cl.A p.cl.n p.cl.c 3 1 (p.cl.L.flatMap R.cI) :: nests p.rd.L
instance : Inhabited Pln := ⟨⟨0, default, default, 0, default⟩⟩
def WLP (p : Pln) : Prop := p.rd.n = p.rd.L.length ∧ p.bn.n = p.bn.L.length ∧ p.cl.n = p.cl.L.length ∧ okL p.rd.L
def smRV (x : RV) : Prop := sml x.id ∧ (∀ q ∈ x.pts, sml q.x ∧ sml q.y) ∧ ∀ v ∈ x.ws, sml v
def smPV (p : PV) : Prop := sml p.st ∧ sml p.pol ∧ (∀ x ∈ p.rd, smRV x) ∧ (∀ b ∈ p.bn, sml b.frm ∧ sml b.to) ∧ ∀ v ∈ p.cl, sml v
theorem rMany_pair {T : Type} (f : Rds → T × Rds) (P : T → Prop) (h : ∀ s : Rds, byte s.1 → byte (f s).2.1 ∧ P (f s).1) (s : Rds) (hs : byte s.1) : ∀ k, byte (rMany f k s).2.1 ∧ ∀ x ∈ (rMany f k s).1, P x
  | 0 => ⟨hs, fun x hx => by cases hx⟩
  | k + 1 => by
    have ih := rMany_pair f P h s hs k
    have h1 := h _ ih.1
    refine ⟨h1.1, fun x hx => ?_⟩
    rw [rMany] at hx
    rcases List.mem_append.1 hx with h2 | h2
    · exact ih.2 x h2
    · rw [List.mem_singleton.1 h2]
      exact h1.2
theorem any_sml {s : Rds} (h : byte s.1) : byte (rAny s).2.1 ∧ sml (rAny s).1 := ⟨rN_byte _ _ h, (rN_in _ _ s h).1, (rN_in _ _ s h).2.1⟩
theorem n_sml (lo hi : Int) {s : Rds} (h : byte s.1) : byte (rN lo hi s).2.1 ∧ sml (rN lo hi s).1 := ⟨rN_byte _ _ h, (rN_in _ _ s h).1, (rN_in _ _ s h).2.1⟩
theorem pt_sml {s : Rds} (h : byte s.1) : byte (rPt s).2.1 ∧ sml (rPt s).1.x ∧ sml (rPt s).1.y := ⟨(any_sml (any_sml h).1).1, (any_sml h).2, (any_sml (any_sml h).1).2⟩
theorem bn_sml {s : Rds} (h : byte s.1) : byte (rBn s).2.1 ∧ sml (rBn s).1.frm ∧ sml (rBn s).1.to := ⟨(n_sml 0 1 (any_sml (any_sml h).1).1).1, (any_sml h).2, (any_sml (any_sml h).1).2⟩
theorem road_sml {s : Rds} (h : byte s.1) : byte (rRoad s).2.1 ∧ smRV (rRoad s).1 := by
  have h1 := any_sml h
  have h2 := n_sml 0 1 h1.1
  have h3 := n_sml 0 100 h2.1
  have h4 := rMany_pair rPt (fun q => sml q.x ∧ sml q.y) (fun s hs => pt_sml hs) _ h3.1 (rN 0 100 (rN 0 1 (rAny s).2).2).1.toNat
  have h5 := rMany_pair rAny sml (fun s hs => any_sml hs) _ h4.1 ((rMany rPt (rN 0 100 (rN 0 1 (rAny s).2).2).1.toNat (rN 0 100 (rN 0 1 (rAny s).2).2).2).1.length - 1)
  exact ⟨h5.1, h1.2, h4.2, h5.2⟩
theorem GRoad.new {F : List Nat} {W w : World} {l : List R.Res} {y : Road} (hs : smRV (vR y)) (hw : WL y) (hM : R.Own F W w l) (hm : ∀ r ∈ nest y, r ∈ l) : GRoad w y := by
  have hp := hm _ (.head _)
  have hq := hm _ (.tail _ (.head _))
  have big : ∀ v : Int, sml v → (Lit.int .i64 v).wf = true := fun v hv => R.wf64 (by unfold sml at hv; unfold In64; omega)
  exact ⟨big _ hs.1, ⟨R.Own.inp hM hp, hw.1, cap_of hM hp, fun q hq => ⟨big _ (hs.2.1 q hq).1, big _ (hs.2.1 q hq).2⟩⟩, ⟨R.Own.inp hM hq, hw.2, cap_of hM hq, fun v hv => big _ (hs.2.2 v hv)⟩, trivial⟩
theorem GPln.new {F : List Nat} {W w : World} {l : List R.Res} {p : Pln} (hs : smPV (vP p)) (hw : WLP p) (hM : R.Own F W w l) (hm : ∀ r ∈ nestP p, r ∈ l) : GPln w p := by
  have big : ∀ v : Int, sml v → (Lit.int .i64 v).wf = true := fun v hv => R.wf64 (by unfold sml at hv; unfold In64; omega)
  have h1 := hm _ (.head _)
  have h2 := hm _ (.tail _ (.head _))
  have h3 := hm _ (.tail _ (.tail _ (.head _)))
  refine ⟨big _ hs.1, ⟨R.Own.inp hM h1, hw.1, cap_of hM h1, fun x hx => GRoad.new (hs.2.2.1 _ (List.mem_map_of_mem hx)) (hw.2.2.2 x hx) hM fun r hr => hm _ (.tail _ (.tail _ (.tail _ (nest_mem hx hr))))⟩, ⟨R.Own.inp hM h2, hw.2.1, cap_of hM h2, fun b hb => ⟨big _ (hs.2.2.2.1 b hb).1, big _ (hs.2.2.2.1 b hb).2⟩⟩, big _ hs.2.1, ⟨R.Own.inp hM h3, hw.2.2.1, cap_of hM h3, fun v hv => big _ (hs.2.2.2.2 v hv)⟩⟩
theorem numsR_v {x : Road} (h : WL x) : numsR x = numsRV (vR x) := by
  unfold numsR numsRV vR
  rw [h.1]
theorem flat_v {L : List Road} (h : okL L) : L.flatMap numsR = (L.map vR).flatMap numsRV := by
  induction L with
  | nil => rfl
  | cons x l ih => rw [List.flatMap_cons, List.map_cons, List.flatMap_cons, ih fun z hz => h z (.tail _ hz), numsR_v (h x (.head _))]
theorem numsV_v {p : Pln} (h : WLP p) : numsV p = numsPV (vP p) := by
  unfold numsV numsPV vP
  rw [flat_v h.2.2.2, h.1, h.2.1, h.2.2.1, List.length_map]
theorem mayP_v {p q : Pln} (h : vP p = vP q) (hp : WLP p) (hq : WLP q) (hm : MayP p) : MayP q := by
  have hnv : numsV p = numsV q := by rw [numsV_v hp, numsV_v hq, h]
  unfold vP at h
  injection h with a1 a2 a3 a4 a5
  obtain ⟨m1, m2, m3, m4, m5, m6, m7, m8, m9⟩ := hm
  have hl := (nth_map a2).1
  have hn : p.rd.n = q.rd.n := by rw [hp.1, hq.1, hl]
  refine ⟨by rw [← errAll_v a2 hp.2.2.2 hq.2.2.2]; exact m1, by omega, by omega, by rw [← a1, ← hn]; exact m4, by omega, by omega, ?_, ?_, by rw [← hnv]; exact m9⟩
  · rw [hq.2.1, ← a3, ← hp.2.1]; exact m7
  · rw [hq.2.2.1, ← a5, ← hp.2.2.1]; exact m8
theorem mayV_v {p q : Pln} (h : vP p = vP q) (hp : WLP p) (hq : WLP q) : mayV p = mayV q := by
  rcases Classical.em (MayP p) with c | c
  · rw [mayV_t c, mayV_t (mayP_v h hp hq c)]
  · rw [mayV_f c, mayV_f fun d => c (mayP_v h.symm hq hp d)]
section
variable (A : Option Addr) (n c : Nat) (L : List Int) (w : World) (hA : R.Inp [] w A n 1 (L.flatMap R.cY)) (hn : n = L.length) (hc : n ≤ c) (hc2 : c ≤ 9223372036854775807) (hb : byte L)
include hA hn hc hc2 hb
set_option maxHeartbeats 4000000 in
theorem get_any : Calls Try.prog 25 #[.slice A n c] w fun e w' => ∃ (b : Bool) (p : Pln), e = .returned (.tuple #[.agg (if b = true then cPln p else zP).toArray, .int .i64 (if b = true then 0 else 2)]) ∧ Below w.heap.size w w' ∧
    (b = true → R.Own [] w w' (nestP p) ∧ WLP p ∧ smPV (vP p) ∧ mayV p = true ∧ ∃ T, L = 83 :: T ∧ rPlain (T, false) = (vP p, ([], false))) ∧ (b = false → ∀ T q, L = 83 :: T → WLP q → rPlain (T, false) = (vP q, ([], false)) → mayV q = false) := by
  have hM := R.Own.start [] w
  refine R.calls_of_WC (fn := Try.f25) Try.func25 rfl Try.ntmps25 (Nat.le_of_ble_eq_true rfl) ?_
  by_cases h0 : n = 0
  · (refine R.stepH ?_; (repeat' (first | (with_reducible refine And.intro ?_ ?_) | (with_reducible intro _))); all_goals refine R.Lft.mk ?_)
    exact ⟨false, default, rfl, R.Own.below R.ohm, fun h => (by cases h), fun _ T q h => by rw [h] at hn; rw [hn] at h0; cases h0⟩
  have hR0 : Rdr [] w (R.cutA A c 1 1) (n - 1) (c - 1) (L.drop 1, false) := by
    have hI := R.Inp.cutA hA (lo := 1) (by omega) hc
    rw [R.flat_dropN (sz := 1) (fun _ => rfl)] at hI
    exact ⟨hI, by dsimp only; rw [List.length_drop, hn], by omega, by omega, byte_drop hb 1⟩
  (refine R.stepH ?_; (repeat' (first | (with_reducible refine And.intro ?_ ?_) | (with_reducible intro _))); all_goals refine R.Lft.mk ?_)
  · have hh : nth L 0 ≠ 83 := by assumption
    exact ⟨false, default, rfl, R.Own.below R.ohm, fun h => (by cases h), fun _ T q h => by rw [h] at hh; exact absurd rfl hh⟩
  rename_i g2 _ _ h83n g _ hM
  have h83 : nth L 0 = 83 := Decidable.not_not.1 h83n
  have hL : L = 83 :: L.drop 1 := by
    cases L with
    | nil => exact absurd hn h0
    | cons x T => rw [nth_cons0] at h83; rw [h83]; rfl
  obtain ⟨T, hT⟩ : ∃ T, L.drop 1 = T := ⟨_, rfl⟩
  rw [hT] at hL hR0
  obtain ⟨a, ha⟩ : ∃ a, rN 0 3 (T, false) = a := ⟨_, rfl⟩
  obtain ⟨b, hbb⟩ : ∃ b, rN 0 200 a.2 = b := ⟨_, rfl⟩
  have sa := n_sml 0 3 hR0.2.2.2.2
  rw [ha] at sa
  have hN0 := rN_in 0 200 a.2 sa.1
  rw [hbb] at hN0
  refine R.WO_call3 rfl rfl R.vv R.vv R.vv ?_
  refine (num_own hR0 (by unfold In64; omega) (by unfold In64; omega) hM).mono ?_
  rw [ha]
  rintro _ w3 ⟨rfl, A1, n1, c1, hR1, hM⟩
  refine ⟨_, rfl, ?_⟩
  (refine R.stepH ?_; (repeat' (first | (with_reducible refine And.intro ?_ ?_) | (with_reducible intro _))); all_goals refine R.Lft.mk ?_)
  rename_i g5 _ _ _ hM
  have hM := R.pk (r := .blk g _ _) hM
  refine R.WO_call3 rfl rfl R.vv R.vv R.vv ?_
  refine (num_own hR1 (by unfold In64; omega) (by unfold In64; omega) hM).mono ?_
  rw [hbb]
  rintro _ w4 ⟨rfl, A2, n2, c2, hR2, hM⟩
  refine ⟨_, rfl, ?_⟩
  obtain ⟨N, hN⟩ : ∃ N, b.1.toNat = N := ⟨_, rfl⟩
  have hbN : b.1 = (N : Nat) := by have := hN0.2.2.1 (by decide); omega
  have hN2 : N ≤ 200 := by have := hN0.2.2.2 (by decide); omega
  rw [hbN]
  have hM := R.Own.swap (R.Own.nil hM 93 4)
  (refine R.stepH ?_; (repeat' (first | (with_reducible refine And.intro ?_ ?_) | (with_reducible intro _))); all_goals refine R.Lft.mk ?_)
  refine R.WC_loop (fun s : Nat × Option Addr × Nat × (Option Addr × Nat × Nat) × List Road => [(2, .pointer (some ⟨g2, 0, none⟩)), (3, .int .i64 0), (4, .pointer (some ⟨g, 0, none⟩)), (5, .pointer (some ⟨g5, 0, none⟩)), (24, .int .i64 (N : Nat)), (25, .int .i64 (s.1 : Nat))])
    (fun s w1 => s.1 ≤ N ∧ s.2.2.2.2.map vR = (rMany rRoad s.1 b.2).1 ∧ okL s.2.2.2.2 ∧ Rdr [] w s.2.2.2.1.1 s.2.2.2.1.2.1 s.2.2.2.1.2.2 (rMany rRoad s.1 b.2).2 ∧ R.Own [] w w1 (.blk g 101 [.slice s.2.2.2.1.1 s.2.2.2.1.2.1 s.2.2.2.1.2.2, .bool (rMany rRoad s.1 b.2).2.2] :: .row s.2.1 s.1 s.2.2.1 93 4 (s.2.2.2.2.flatMap cRoad) :: .blk g5 44 [.int .i64 a.1, .slice s.2.1 s.1 s.2.2.1, .slice none 0 0, .int .i64 0, .slice none 0 0] :: .blk g2 44 zP :: nests s.2.2.2.2)) (fun s => N - s.1) ⟨(0, none, 0, (A2, n2, c2), []), ⟨rfl, rfl, rfl, rfl, rfl, rfl, trivial⟩, Nat.zero_le _, rfl, fun z hz => (by cases hz), hR2, hM⟩ ?_
  clear hM
  rintro ⟨j, B1, d1, ⟨A3, n3, c3⟩, M⟩ f w5 ⟨hj, hMv, hMk, hR3, hM⟩
  dsimp only at hj hMv hMk hR3 hM ⊢
  have hMl : M.length = j := by rw [← rMany_len rRoad b.2 j, ← hMv, List.length_map]
  obtain ⟨R1, hR1d⟩ : ∃ R1, rMany rRoad j b.2 = R1 := ⟨_, rfl⟩
  rw [hR1d] at hMv hR3 hM
  by_cases hlt : j < N
  · (refine R.stepH ?_; (repeat' (first | (with_reducible refine And.intro ?_ ?_) | (with_reducible intro _))); all_goals refine R.Lft.mk ?_)
    refine R.WC_planXD2 [(0, false), (1, false), (2, false), (3, true), (4, true), (5, true), (6, false), (7, true)] R.mixed (by decide +kernel) R.ohm ?_
    (refine R.stepH ?_; (repeat' (first | (with_reducible refine And.intro ?_ ?_) | (with_reducible intro _))); all_goals refine R.Lft.mk ?_)
    refine R.WO_call1 rfl rfl R.vv ?_
    refine (road_own hR3 R.ohm).mono ?_
    rintro _ w6 ⟨y, hyv, hyw, rfl, A4, n4, c4, hR4, hM⟩
    simp only [nest, List.cons_append, List.nil_append] at hM
    refine ⟨_, rfl, R.Own.tl (R.Own.tl (R.Own.tl (R.Own.tl hM))), ?_⟩
    (refine R.stepH ?_; (repeat' (first | (with_reducible refine And.intro ?_ ?_) | (with_reducible intro _))); all_goals refine R.Lft.mk ?_)
    have hs : rMany rRoad (j + 1) b.2 = (R1.1 ++ [(rRoad R1.2).1], (rRoad R1.2).2) := by rw [rMany, hR1d]
    rename_i B8 d8 _ _ _ hM
    refine ⟨(j + 1, B8, d8, (A4, n4, c4), M ++ [y]), ⟨rfl, rfl, rfl, rfl, rfl, R.viaI rfl (by dsimp only; omega), trivial⟩, ⟨by dsimp only; omega, ?_, ?_, ?_, ?_⟩, by dsimp only; omega⟩
    · dsimp only
      rw [hs, List.map_append, hMv, ← hyv]
      rfl
    · intro z hz
      rcases List.mem_append.1 hz with h | h
      · exact hMk z h
      · rw [List.mem_singleton.1 h]
        exact hyw
    · dsimp only
      rw [hs]
      exact hR4
    · dsimp only
      rw [hs, nests_app, nests_one]
      exact R.Own.perm hM (List.Perm.cons _ (List.perm_append_comm (l₁ := [_, _, _] ++ nests M) (l₂ := nest y)))
  obtain rfl : j = N := by omega
  clear hlt
  obtain ⟨e, he⟩ : ∃ e, rAny R1.2 = e := ⟨_, rfl⟩
  obtain ⟨d, hd⟩ : ∃ d, rN 0 2000 e.2 = d := ⟨_, rfl⟩
  have se := any_sml hR3.2.2.2.2
  rw [he] at se
  have hD0 := rN_in 0 2000 e.2 se.1
  rw [hd] at hD0
  (refine R.stepH ?_; (repeat' (first | (with_reducible refine And.intro ?_ ?_) | (with_reducible intro _))); all_goals refine R.Lft.mk ?_)
  refine R.WO_call1 rfl rfl R.vv ?_
  refine (any_own hR3 R.ohm).mono ?_
  rw [he]
  rintro _ w6 ⟨rfl, A4, n4, c4, hR4, hM⟩
  refine ⟨_, rfl, ?_⟩
  (refine R.stepH ?_; (repeat' (first | (with_reducible refine And.intro ?_ ?_) | (with_reducible intro _))); all_goals refine R.Lft.mk ?_)
  have hM := R.pk (r := .blk g _ _) R.ohm
  refine R.WO_call3 rfl rfl R.vv R.vv R.vv ?_
  refine (num_own hR4 (by unfold In64; omega) (by unfold In64; omega) hM).mono ?_
  rw [hd]
  rintro _ w7 ⟨rfl, A5, n5, c5, hR5, hM⟩
  refine ⟨_, rfl, ?_⟩
  obtain ⟨N2, hN2d⟩ : ∃ N2, d.1.toNat = N2 := ⟨_, rfl⟩
  have hdN : d.1 = (N2 : Nat) := by have := hD0.2.2.1 (by decide); omega
  have hN22 : N2 ≤ 2000 := by have := hD0.2.2.2 (by decide); omega
  rw [hdN]
  have hM := R.Own.swap (R.Own.nil hM 106 3)
  have hM : R.Own [] w w7 (.blk g 101 [.slice A5 n5 c5, .bool d.2.2] :: .row none 0 0 106 3 [] :: .blk g5 44 [.int .i64 a.1, .slice B1 j d1, .slice none 0 0, .int .i64 e.1, .slice none 0 0] :: .row B1 j d1 93 4 (M.flatMap cRoad) :: .blk g2 44 zP :: nests M) := R.Own.perm hM (.cons _ (.cons _ (List.Perm.swap _ _ _)))
  (refine R.stepH ?_; (repeat' (first | (with_reducible refine And.intro ?_ ?_) | (with_reducible intro _))); all_goals refine R.Lft.mk ?_)
  refine R.WC_loop (fun s : Nat × Option Addr × Nat × (Option Addr × Nat × Nat) => [(2, .pointer (some ⟨g2, 0, none⟩)), (3, .int .i64 0), (4, .pointer (some ⟨g, 0, none⟩)), (5, .pointer (some ⟨g5, 0, none⟩)), (40, .int .i64 (N2 : Nat)), (41, .int .i64 (s.1 : Nat))])
    (fun s w1 => s.1 ≤ N2 ∧ Rdr [] w s.2.2.2.1 s.2.2.2.2.1 s.2.2.2.2.2 (rMany rBn s.1 d.2).2 ∧ R.Own [] w w1 (.blk g 101 [.slice s.2.2.2.1 s.2.2.2.2.1 s.2.2.2.2.2, .bool (rMany rBn s.1 d.2).2.2] :: .row s.2.1 s.1 s.2.2.1 106 3 ((rMany rBn s.1 d.2).1.flatMap cBn) :: .blk g5 44 [.int .i64 a.1, .slice B1 j d1, .slice s.2.1 s.1 s.2.2.1, .int .i64 e.1, .slice none 0 0] :: .row B1 j d1 93 4 (M.flatMap cRoad) :: .blk g2 44 zP :: nests M)) (fun s => N2 - s.1) ⟨(0, none, 0, (A5, n5, c5)), ⟨rfl, rfl, rfl, rfl, rfl, rfl, trivial⟩, Nat.zero_le _, hR5, hM⟩ ?_
  clear hM
  rintro ⟨i, B2, d2, ⟨A6, n6, c6⟩⟩ f w8 ⟨hi, hR6, hM⟩
  dsimp only at hi hR6 hM ⊢
  have hKl := rMany_len rBn d.2 i
  obtain ⟨K1, hK1⟩ : ∃ K1, rMany rBn i d.2 = K1 := ⟨_, rfl⟩
  rw [hK1] at hR6 hM hKl
  by_cases hlt : i < N2
  · (refine R.stepH ?_; (repeat' (first | (with_reducible refine And.intro ?_ ?_) | (with_reducible intro _))); all_goals refine R.Lft.mk ?_)
    refine R.WC_planXD2 [(0, false), (1, false), (2, false), (3, false), (5, false), (7, false), (4, true), (6, true), (8, true), (9, false), (10, false), (11, true), (12, true), (13, false), (14, false), (15, true)] R.mixed (by decide +kernel) R.ohm ?_
    (refine R.stepH ?_; (repeat' (first | (with_reducible refine And.intro ?_ ?_) | (with_reducible intro _))); all_goals refine R.Lft.mk ?_)
    refine R.WO_call1 rfl rfl R.vv ?_
    refine (any_own hR6 R.ohm).mono ?_
    rintro _ w9 ⟨rfl, A7, n7, c7, hR7, hM⟩
    refine ⟨_, rfl, R.Own.tl (R.Own.tl hM), ?_⟩
    (refine R.stepH ?_; (repeat' (first | (with_reducible refine And.intro ?_ ?_) | (with_reducible intro _))); all_goals refine R.Lft.mk ?_)
    refine R.WO_call1 rfl rfl R.vv ?_
    refine (any_own hR7 R.ohm).mono ?_
    rintro _ w10 ⟨rfl, A8, n8, c8, hR8, hM⟩
    refine ⟨_, rfl, R.Own.tl (R.Own.tl hM), ?_⟩
    (refine R.stepH ?_; (repeat' (first | (with_reducible refine And.intro ?_ ?_) | (with_reducible intro _))); all_goals refine R.Lft.mk ?_)
    refine R.WO_call3 rfl rfl R.vv R.vv R.vv ?_
    refine (num_own hR8 (by unfold In64; omega) (by unfold In64; omega) R.ohm).mono ?_
    rintro _ w11 ⟨rfl, A9, n9, c9, hR9, hM⟩
    refine ⟨_, rfl, R.Own.tl (R.Own.tl hM), ?_⟩
    (refine R.stepH ?_; (repeat' (first | (with_reducible refine And.intro ?_ ?_) | (with_reducible intro _))); all_goals refine R.Lft.mk ?_)
    have hs : rMany rBn (i + 1) d.2 = (K1.1 ++ [(rBn K1.2).1], (rBn K1.2).2) := by rw [rMany, hK1]
    rename_i B8 d8 _ _ _ hM
    refine ⟨(i + 1, B8, d8, (A9, n9, c9)), ⟨rfl, rfl, rfl, rfl, rfl, R.viaI rfl (by dsimp only; omega), trivial⟩, ⟨by dsimp only; omega, ?_, ?_⟩, by dsimp only; omega⟩
    · dsimp only
      rw [hs]
      exact hR9
    · dsimp only
      rw [hs]
      exact hM
  obtain rfl : i = N2 := by omega
  clear hlt
  obtain ⟨h, hh⟩ : ∃ h, rN 0 2000 K1.2 = h := ⟨_, rfl⟩
  have hH0 := rN_in 0 2000 K1.2 hR6.2.2.2.2
  rw [hh] at hH0
  (refine R.stepH ?_; (repeat' (first | (with_reducible refine And.intro ?_ ?_) | (with_reducible intro _))); all_goals refine R.Lft.mk ?_)
  refine R.WO_call3 rfl rfl R.vv R.vv R.vv ?_
  refine (num_own hR6 (by unfold In64; omega) (by unfold In64; omega) R.ohm).mono ?_
  rw [hh]
  rintro _ w9 ⟨rfl, A7, n7, c7, hR7, hM⟩
  refine ⟨_, rfl, ?_⟩
  obtain ⟨N3, hN3d⟩ : ∃ N3, h.1.toNat = N3 := ⟨_, rfl⟩
  have hhN : h.1 = (N3 : Nat) := by have := hH0.2.2.1 (by decide); omega
  have hN32 : N3 ≤ 2000 := by have := hH0.2.2.2 (by decide); omega
  rw [hhN]
  have hM : R.Own [] w w9 (.blk g 101 [.slice A7 n7 c7, .bool h.2.2] :: .row none 0 0 3 1 [] :: .blk g5 44 [.int .i64 a.1, .slice B1 j d1, .slice B2 i d2, .int .i64 e.1, .slice none 0 0] :: .row B2 i d2 106 3 (K1.1.flatMap cBn) :: .row B1 j d1 93 4 (M.flatMap cRoad) :: .blk g2 44 zP :: nests M) := R.Own.perm (R.Own.swap (R.Own.nil hM 3 1)) (.cons _ (.cons _ (List.Perm.swap _ _ _)))
  (refine R.stepH ?_; (repeat' (first | (with_reducible refine And.intro ?_ ?_) | (with_reducible intro _))); all_goals refine R.Lft.mk ?_)
  refine R.WC_loop (fun s : Nat × Option Addr × Nat × (Option Addr × Nat × Nat) => [(2, .pointer (some ⟨g2, 0, none⟩)), (3, .int .i64 0), (4, .pointer (some ⟨g, 0, none⟩)), (5, .pointer (some ⟨g5, 0, none⟩)), (60, .int .i64 (N3 : Nat)), (61, .int .i64 (s.1 : Nat))])
    (fun s w1 => s.1 ≤ N3 ∧ Rdr [] w s.2.2.2.1 s.2.2.2.2.1 s.2.2.2.2.2 (rMany rAny s.1 h.2).2 ∧ R.Own [] w w1 (.blk g 101 [.slice s.2.2.2.1 s.2.2.2.2.1 s.2.2.2.2.2, .bool (rMany rAny s.1 h.2).2.2] :: .row s.2.1 s.1 s.2.2.1 3 1 ((rMany rAny s.1 h.2).1.flatMap R.cI) :: .blk g5 44 [.int .i64 a.1, .slice B1 j d1, .slice B2 i d2, .int .i64 e.1, .slice s.2.1 s.1 s.2.2.1] :: .row B2 i d2 106 3 (K1.1.flatMap cBn) :: .row B1 j d1 93 4 (M.flatMap cRoad) :: .blk g2 44 zP :: nests M)) (fun s => N3 - s.1) ⟨(0, none, 0, (A7, n7, c7)), ⟨rfl, rfl, rfl, rfl, rfl, rfl, trivial⟩, Nat.zero_le _, hR7, hM⟩ ?_
  clear hM
  rintro ⟨k, B3, d3, ⟨A8, n8, c8⟩⟩ f w10 ⟨hk, hR8, hM⟩
  dsimp only at hk hR8 hM ⊢
  have hCl := rMany_len rAny h.2 k
  obtain ⟨C1, hC1⟩ : ∃ C1, rMany rAny k h.2 = C1 := ⟨_, rfl⟩
  rw [hC1] at hR8 hM hCl
  by_cases hlt : k < N3
  · (refine R.stepH ?_; (repeat' (first | (with_reducible refine And.intro ?_ ?_) | (with_reducible intro _))); all_goals refine R.Lft.mk ?_)
    refine R.WC_planXD2 [(0, false), (1, false), (2, false), (3, true), (4, true), (5, true), (6, false), (7, true)] R.mixed (by decide +kernel) R.ohm ?_
    (refine R.stepH ?_; (repeat' (first | (with_reducible refine And.intro ?_ ?_) | (with_reducible intro _))); all_goals refine R.Lft.mk ?_)
    refine R.WO_call1 rfl rfl R.vv ?_
    refine (any_own hR8 R.ohm).mono ?_
    rintro _ w11 ⟨rfl, A9, n9, c9, hR9, hM⟩
    refine ⟨_, rfl, R.Own.tl (R.Own.tl hM), ?_⟩
    (refine R.stepH ?_; (repeat' (first | (with_reducible refine And.intro ?_ ?_) | (with_reducible intro _))); all_goals refine R.Lft.mk ?_)
    have hs : rMany rAny (k + 1) h.2 = (C1.1 ++ [(rAny C1.2).1], (rAny C1.2).2) := by rw [rMany, hC1]
    rename_i B8 d8 _ _ _ hM
    refine ⟨(k + 1, B8, d8, (A9, n9, c9)), ⟨rfl, rfl, rfl, rfl, rfl, R.viaI rfl (by dsimp only; omega), trivial⟩, ⟨by dsimp only; omega, ?_, ?_⟩, by dsimp only; omega⟩
    · dsimp only
      rw [hs]
      exact hR9
    · dsimp only
      rw [hs]
      exact hM
  obtain rfl : k = N3 := by omega
  clear hlt
  obtain ⟨p, hp⟩ : ∃ p : Pln, p = ⟨a.1, ⟨B1, j, d1, M⟩, ⟨B2, i, d2, K1.1⟩, e.1, ⟨B3, k, d3, C1.1⟩⟩ := ⟨_, rfl⟩
  have hrp : rPlain (T, false) = (vP p, C1.2) := by
    unfold rPlain vP
    simp only [ha, hbb, hN, hR1d, he, hd, hN2d, hK1, hh, hN3d, hC1, hp, hMv]
  have hwl : WLP p := by rw [hp]; exact ⟨hMl.symm, hKl.symm, hCl.symm, hMk⟩
  have sb := n_sml 0 200 sa.1
  rw [hbb] at sb
  have sR := rMany_pair rRoad smRV (fun s hs => road_sml hs) _ sb.1 j
  rw [hR1d] at sR
  have sd := n_sml 0 2000 se.1
  rw [hd] at sd
  have sK := rMany_pair rBn (fun b => sml b.frm ∧ sml b.to) (fun s hs => bn_sml hs) _ sd.1 i
  rw [hK1] at sK
  have sh := n_sml 0 2000 sK.1
  rw [hh] at sh
  have sC := rMany_pair rAny sml (fun s hs => any_sml hs) _ sh.1 k
  rw [hC1] at sC
  have hsm : smPV (vP p) := by
    rw [hp]
    refine ⟨sa.2, se.2, ?_, sK.2, sC.2⟩
    dsimp only [vP]
    rw [hMv]
    exact sR.2
  have hno : ∀ w2, (C1.2 ≠ ([], false) ∨ mayV p = false) → R.Own [] w w2 [] → Below w.heap.size w w2 ∧ ((false = true → R.Own [] w w2 (nestP p) ∧ WLP p ∧ smPV (vP p) ∧ mayV p = true ∧ ∃ T, L = 83 :: T ∧ rPlain (T, false) = (vP p, ([], false))) ∧ (false = false → ∀ T q, L = 83 :: T → WLP q → rPlain (T, false) = (vP q, ([], false)) → mayV q = false)) := fun w2 hor hM2 => by
    refine ⟨R.Own.below hM2, fun h => (by cases h), fun _ T2 q hT2 hq hr => ?_⟩
    have hTT : T2 = T := by
      rw [hL] at hT2
      injection hT2 with _ h2
      exact h2.symm
    rw [hTT, hrp] at hr
    injection hr with h1 h2
    rcases hor with h | h
    · exact absurd h2 h
    · rw [← mayV_v h1 hwl hq]
      exact h
  have hMp : ∀ w2 z, R.Own [] w w2 (.blk g 101 [.slice A8 n8 c8, .bool C1.2.2] :: .row B3 k d3 3 1 (C1.1.flatMap R.cI) :: .blk g5 44 [.int .i64 a.1, .slice B1 j d1, .slice B2 i d2, .int .i64 e.1, .slice B3 k d3] :: .row B2 i d2 106 3 (K1.1.flatMap cBn) :: .row B1 j d1 93 4 (M.flatMap cRoad) :: .blk g2 44 z :: nests M) → R.Own [] w w2 (nestP p) := fun w2 z hM2 => by
    have h1 := R.pk (r := .row B1 j d1 _ _ _) (R.pk (r := .row B2 i d2 _ _ _) (R.pk (r := .row B3 k d3 _ _ _) hM2))
    rw [hp]
    exact R.Own.sub h1 (.cons_cons _ (.cons_cons _ (.cons_cons _ (.cons _ (.cons _ (.cons _ (List.Sublist.refl _)))))))
  have hn8 := hR8.2.1
  (refine R.stepH ?_; (repeat' (first | (with_reducible refine And.intro ?_ ?_) | (with_reducible intro _))); all_goals refine R.Lft.mk ?_)
  · rename_i hb2 _ hM2
    exact ⟨false, p, rfl, hno _ (.inl fun h => by rw [h] at hb2; cases hb2) (R.Own.nul hM2)⟩
  · rename_i _ hb2 _ hM2
    exact ⟨false, p, rfl, hno _ (.inl fun h => by rw [h] at hn8; simp at hn8; omega) (R.Own.nul hM2)⟩
  rename_i hb2 hb3
  have e1 : C1.2 = ([], false) := Prod.ext (List.eq_nil_of_length_eq_zero (by omega)) hb2
  have hO := hMp _ _ hM
  have hG := GPln.new hsm hwl hO fun r hr => hr
  refine R.WO_call1 rfl rfl R.vv ?_
  show R.callT _ _ #[.agg (cPln ⟨a.1, ⟨B1, j, d1, M⟩, ⟨B2, i, d2, K1.1⟩, e.1, ⟨B3, k, d3, C1.1⟩⟩).toArray] _ _
  rw [← hp]
  refine (may_any p _ hG (by rw [hp]; dsimp only; omega)).mono ?_
  rintro _ w11 ⟨rfl, hb11⟩
  have hM := R.Own.call hM hb11
  refine ⟨_, rfl, ?_⟩
  cases hmv : mayV p with
  | false =>
    (refine R.stepH ?_; (repeat' (first | (with_reducible refine And.intro ?_ ?_) | (with_reducible intro _))); all_goals refine R.Lft.mk ?_)
    exact ⟨false, p, rfl, hno _ (.inr hmv) (R.Own.nul R.ohm)⟩
  | true =>
    (refine R.stepH ?_; (repeat' (first | (with_reducible refine And.intro ?_ ?_) | (with_reducible intro _))); all_goals refine R.Lft.mk ?_)
    refine ⟨true, p, by rw [hp]; rfl, R.Own.below R.ohm, fun _ => ⟨hMp _ _ R.ohm, hwl, hsm, hmv, T, hL, by rw [hrp, e1]⟩, fun h => (by cases h)⟩
end
end Go.Proofs.Ytegbidklcaccjaa
