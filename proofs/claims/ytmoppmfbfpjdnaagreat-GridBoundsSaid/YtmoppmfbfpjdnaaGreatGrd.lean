/- The cross: a net of four edges; it may be. Corners of nodes at whole numbers; a grid's own small functions. A grid's own small functions; in which square a point lies, and how far it is: the walks. Which nets are near; the box of an edge: the walks. grid.lay, where there is one square; the grid of the cross. The grid of the cross: its walk; awake31. -/
import Derived.Test.YtmoppmfbfpjdnaaGreatNo
import Derived.Test.YtmoppmfbfpjdnaaGreatFs
import Derived.Test.YtmoppmfbfpjdnaaGreatGrn
import Derived.Test.YtmoppmfbfpjdnaaGreatCf
import Derived.Test.YtmoppmfbfpjdnaaGreatSo
namespace Go.Proofs.YtmoppmfbfpjdnaaGreat
open Go.RowKit
open R (In64 InU64 lo64 nth)

namespace R
section
variable {P : Program} {n : Nat} {f : Fr} {w : World}
/-- .. where what lies in front is changed before all is loaded. -/
theorem WC_planXD1 {F : List Nat} {W : World} {L : List Res} {r1 : Res} {Q : Exit → Fr → World → Prop} {id : Nat} {l : List Oper} (pl : List (Nat × Bool)) (hm : P.follows .mixedOrders = true) (hB : planXOk l.toArray pl = true) (hM : Own F W w (r1 :: L))
    (h : ∀ w1, Own F W w1 (r1 :: L) → WX P l.toArray n (fun w2 => Own F W w2 L) (fun w2 => Own F W w2 L) (fun f' w' => Q .normal f' w') pl f w1) : WC P n Q (.region id l.toArray true) f w := by
  unfold WC
  intro a ha
  simp only [planXOk, Bool.and_eq_true, beq_iff_eq] at hB
  have h1 := h _ hM.drew a _ ha hB.1.2 hB.2 fun _ _ _ => .inl hM.drew.tl
  rw [hB.1.1] at h1
  refine wp_mono (wp_region_any (id := id) (Q := planQ n fun f' w' => Q .normal f' w') hm (wpAnyX_any _ _ _ _ h1)) fun e a' w' he => ?_
  obtain ⟨rfl, f', ha', hq⟩ := he
  exact ⟨f', ha', hq⟩
end
end R
def crossS (k : Nat) : List Sp := (List.range k).map fun i => atS ((i : Nat) : Int) 0
def crossE (k : Nat) : List Ed := (List.range k).map fun i => ⟨0, ((i : Nat) : Int) + 1, ((i : Nat) : Int) + 1, true, decide (((i : Nat) : Int) + 1 ≠ 2)⟩
theorem crossS_succ (k : Nat) : crossS (k + 1) = crossS k ++ [atS (k : Nat) 0] := by unfold crossS; rw [List.range_succ, List.map_append]; rfl
theorem crossE_succ (k : Nat) : crossE (k + 1) = crossE k ++ [⟨0, ((k : Nat) : Int) + 1, ((k : Nat) : Int) + 1, true, decide (((k : Nat) : Int) + 1 ≠ 2)⟩] := by unfold crossE; rw [List.range_succ, List.map_append]; rfl
def crossN (A B : Option Addr) (c d : Nat) : Nt := ⟨⟨A, 5, c, crossS 5⟩, ⟨B, 4, d, crossE 4⟩, ⟨none, 0, 0, []⟩⟩
set_option maxHeartbeats 2000000 in
attribute [local irreducible] W512 in
theorem cross_any (w : World) : Calls Tryz.prog 14 #[] w fun e w' => ∃ A B c d, e = .returned (.agg (cNt (crossN A B c d)).toArray) ∧ R.Own [] w w' [.row A 5 c 52 26 ((crossS 5).flatMap cSp), .row B 4 d 54 5 ((crossE 4).flatMap cEd)] := by
  have hM := R.Own.start [] w
  refine R.calls_of_WC (fn := Tryz.f14) Tryz.func14 rfl Tryz.ntmps14 (Nat.le_of_ble_eq_true rfl) ?_
  (refine R.stepV ?_; (repeat' (first | (with_reducible refine And.intro ?_ ?_) | (with_reducible intro _))); all_goals refine R.Lft.mk ?_)
  rename_i g0 _ _ g _ _ w1 hM
  have hM := R.Own.nil hM 52 26
  refine R.WC_loop (fun i : Nat × Option Addr × Nat => [(0, .pointer (some ⟨g0, 0, none⟩)), (1, .pointer (some ⟨g, 0, none⟩)), (2, .int .i64 (i.1 : Nat))])
    (fun i w2 => i.1 ≤ 5 ∧ R.Own [] w w2 [.row i.2.1 i.1 i.2.2 52 26 ((crossS i.1).flatMap cSp), .blk g 26 [.slice i.2.1 i.1 i.2.2, .slice none 0 0, .slice none 0 0], .blk g0 26 [.slice none 0 0, .slice none 0 0, .slice none 0 0]]) (fun i => 5 - i.1)
    ⟨(0, none, 0), ⟨rfl, rfl, rfl, trivial⟩, by decide, hM⟩ ?_
  clear hM
  rintro ⟨k, A, c⟩ f w2 ⟨hk, hM⟩
  dsimp only at hk hM ⊢
  by_cases hlt : k < 5
  · have hs := crossS_succ k
    have hl : (crossS k).length = k := by simp [crossS]
    have hx0 : In64 ((k : Nat) : Int) := by unfold In64; omega
    have hy0 : In64 0 := by unfold In64; omega
    (refine R.stepU ?_; (repeat' (first | (with_reducible refine And.intro ?_ ?_) | (with_reducible intro _))); all_goals refine R.Lft.mk ?_)
    refine R.WC_planXD1 [(0, false), (1, false), (2, false), (3, false), (4, true), (5, true), (6, true), (7, false), (8, true)] R.mixed (by decide +kernel) R.ohm ?_
    (refine R.stepU ?_; (repeat' (first | (with_reducible refine And.intro ?_ ?_) | (with_reducible intro _))); all_goals refine R.Lft.mk ?_)
    rename_i A2 c2 _ _ _ hM
    rw [← hs] at hM
    exact ⟨(k + 1, A2, c2), ⟨rfl, rfl, R.viaI rfl (by dsimp only; omega), trivial⟩, ⟨by dsimp only; omega, hM⟩, by dsimp only; omega⟩
  obtain rfl : k = 5 := by omega
  (refine R.stepU ?_; (repeat' (first | (with_reducible refine And.intro ?_ ?_) | (with_reducible intro _))); all_goals refine R.Lft.mk ?_)
  have hM := R.Own.nil hM 54 5
  refine R.WC_loop (fun i : Nat × Option Addr × Nat => [(0, .pointer (some ⟨g0, 0, none⟩)), (1, .pointer (some ⟨g, 0, none⟩)), (3, .int .i64 ((i.1 : Nat) + 1))])
    (fun i w2 => i.1 ≤ 4 ∧ R.Own [] w w2 [.row i.2.1 i.1 i.2.2 54 5 ((crossE i.1).flatMap cEd), .row A 5 c 52 26 ((crossS 5).flatMap cSp), .blk g 26 [.slice A 5 c, .slice i.2.1 i.1 i.2.2, .slice none 0 0], .blk g0 26 [.slice none 0 0, .slice none 0 0, .slice none 0 0]]) (fun i => 4 - i.1)
    ⟨(0, none, 0), ⟨rfl, rfl, rfl, trivial⟩, by decide, hM⟩ ?_
  clear hM
  rintro ⟨k, B, d⟩ f w2 ⟨hk, hM⟩
  dsimp only at hk hM ⊢
  by_cases hlt : k < 4
  · have hs := crossE_succ k
    have hl : (crossE k).length = k := by simp [crossE]
    (refine R.stepU ?_; (repeat' (first | (with_reducible refine And.intro ?_ ?_) | (with_reducible intro _))); all_goals refine R.Lft.mk ?_)
    rename_i B2 d2 _ _ _ hM
    rw [← hs] at hM
    exact ⟨(k + 1, B2, d2), ⟨rfl, rfl, R.viaI rfl (by dsimp only; omega), trivial⟩, ⟨by dsimp only; omega, hM⟩, by dsimp only; omega⟩
  obtain rfl : k = 4 := by omega
  (refine R.stepU ?_; (repeat' (first | (with_reducible refine And.intro ?_ ?_) | (with_reducible intro _))); all_goals refine R.Lft.mk ?_)
  rename_i w3 hM
  exact ⟨A, B, c, d, rfl, R.Own.sub (R.pk (r := .row A _ c _ _ _) hM) R.subl⟩
theorem crossS_nth {i : Nat} (h : i < 5) : nth (crossS 5) i = atS (i : Nat) 0 := by
  rw [R.nth_eq (by simpa [crossS] using h)]
  simp [crossS]
theorem crossE_nth {i : Nat} (h : i < 4) : nth (crossE 4) i = ⟨0, ((i : Nat) : Int) + 1, ((i : Nat) : Int) + 1, true, decide (((i : Nat) : Int) + 1 ≠ 2)⟩ := by
  rw [R.nth_eq (by simpa [crossE] using h)]
  simp [crossE]
section
variable (A B : Option Addr) (c d : Nat)
theorem cross_netB : netB (crossN A B c d) = true := by
  refine netB_t ⟨by show (5 : Nat) ≤ 200000; decide, by show (4 : Nat) ≤ 200000; decide, by show (0 : Nat) ≤ 200000; decide, fun i hi => ⟨?_, fun h0 => ?_⟩, fun i hi => ?_, fun l hl => (by cases hl)⟩
  · have hi : i < 5 := hi
    show mayS (nth (crossS 5) i) = true
    rw [crossS_nth hi]
    exact mayS_at (by unfold In64; omega) (by unfold In64; omega)
  · have hi : i < 5 := hi
    show cmpS (nth (crossS 5) (i - 1)) (nth (crossS 5) i) < 0
    rw [crossS_nth hi, crossS_nth (by omega), cmpS_at (by unfold In64; omega) (by unfold In64; omega) (by unfold In64; omega) (by unfold In64; omega), cmpZ_lt (by omega)]
    unfold orI
    simp
  · have hi : i < 4 := hi
    show edgeP 5 (crossE 4) i
    unfold edgeP weightP ltE
    rw [crossE_nth hi, crossE_nth (show i - 1 < 4 by omega)]
    refine ⟨by dsimp only; omega, by dsimp only; omega, by dsimp only; omega, ⟨by dsimp only; omega, by dsimp only; omega⟩, .inl rfl, fun _ => .inr ⟨rfl, by dsimp only; omega⟩⟩
theorem cap_le {A : Option Addr} {F : List Nat} {W w : World} {l : List R.Res} {n c sz : Nat} {e : TypeId} {cs : List Value} (hM : R.Own F W w l) (hm : R.Res.row A n c e sz cs ∈ l) : n ≤ c ∧ c ≤ 9223372036854775807 := by
  have hr : w.ownsRow 0 e sz (.slice A n c) n cs := hM.ok _ hm
  rcases hr.2 with ⟨hv, h0⟩ | ⟨g, cap, cur, hv, _, _, h3, h4, _⟩
  · injection hv with _ _ a3
    omega
  · injection hv with _ _ a3
    unfold maxLen at *
    omega
theorem cross_G {W w : World} {l : List R.Res} (hM : R.Own [] W w l) (h1 : R.Res.row A 5 c 52 26 ((crossS 5).flatMap cSp) ∈ l) (h2 : R.Res.row B 4 d 54 5 ((crossE 4).flatMap cEd) ∈ l) : GNt w (crossN A B c d) := by
  have c1 := cap_le hM h1
  have c2 := cap_le hM h2
  refine ⟨⟨R.Own.inp hM h1, rfl, c1, fun _ _ => trivial⟩, ⟨R.Own.inp hM h2, rfl, c2, fun y hy => ?_⟩, ⟨R.Inp.nil _ _ _ _, rfl, ⟨Nat.le_refl _, by show (0 : Nat) ≤ 9223372036854775807; decide⟩, fun y hy => (by cases hy)⟩⟩
  obtain ⟨i, hi, rfl⟩ := List.mem_map.1 hy
  have hi := List.mem_range.1 hi
  unfold GEd
  refine ⟨by show (Lit.int .i64 0).wf = true; decide, ?_, ?_⟩
  · match i, hi with
    | 0, _ => decide
    | 1, _ => decide
    | 2, _ => decide
    | 3, _ => decide
  · match i, hi with
    | 0, _ => decide
    | 1, _ => decide
    | 2, _ => decide
    | 3, _ => decide
end
theorem GRl_own {W w : World} {l : List R.Res} {A : Option Addr} {n c : Nat} {M : List Bn} {p : Int} (hM : R.Own [] W w l) (hm : R.Res.row A n c 186 3 (M.flatMap cBn) ∈ l) (hn : n = M.length) (hG : ∀ y ∈ M, GBn w y) (hp : (Lit.int .i64 p).wf = true) : GRl w ⟨⟨A, n, c, M⟩, p⟩ :=
  ⟨⟨R.Own.inp hM hm, hn, cap_le hM hm, hG⟩, hp⟩
theorem GBn.now {W w : World} {y : Bn} (h : GBn W y) : GBn w y := h
instance con_light17 (x : Nt) (r : Rl) : R.ConB Tryz.prog 4 #[.agg (cNt x).toArray, .agg (cRl r).toArray] Unit (fun _ _ => True) (fun _ => .bool (decide (x.s.n ≤ 30 ∧ x.e.n ≤ 40 ∧ x.p.n ≤ 20 ∧ r.b.n ≤ 60))) := ⟨fun _ w _ => by
  have hM := R.Own.start [] w
  refine R.calls_of_WC (fn := Tryz.f4) Tryz.func4 rfl Tryz.ntmps4 (Nat.le_of_ble_eq_true rfl) ?_
  (refine R.stepV ?_; (repeat' (first | (with_reducible refine And.intro ?_ ?_) | (with_reducible intro _))); all_goals refine R.Lft.mk ?_)
  all_goals
    refine ⟨?_, R.Own.below (by assumption)⟩
    first
    | rw [show decide (x.s.n ≤ 30 ∧ x.e.n ≤ 40 ∧ x.p.n ≤ 20 ∧ r.b.n ≤ 60) = decide ((r.b.n : Int) ≤ 60) from decide_eq_decide.2 (by omega)]
    | rw [show decide (x.s.n ≤ 30 ∧ x.e.n ≤ 40 ∧ x.p.n ≤ 20 ∧ r.b.n ≤ 60) = false from decide_eq_false (by omega)]⟩
theorem R.Own.giveN {F : List Nat} {W w w' : World} {l lc : List R.Res} (h : R.Own F W w l) (hc : R.Own [] w w' lc) : R.Own F W w' (l ++ lc) := R.Own.callF (l := l) (lc := []) (by rw [List.append_nil]; exact h) hc
end Go.Proofs.YtmoppmfbfpjdnaaGreat
namespace Go.Proofs.YtmoppmfbfpjdnaaGreat
open Go.RowKit
open R (In64 InU64 lo64 nth)

attribute [local irreducible] cS cR cSp cW in
theorem indexFunc_Sp (A : Option Addr) (n c : Nat) (L : List Sp) (g : FuncId) [R.HasBody Tryz.prog g] (cap : List Value) (p : Sp → Bool) (w : World) (hA : R.Inp [] w A n 26 (L.flatMap cSp)) (hn : n = L.length) (hb : n ≤ 9223372036854775807)
    (hp : ∀ x w1, x ∈ L → Below w.heap.size w w1 → Calls Tryz.prog g ([Value.agg (cSp x).toArray] ++ cap).toArray w1 fun e w' => e = .returned (.bool (p x)) ∧ Below w1.heap.size w1 w') :
    Calls Tryz.prog 72 #[.slice A n c, .func (.func g) #[] cap.toArray] w fun e w' => e = .returned (.int .i64 (ixOf p L)) ∧ Below w.heap.size w w' := by
  have hM := R.Own.start [] w
  refine R.calls_of_WC (fn := Tryz.f72) Tryz.func72 rfl Tryz.ntmps72 (Nat.le_of_ble_eq_true rfl) ?_
  (refine R.stepV ?_; (repeat' (first | (with_reducible refine And.intro ?_ ?_) | (with_reducible intro _))); all_goals refine R.Lft.mk ?_)
  refine R.WC_loop (fun k : Nat => [(0, .slice A n c), (1, .func (.func g) #[] cap.toArray), (4, .int .i64 0), (7, .int .i64 (n : Nat)), (8, .int .i64 (k : Nat))])
    (fun k w1 => k ≤ n ∧ R.Own [] w w1 [] ∧ ∀ x ∈ L.take k, p x = false) (fun k => n - k) ⟨0, ⟨rfl, rfl, rfl, rfl, rfl, trivial⟩, by omega, hM, by simp⟩ ?_
  rintro k f w1 ⟨hk, hM, hall⟩
  by_cases hlt : k < n
  · have hx := R.nth_mem (L := L) (i := k) (by omega)
    have hcall := hp (nth L k) w1 hx hM.below
    (refine R.stepV ?_; (repeat' (first | (with_reducible refine And.intro ?_ ?_) | (with_reducible intro _))); all_goals refine R.Lft.mk ?_)
    refine R.WO_callc1 rfl rfl R.vv ?_
    refine hcall.mono ?_
    rintro e w2 ⟨rfl, hb2⟩
    have hM := hM.call hb2
    refine ⟨_, rfl, ?_⟩
    (refine R.stepV ?_; (repeat' (first | (with_reducible refine And.intro ?_ ?_) | (with_reducible intro _))); all_goals refine R.Lft.mk ?_)
    · rename_i hpx
      refine ⟨?_, hM.below⟩
      rw [ixOf_at (k := k) (by omega) hall (by rw [← R.nth_eq]; exact hpx)]
    · rename_i hpx
      exact ⟨k + 1, ⟨rfl, rfl, rfl, rfl, R.viaI rfl (by omega), trivial⟩, ⟨by omega, hM, all_snoc (by omega) hall hpx⟩, by omega⟩
  · obtain rfl : k = n := by omega
    (refine R.stepV ?_; (repeat' (first | (with_reducible refine And.intro ?_ ?_) | (with_reducible intro _))); all_goals refine R.Lft.mk ?_)
    refine ⟨?_, hM.below⟩
    rw [ixOf_none (by rw [hn, List.take_length] at hall; exact hall)]
attribute [local irreducible] cS cR cSp cW in
theorem containsFunc_Sp (A : Option Addr) (n c : Nat) (L : List Sp) (g : FuncId) [R.HasBody Tryz.prog g] (cap : List Value) (p : Sp → Bool) (w : World) (hA : R.Inp [] w A n 26 (L.flatMap cSp)) (hn : n = L.length) (hb : n ≤ 9223372036854775807)
    (hp : ∀ x w1, x ∈ L → Below w.heap.size w w1 → Calls Tryz.prog g ([Value.agg (cSp x).toArray] ++ cap).toArray w1 fun e w' => e = .returned (.bool (p x)) ∧ Below w1.heap.size w1 w') :
    Calls Tryz.prog 40 #[.slice A n c, .func (.func g) #[] cap.toArray] w fun e w' => e = .returned (.bool (L.any p)) ∧ Below w.heap.size w w' := by
  refine R.calls_of_WC (fn := Tryz.f40) Tryz.func40 rfl Tryz.ntmps40 (Nat.le_of_ble_eq_true rfl) ?_
  (refine R.stepV ?_; (repeat' (first | (with_reducible refine And.intro ?_ ?_) | (with_reducible intro _))); all_goals refine R.Lft.mk ?_)
  refine R.WO_call2 rfl rfl R.vv R.vv ?_
  refine (indexFunc_Sp A n c L g cap p w hA hn hb hp).mono ?_
  rintro e w1 ⟨rfl, hb1⟩
  refine ⟨_, rfl, ?_⟩
  (refine R.stepV ?_; (repeat' (first | (with_reducible refine And.intro ?_ ?_) | (with_reducible intro _))); all_goals refine R.Lft.mk ?_)
  rw [ixOf_any]
  exact ⟨rfl, hb1⟩
def dnN (s : Sg) (b : Wd) : Int := smZ (ovS s ⟨false, b⟩).z
def dnP (s : Sg) (b : Wd) : Prop := b.n ≠ 0 ∧ -1073741824 ≤ (ovS s ⟨false, b⟩).z ∧ (ovS s ⟨false, b⟩).z ≤ 1073741824
instance dec_dnP (s : Sg) (b : Wd) : Decidable (dnP s b) := by unfold dnP; infer_instance
def upN (s : Sg) (b : Wd) : Int := IntKind.i64.wrap (-(dnN (sgn (-s.z)) b))
def upP (s : Sg) (b : Wd) : Prop := dnP (sgn (-s.z)) b
instance dec_upP (s : Sg) (b : Wd) : Decidable (upP s b) := by unfold upP; infer_instance
attribute [local irreducible] ovS in
theorem down_any (s : Sg) (b : Wd) (w : World) : Calls Tryz.prog 73 #[.agg (cS s).toArray, .agg (cW b).toArray] w fun e w' => e = .returned (.tuple #[.int .i64 (dnN s b), .bool (decide (dnP s b))]) ∧ Below w.heap.size w w' := by
  have hM := R.Own.start [] w
  obtain ⟨Q, hQ⟩ : ∃ Q, ovS s ⟨false, b⟩ = Q := ⟨_, rfl⟩
  have hi := con_sover s ⟨false, b⟩
  have e1 : dnN s b = smZ Q.z := by unfold dnN; rw [hQ]
  have e2 : dnP s b ↔ b.n ≠ 0 ∧ -1073741824 ≤ Q.z ∧ Q.z ≤ 1073741824 := by unfold dnP; rw [hQ]
  rw [hQ] at hi
  rw [e1, show decide (dnP s b) = decide (b.n ≠ 0 ∧ -1073741824 ≤ Q.z ∧ Q.z ≤ 1073741824) from decide_eq_decide.2 e2]
  clear e1 e2
  by_cases h0 : b.n = 0
  · have i1 : R.ConB Tryz.prog 92 #[.agg (cS s).toArray, .agg (cS ⟨false, b⟩).toArray] Unit (fun _ _ => True) (fun _ => .tuple #[.agg (cS Q).toArray, .int .i64 1]) := ⟨fun s w h => by
      have q := hi.h s w h
      rw [show eW (⟨false, b⟩ : Sg).mag = 1 by unfold eW; rw [if_pos h0]] at q
      exact q⟩
    rw [decide_eq_false (fun h => h.1 h0)]
    clear hi
    refine R.calls_of_WC (fn := Tryz.f73) Tryz.func73 rfl Tryz.ntmps73 (Nat.le_of_ble_eq_true rfl) ?_
    (refine R.stepU ?_; (repeat' (first | (with_reducible refine And.intro ?_ ?_) | (with_reducible intro _))); all_goals refine R.Lft.mk ?_)
    exact ⟨rfl, R.Own.below R.ohm⟩
  · have i1 : R.ConB Tryz.prog 92 #[.agg (cS s).toArray, .agg (cS ⟨false, b⟩).toArray] Unit (fun _ _ => True) (fun _ => .tuple #[.agg (cS Q).toArray, .int .i64 0]) := ⟨fun s w h => by
      have q := hi.h s w h
      rw [show eW (⟨false, b⟩ : Sg).mag = 0 by unfold eW; rw [if_neg h0]] at q
      exact q⟩
    clear hi
    by_cases hq : -9223372036854775808 ≤ Q.z ∧ Q.z ≤ 9223372036854775807
    · have i2 : R.ConB Tryz.prog 93 #[.agg (cS Q).toArray] Unit (fun _ _ => True) (fun _ => .tuple #[.int .i64 Q.z, .bool true]) := ⟨fun s w h => by
        have q := (con_ssmall Q).h s w h
        rw [show smZ Q.z = Q.z by unfold smZ; rw [if_pos hq], decide_eq_true hq] at q
        exact q⟩
      rw [show smZ Q.z = Q.z by unfold smZ; rw [if_pos hq]]
      refine R.calls_of_WC (fn := Tryz.f73) Tryz.func73 rfl Tryz.ntmps73 (Nat.le_of_ble_eq_true rfl) ?_
      (refine R.stepU ?_; (repeat' (first | (with_reducible refine And.intro ?_ ?_) | (with_reducible intro _))); all_goals refine R.Lft.mk ?_)
      · refine ⟨?_, R.Own.below R.ohm⟩
        rw [show decide (b.n ≠ 0 ∧ -1073741824 ≤ Q.z ∧ Q.z ≤ 1073741824) = decide (Q.z ≤ 1073741824) from decide_eq_decide.2 ⟨fun h => h.2.2, fun h => ⟨h0, by assumption, h⟩⟩]
      · refine ⟨?_, R.Own.below R.ohm⟩
        rw [decide_eq_false (fun h : b.n ≠ 0 ∧ -1073741824 ≤ Q.z ∧ Q.z ≤ 1073741824 => absurd h.2.1 (by assumption))]
    · have i2 : R.ConB Tryz.prog 93 #[.agg (cS Q).toArray] Unit (fun _ _ => True) (fun _ => .tuple #[.int .i64 0, .bool false]) := ⟨fun s w h => by
        have q := (con_ssmall Q).h s w h
        rw [show smZ Q.z = 0 by unfold smZ; rw [if_neg hq], decide_eq_false hq] at q
        exact q⟩
      rw [show smZ Q.z = 0 by unfold smZ; rw [if_neg hq], decide_eq_false (fun h => hq ⟨by omega, by omega⟩)]
      refine R.calls_of_WC (fn := Tryz.f73) Tryz.func73 rfl Tryz.ntmps73 (Nat.le_of_ble_eq_true rfl) ?_
      (refine R.stepU ?_; (repeat' (first | (with_reducible refine And.intro ?_ ?_) | (with_reducible intro _))); all_goals refine R.Lft.mk ?_)
      exact ⟨rfl, R.Own.below R.ohm⟩
instance con_down (s : Sg) (b : Wd) : R.ConB Tryz.prog 73 #[.agg (cS s).toArray, .agg (cW b).toArray] Unit (fun _ _ => True) (fun _ => .tuple #[.int .i64 (dnN s b), .bool (decide (dnP s b))]) := ⟨fun _ w _ => down_any s b w⟩
theorem up_any (s : Sg) (b : Wd) (w : World) : Calls Tryz.prog 74 #[.agg (cS s).toArray, .agg (cW b).toArray] w fun e w' => e = .returned (.tuple #[.int .i64 (upN s b), .bool (decide (upP s b))]) ∧ Below w.heap.size w w' := by
  have hM := R.Own.start [] w
  unfold upN upP
  refine R.calls_of_WC (fn := Tryz.f74) Tryz.func74 rfl Tryz.ntmps74 (Nat.le_of_ble_eq_true rfl) ?_
  (refine R.stepU ?_; (repeat' (first | (with_reducible refine And.intro ?_ ?_) | (with_reducible intro _))); all_goals refine R.Lft.mk ?_)
  refine R.WC_planX [(0, false), (2, false), (1, true), (3, true), (4, false), (5, false), (6, false), (7, false), (8, false)] R.mixed (by decide +kernel) R.ohm ?_
  (refine R.stepU ?_; (repeat' (first | (with_reducible refine And.intro ?_ ?_) | (with_reducible intro _))); all_goals refine R.Lft.mk ?_)
  refine R.WO_neg rfl rfl ?_
  (refine R.stepU ?_; (repeat' (first | (with_reducible refine And.intro ?_ ?_) | (with_reducible intro _))); all_goals refine R.Lft.mk ?_; (all_goals (try (exact ⟨rfl, R.Own.below (by assumption)⟩))))
instance con_up (s : Sg) (b : Wd) : R.ConB Tryz.prog 74 #[.agg (cS s).toArray, .agg (cW b).toArray] Unit (fun _ _ => True) (fun _ => .tuple #[.int .i64 (upN s b), .bool (decide (upP s b))]) := ⟨fun _ w _ => up_any s b w⟩
def lowQ (x : Sp) : Pq := ⟨dnN x.x x.w, dnN x.y x.w⟩
def highQ (x : Sp) : Pq := ⟨upN x.x x.w, upN x.y x.w⟩
def nearP (x : Sp) : Prop := dnP x.x x.w ∧ dnP x.y x.w ∧ upP x.x x.w ∧ upP x.y x.w
instance dec_nearP (x : Sp) : Decidable (nearP x) := by unfold nearP; infer_instance
set_option maxHeartbeats 1000000 in
theorem corners_any (x : Sp) (w : World) : Calls Tryz.prog 42 #[.agg (cSp x).toArray] w fun e w' => e = .returned (.tuple #[.agg (cPq (lowQ x)).toArray, .agg (cPq (highQ x)).toArray, .bool (decide (nearP x))]) ∧ Below w.heap.size w w' := by
  have hM := R.Own.start [] w
  refine R.calls_of_WC (fn := Tryz.f42) Tryz.func42 rfl Tryz.ntmps42 (Nat.le_of_ble_eq_true rfl) ?_
  (refine R.stepU ?_; (repeat' (first | (with_reducible refine And.intro ?_ ?_) | (with_reducible intro _))); all_goals refine R.Lft.mk ?_)
  all_goals
    refine ⟨?_, R.Own.below R.ohm⟩
    first
    | (rw [show decide (nearP x) = decide (upP x.y x.w) from decide_eq_decide.2 ⟨fun h => h.2.2.2, fun h => ⟨by assumption, by assumption, by assumption, h⟩⟩]; rfl)
    | (rw [decide_eq_false (fun h : nearP x => absurd h.1 (by assumption))]; rfl)
    | (rw [decide_eq_false (fun h : nearP x => absurd h.2.1 (by assumption))]; rfl)
    | (rw [decide_eq_false (fun h : nearP x => absurd h.2.2.1 (by assumption))]; rfl)
instance con_corners (x : Sp) : R.ConB Tryz.prog 42 #[.agg (cSp x).toArray] Unit (fun _ _ => True) (fun _ => .tuple #[.agg (cPq (lowQ x)).toArray, .agg (cPq (highQ x)).toArray, .bool (decide (nearP x))]) := ⟨fun _ w _ => corners_any x w⟩
theorem near1_any (x : Sp) (w : World) : Calls Tryz.prog 41 #[.agg (cSp x).toArray] w fun e w' => e = .returned (.bool (!decide (nearP x))) ∧ Below w.heap.size w w' := by
  have hM := R.Own.start [] w
  refine R.calls_of_WC (fn := Tryz.f41) Tryz.func41 rfl Tryz.ntmps41 (Nat.le_of_ble_eq_true rfl) ?_
  (refine R.stepU ?_; (repeat' (first | (with_reducible refine And.intro ?_ ?_) | (with_reducible intro _))); all_goals refine R.Lft.mk ?_; (all_goals (try (exact ⟨rfl, R.Own.below (by assumption)⟩))))
end Go.Proofs.YtmoppmfbfpjdnaaGreat
namespace Go.Proofs.YtmoppmfbfpjdnaaGreat
open Go.RowKit
open R (In64 InU64 lo64 nth)

instance encc_Gq : R.EncC cGq 6 := ⟨fun _ => rfl, by simp [cGq, Value.oneCell'], by decide⟩
theorem gnear_any (a b : Int) (w : World) : Calls Tryz.prog 44 #[.agg #[.int .i64 a, .int .i64 b]] w fun e w' => e = .returned (.bool (decide (-1073741824 ≤ a ∧ a ≤ 1073741824 ∧ -1073741824 ≤ b ∧ b ≤ 1073741824))) ∧ Below w.heap.size w w' := by
  have hM := R.Own.start [] w
  refine R.calls_of_WC (fn := Tryz.f44) Tryz.func44 rfl Tryz.ntmps44 (Nat.le_of_ble_eq_true rfl) ?_
  (refine R.stepN ?_; (repeat' (first | (with_reducible refine And.intro ?_ ?_) | (with_reducible intro _))); all_goals refine R.Lft.mk ?_)
  all_goals
    refine ⟨?_, R.Own.below R.ohm⟩
    first
    | rw [show decide (-1073741824 ≤ a ∧ a ≤ 1073741824 ∧ -1073741824 ≤ b ∧ b ≤ 1073741824) = decide (b ≤ 1073741824) from decide_eq_decide.2 (by omega)]
    | rw [show decide (-1073741824 ≤ a ∧ a ≤ 1073741824 ∧ -1073741824 ≤ b ∧ b ≤ 1073741824) = false from decide_eq_false (by omega)]
theorem pmay_any (p : Pq) (w : World) : Calls Tryz.prog 23 #[.agg (cPq p).toArray] w fun e w' => e = .returned (.bool (decide (mayPq p))) ∧ Below w.heap.size w w' := by
  have hM := R.Own.start [] w
  have i1 : ∀ n : Int, R.ConB Tryz.prog 45 #[.int .i64 n] Unit (fun _ _ => True) (fun _ => .bool (decide (-536870912 ≤ n ∧ n ≤ 536870912))) := fun n => ⟨fun _ w _ => by
    have hM := R.Own.start [] w
    refine R.calls_of_WC (fn := Tryz.f45) Tryz.func45 rfl Tryz.ntmps45 (Nat.le_of_ble_eq_true rfl) ?_
    (refine R.stepN ?_; (repeat' (first | (with_reducible refine And.intro ?_ ?_) | (with_reducible intro _))); all_goals refine R.Lft.mk ?_)
    all_goals
      refine ⟨?_, R.Own.below R.ohm⟩
      first
      | rw [show decide (-536870912 ≤ n ∧ n ≤ 536870912) = decide (n ≤ 536870912) from decide_eq_decide.2 (by omega)]
      | rw [show decide (-536870912 ≤ n ∧ n ≤ 536870912) = false from decide_eq_false (by omega)]⟩
  have i2 := i1 p.x
  have i3 := i1 p.y
  refine R.calls_of_WC (fn := Tryz.f23) Tryz.func23 rfl Tryz.ntmps23 (Nat.le_of_ble_eq_true rfl) ?_
  (refine R.stepN ?_; (repeat' (first | (with_reducible refine And.intro ?_ ?_) | (with_reducible intro _))); all_goals refine R.Lft.mk ?_)
  all_goals
    refine ⟨?_, R.Own.below R.ohm⟩
    first
    | rw [show decide (mayPq p) = decide (-536870912 ≤ p.y ∧ p.y ≤ 536870912) from decide_eq_decide.2 (by unfold mayPq; omega)]
    | rw [show decide (mayPq p) = false from decide_eq_false (by unfold mayPq; omega)]
theorem gmay_any (g : Gq) (w : World) : Calls Tryz.prog 22 #[.agg (cGq g).toArray] w fun e w' => e = .returned (.bool (decide (mayGq g))) ∧ Below w.heap.size w w' := by
  have hM := R.Own.start [] w
  refine R.calls_of_WC (fn := Tryz.f22) Tryz.func22 rfl Tryz.ntmps22 (Nat.le_of_ble_eq_true rfl) ?_
  (refine R.stepN ?_; (repeat' (first | (with_reducible refine And.intro ?_ ?_) | (with_reducible intro _))); all_goals refine R.Lft.mk ?_)
  · refine R.WO_call1 rfl rfl R.vv ?_
    refine (gnear_any g.lx g.ly _).mono ?_
    rintro _ w3 ⟨rfl, hb3⟩
    have hM := R.Own.call R.ohm hb3
    refine ⟨_, rfl, ?_⟩
    (refine R.stepN ?_; (repeat' (first | (with_reducible refine And.intro ?_ ?_) | (with_reducible intro _))); all_goals refine R.Lft.mk ?_)
    refine ⟨?_, R.Own.below R.ohm⟩
    rw [show decide (mayGq g) = decide (-1073741824 ≤ g.lx ∧ g.lx ≤ 1073741824 ∧ -1073741824 ≤ g.ly ∧ g.ly ≤ 1073741824) from decide_eq_decide.2 (by unfold mayGq; omega)]
  all_goals
    refine ⟨?_, R.Own.below R.ohm⟩
    rw [show decide (mayGq g) = false from decide_eq_false (by unfold mayGq; omega)]
theorem WO_max3 {P : Program} {C : R.CallH} {o : Oper} {f : R.Fr} {w : World} {K : Value → World → Prop} {x y z : Operand} {ts : Array TypeId} {k : IntKind} {a b c : Int} (hop : o.op = .call { callee := .builtin .max, args := #[x, y, z], argTypes := ts }) (hx : R.ev f x = .int k a) (hy : R.ev f y = .int k b) (hz : R.ev f z = .int k c) (hk : K (.int k (max (max a b) c)) w) : R.WO P C o f w K := by
  refine R.WO_val ?_ hk
  have hr : (Builtin.max_ ts o.type #[.int k a, .int k b, .int k c]).run P w = .ok (.int k (if c > (if b > a then b else a) then c else (if b > a then b else a))) w := by
    simp [Builtin.max_, Builtin.max2]
  have e : (if c > (if b > a then b else a) then c else (if b > a then b else a)) = max (max a b) c := by
    split <;> split <;> omega
  rw [e] at hr
  simp [execOp, hop, hx, hy, hz, resolve, invoke, builtin, hr]
def gapV (n lo hi : Int) : Int := min (max (max (lo - n) (n - hi)) 0) 1073741824
theorem gapV_le (n lo hi : Int) : 0 ≤ gapV n lo hi ∧ gapV n lo hi ≤ 1073741824 := by unfold gapV; omega
theorem glast_any (f s m : Int) (hf : 0 ≤ f ∧ f ≤ 1099511627776) (hs : 1 ≤ s) (hm : 1 ≤ m ∧ m ≤ 1000) (w : World) : Calls Tryz.prog 38 #[.int .i64 f, .int .i64 s, .int .i64 m] w fun e w' => e = .returned (.int .i64 (lastV f s m)) ∧ Below w.heap.size w w' := by
  have hM := R.Own.start [] w
  unfold lastV
  refine R.calls_of_WC (fn := Tryz.f38) Tryz.func38 rfl Tryz.ntmps38 (Nat.le_of_ble_eq_true rfl) ?_
  (refine R.stepN ?_; (repeat' (first | (with_reducible refine And.intro ?_ ?_) | (with_reducible intro _))); all_goals refine R.Lft.mk ?_; (all_goals (try (exact ⟨rfl, R.Own.below (by assumption)⟩))))
theorem ggap_any (n lo hi : Int) (h1 : -1099511627776 ≤ n ∧ n ≤ 1099511627776) (h2 : -1099511627776 ≤ lo ∧ lo ≤ 1099511627776) (h3 : -1099511627776 ≤ hi ∧ hi ≤ 1099511627776) (w : World) : Calls Tryz.prog 24 #[.int .i64 n, .int .i64 lo, .int .i64 hi] w fun e w' => e = .returned (.int .i64 (gapV n lo hi)) ∧ Below w.heap.size w w' := by
  have hM := R.Own.start [] w
  unfold gapV
  refine R.calls_of_WC (fn := Tryz.f24) Tryz.func24 rfl Tryz.ntmps24 (Nat.le_of_ble_eq_true rfl) ?_
  (refine R.stepN ?_; (repeat' (first | (with_reducible refine And.intro ?_ ?_) | (with_reducible intro _))); all_goals refine R.Lft.mk ?_)
  refine WO_max3 rfl rfl rfl rfl ?_
  (refine R.stepN ?_; (repeat' (first | (with_reducible refine And.intro ?_ ?_) | (with_reducible intro _))); all_goals refine R.Lft.mk ?_; (all_goals (try (exact ⟨rfl, R.Own.below (by assumption)⟩))))
theorem mul_bd {a b A B : Int} (h1 : 0 ≤ a) (h2 : a ≤ A) (h3 : 0 ≤ b) (h4 : b ≤ B) : 0 ≤ a * b ∧ a * b ≤ A * B := ⟨Int.mul_nonneg h1 h3, Int.mul_le_mul h2 h4 h3 (by omega)⟩
end Go.Proofs.YtmoppmfbfpjdnaaGreat
namespace Go.Proofs.YtmoppmfbfpjdnaaGreat
open Go.RowKit
open R (In64 InU64 lo64 nth)

theorem gedge {x : Nt} {i : Nat} (h : netB x = true) (hi : i < x.e.n) : 0 ≤ (nth x.e.L i).a ∧ (nth x.e.L i).a < (nth x.e.L i).b ∧ (nth x.e.L i).b < x.s.n := by
  obtain ⟨h1, h2, h3, _⟩ := (netB_iff.1 h).2.2.2.2.1 i hi
  exact ⟨h1, h2, h3⟩
noncomputable def nearN (x : Nt) : Bool := decide (x.e.n ≤ 2000) && (netB x && !x.s.L.any fun s => !decide (nearP s))
theorem gnearN_any (x : Nt) (w : World) (hG : GNt w x) : Calls Tryz.prog 16 #[.agg (cNt x).toArray] w fun e w' => e = .returned (.bool (nearN x)) ∧ Below w.heap.size w w' := by
  have hM := R.Own.start [] w
  have hL := hG.lasts
  unfold nearN
  cases hb : netB x with
  | false =>
    have i1 : R.ConB Tryz.prog 39 #[.agg (cNt x).toArray] Unit (fun _ w => GNt w x) (fun _ => .bool false) := ⟨fun s w h => by
      have q := (con_netmay x).h s w h
      rw [hb] at q
      exact q⟩
    rw [Bool.false_and, Bool.and_false]
    have hen : x.e.n ≤ 9223372036854775807 := by obtain ⟨_, ⟨_, _, _, _⟩, _⟩ := hG; omega
    refine R.calls_of_WC (fn := Tryz.f16) Tryz.func16 rfl Tryz.ntmps16 (Nat.le_of_ble_eq_true rfl) ?_
    (refine R.stepU ?_; (repeat' (first | (with_reducible refine And.intro ?_ ?_) | (with_reducible intro _))); all_goals refine R.Lft.mk ?_; (all_goals (try (exact ⟨rfl, R.Own.below (by assumption)⟩))))
  | true =>
    have i1 : R.ConB Tryz.prog 39 #[.agg (cNt x).toArray] Unit (fun _ w => GNt w x) (fun _ => .bool true) := ⟨fun s w h => by
      have q := (con_netmay x).h s w h
      rw [hb] at q
      exact q⟩
    have hk := netB_e hb
    have hsn : x.s.n ≤ 200000 := (netB_iff.1 hb).1
    obtain ⟨⟨s1, s2, s3, -⟩, ⟨h1, h2, h3, -⟩, -⟩ := id hG
    by_cases h0 : x.e.n ≤ 2000
    · rw [decide_eq_true h0]
      refine R.calls_of_WC (fn := Tryz.f16) Tryz.func16 rfl Tryz.ntmps16 (Nat.le_of_ble_eq_true rfl) ?_
      (refine R.stepU ?_; (repeat' (first | (with_reducible refine And.intro ?_ ?_) | (with_reducible intro _))); all_goals refine R.Lft.mk ?_)
      refine R.WO_call2 rfl rfl R.vv R.vv ?_
      refine (containsFunc_Sp x.s.A x.s.n x.s.c x.s.L 41 [] (fun s => !decide (nearP s)) _ (R.Own.inpIn R.ohm s1) s2 (by omega) fun s w3 _ _ => near1_any s w3).mono ?_
      rintro _ w4 ⟨rfl, hb4⟩
      have hM := R.Own.call R.ohm hb4
      refine ⟨_, rfl, ?_⟩
      (refine R.stepU ?_; (repeat' (first | (with_reducible refine And.intro ?_ ?_) | (with_reducible intro _))); all_goals refine R.Lft.mk ?_; (all_goals (try (exact ⟨rfl, R.Own.below (by assumption)⟩))))
    · rw [decide_eq_false h0]
      refine R.calls_of_WC (fn := Tryz.f16) Tryz.func16 rfl Tryz.ntmps16 (Nat.le_of_ble_eq_true rfl) ?_
      (refine R.stepU ?_; (repeat' (first | (with_reducible refine And.intro ?_ ?_) | (with_reducible intro _))); all_goals refine R.Lft.mk ?_; (all_goals (try (exact ⟨rfl, R.Own.below (by assumption)⟩))))
def leastQ (a b : Pq) : Pq := ⟨min a.x b.x, min a.y b.y⟩
theorem gleast_any (a b : Pq) (w : World) : Calls Tryz.prog 18 #[.agg (cPq a).toArray, .agg (cPq b).toArray] w fun e w' => e = .returned (.agg (cPq (leastQ a b)).toArray) ∧ Below w.heap.size w w' := by
  have hM := R.Own.start [] w
  refine R.calls_of_WC (fn := Tryz.f18) Tryz.func18 rfl Tryz.ntmps18 (Nat.le_of_ble_eq_true rfl) ?_
  (refine R.stepN ?_; (repeat' (first | (with_reducible refine And.intro ?_ ?_) | (with_reducible intro _))); all_goals refine R.Lft.mk ?_)
  exact ⟨rfl, R.Own.below R.ohm⟩
instance con_gleast (a b : Pq) : R.ConB Tryz.prog 18 #[.agg (cPq a).toArray, .agg (cPq b).toArray] Unit (fun _ _ => True) (fun _ => .agg (cPq (leastQ a b)).toArray) := ⟨fun _ w _ => gleast_any a b w⟩
def mostQ (a b : Pq) : Pq := ⟨max a.x b.x, max a.y b.y⟩
theorem gmost_any (a b : Pq) (w : World) : Calls Tryz.prog 19 #[.agg (cPq a).toArray, .agg (cPq b).toArray] w fun e w' => e = .returned (.agg (cPq (mostQ a b)).toArray) ∧ Below w.heap.size w w' := by
  have hM := R.Own.start [] w
  refine R.calls_of_WC (fn := Tryz.f19) Tryz.func19 rfl Tryz.ntmps19 (Nat.le_of_ble_eq_true rfl) ?_
  (refine R.stepN ?_; (repeat' (first | (with_reducible refine And.intro ?_ ?_) | (with_reducible intro _))); all_goals refine R.Lft.mk ?_)
  exact ⟨rfl, R.Own.below R.ohm⟩
instance con_gmost (a b : Pq) : R.ConB Tryz.prog 19 #[.agg (cPq a).toArray, .agg (cPq b).toArray] Unit (fun _ _ => True) (fun _ => .agg (cPq (mostQ a b)).toArray) := ⟨fun _ w _ => gmost_any a b w⟩
structure Bq where
  a : Pq
  b : Pq
def cBq (p : Bq) : List Value := cPq p.a ++ cPq p.b
instance encc_Bq : R.EncC cBq 4 := ⟨fun _ => rfl, by simp [cBq, cPt, Value.oneCell'], by decide⟩
def nodeA (x : Nt) (e : Nat) : Sp := nth x.s.L (nth x.e.L e).a.toNat
def nodeB (x : Nt) (e : Nat) : Sp := nth x.s.L (nth x.e.L e).b.toNat
def boxQ (x : Nt) (e : Nat) : Bq := ⟨leastQ (lowQ (nodeA x e)) (lowQ (nodeB x e)), mostQ (highQ (nodeA x e)) (highQ (nodeB x e))⟩
set_option maxHeartbeats 4000000 in
theorem gbox_any (x : Nt) (k : Nat) (w : World) (hG : GNt w x) (hb : netB x = true) (hlt : k < x.e.n) : Calls Tryz.prog 17 #[.agg (cNt x).toArray, .int .i64 (k : Nat)] w fun e w' => e = .returned (.agg (cBq (boxQ x k)).toArray) ∧ Below w.heap.size w w' := by
  have hM := R.Own.start [] w
  have hk := netB_e hb
  have hsn : x.s.n ≤ 200000 := (netB_iff.1 hb).1
  obtain ⟨⟨s1, s2, s3, -⟩, ⟨h1, h2, h3, -⟩, -⟩ := id hG
  obtain ⟨a0, a1, a2⟩ := gedge hb hlt
  refine R.calls_of_WC (fn := Tryz.f17) Tryz.func17 rfl Tryz.ntmps17 (Nat.le_of_ble_eq_true rfl) ?_
  (refine R.stepU ?_; (repeat' (first | (with_reducible refine And.intro ?_ ?_) | (with_reducible intro _))); all_goals refine R.Lft.mk ?_)
  rename_i gn _ _ gr _ hM
  have hAs : ∃ a, x.s.A = some a := (R.Own.rdIn hM s1).some_ (by omega) (by decide)
  have hAe : ∃ a, x.e.A = some a := (R.Own.rdIn hM h1).some_ (by omega) (by decide)
  refine R.WC_cut2 (ι := Nat × Nat) (fun i => [(1, .int .i64 (k : Nat)), (2, .pointer (some ⟨gn, 0, none⟩)), (4, .pointer (some ⟨gr, 0, none⟩)), (5, .pointer (some ⟨i.1, 0, none⟩)), (6, .pointer (some ⟨i.2, 0, none⟩))])
    (fun i w2 => R.Own [] w w2 [.blk i.2 28 (cPq (highQ (nodeA x k))), .blk i.1 28 (cPq (lowQ (nodeA x k))), .blk gr 71 [.int .i64 0, .int .i64 0, .int .i64 0, .int .i64 0], .blk gn 26 (cNt x)]) ?h1 ?h2
  case h1 =>
    refine R.WC_planF (.q 0 (.q 1 (.q 2 (.q 3 (.q 4 (.q 5 (.q 6 (.q 7 (.q 8 (.q 9 (.g 10 15 16 (.q 11 (.q 12 (.q 13 (.q 14 (.f 15 16 (.e 16 (.e 17 (.e 18 (.q 19 .nil)))) (.e 15 (.e 17 (.e 18 (.q 19 .nil))))))))) (.f 10 16 (.q 11 (.q 12 (.q 13 (.q 14 (.e 16 (.e 17 (.e 18 (.q 19 .nil)))))))) (.e 10 (.q 11 (.q 12 (.q 13 (.q 14 (.e 17 (.e 18 (.q 19 .nil))))))))) (.f 10 15 (.q 11 (.q 12 (.q 13 (.q 14 (.e 15 (.e 17 (.e 18 (.q 19 .nil)))))))) (.e 10 (.q 11 (.q 12 (.q 13 (.q 14 (.e 17 (.e 18 (.q 19 .nil)))))))))))))))))))) R.mixed (by decide +kernel) R.ohm ?_
    (refine R.stepU ?_; (repeat' (first | (with_reducible refine And.intro ?_ ?_) | (with_reducible intro _))); all_goals refine R.Lft.mk ?_)
    all_goals
      rename_i hM
      first
      | exact ⟨rfl, (_, _), ⟨rfl, rfl, rfl, rfl, rfl, trivial⟩, hM⟩
      | exact ⟨rfl, (_, _), ⟨rfl, rfl, rfl, rfl, rfl, trivial⟩, R.Own.swap hM⟩
  case h2 =>
    clear hM
    rintro ⟨ga, gb⟩ f w2 hM
    dsimp only at hM ⊢
    (refine R.stepU ?_; (repeat' (first | (with_reducible refine And.intro ?_ ?_) | (with_reducible intro _))); all_goals refine R.Lft.mk ?_)
    refine R.WC_cut2 (ι := Nat × Nat) (fun i => [(4, .pointer (some ⟨gr, 0, none⟩)), (5, .pointer (some ⟨ga, 0, none⟩)), (6, .pointer (some ⟨gb, 0, none⟩)), (8, .pointer (some ⟨i.1, 0, none⟩)), (9, .pointer (some ⟨i.2, 0, none⟩))])
      (fun i w2 => R.Own [] w w2 [.blk i.2 28 (cPq (highQ (nodeB x k))), .blk i.1 28 (cPq (lowQ (nodeB x k))), .blk gb 28 (cPq (highQ (nodeA x k))), .blk ga 28 (cPq (lowQ (nodeA x k))), .blk gr 71 [.int .i64 0, .int .i64 0, .int .i64 0, .int .i64 0], .blk gn 26 (cNt x)]) ?h1 ?h2
    case h1 =>
      refine R.WC_planF (.q 0 (.q 1 (.q 2 (.q 3 (.q 4 (.q 5 (.q 6 (.q 7 (.q 8 (.q 9 (.g 10 15 16 (.q 11 (.q 12 (.q 13 (.q 14 (.f 15 16 (.e 16 (.e 17 (.e 18 (.q 19 .nil)))) (.e 15 (.e 17 (.e 18 (.q 19 .nil))))))))) (.f 10 16 (.q 11 (.q 12 (.q 13 (.q 14 (.e 16 (.e 17 (.e 18 (.q 19 .nil)))))))) (.e 10 (.q 11 (.q 12 (.q 13 (.q 14 (.e 17 (.e 18 (.q 19 .nil))))))))) (.f 10 15 (.q 11 (.q 12 (.q 13 (.q 14 (.e 15 (.e 17 (.e 18 (.q 19 .nil)))))))) (.e 10 (.q 11 (.q 12 (.q 13 (.q 14 (.e 17 (.e 18 (.q 19 .nil)))))))))))))))))))) R.mixed (by decide +kernel) R.ohm ?_
      (refine R.stepU ?_; (repeat' (first | (with_reducible refine And.intro ?_ ?_) | (with_reducible intro _))); all_goals refine R.Lft.mk ?_)
      all_goals
        rename_i hM
        first
        | exact ⟨rfl, (_, _), ⟨rfl, rfl, rfl, rfl, rfl, trivial⟩, hM⟩
        | exact ⟨rfl, (_, _), ⟨rfl, rfl, rfl, rfl, rfl, trivial⟩, R.Own.swap hM⟩
    case h2 =>
      clear hM
      rintro ⟨gc, gd⟩ f w2 hM
      dsimp only at hM ⊢
      (refine R.stepU ?_; (repeat' (first | (with_reducible refine And.intro ?_ ?_) | (with_reducible intro _))); all_goals refine R.Lft.mk ?_)
      refine R.WC_planX [(0, false), (1, false), (3, false), (4, false), (2, true), (5, true), (6, false), (7, true)] R.mixed (by decide +kernel) R.ohm ?_
      (refine R.stepU ?_; (repeat' (first | (with_reducible refine And.intro ?_ ?_) | (with_reducible intro _))); all_goals refine R.Lft.mk ?_)
      exact ⟨rfl, R.Own.below R.ohm⟩
end Go.Proofs.YtmoppmfbfpjdnaaGreat
namespace Go.Proofs.YtmoppmfbfpjdnaaGreat
open Go.RowKit
open R (In64 InU64 lo64 nth)

instance gl_ints : R.EncT Tryz.prog 40 (R.Sl Int) R.cSl 1 := {}
def firstV (f s : Int) : Int := max ((f + s - 1) / s - 1) 0
instance con_gfirst (f s : Int) : R.ConB Tryz.prog 43 #[.int .i64 f, .int .i64 s] Unit (fun _ _ => (0 ≤ f ∧ f ≤ 1099511627776) ∧ 1 ≤ s ∧ s ≤ 1099511627776) (fun _ => .int .i64 (firstV f s)) := ⟨fun _ w ⟨⟨h1, h2⟩, h3, h4⟩ => by
  have hM := R.Own.start [] w
  have hd : 0 ≤ (f + s - 1) / s := Int.ediv_nonneg (by omega) (by omega)
  have hd2 : (f + s - 1) / s ≤ f + s - 1 := Int.ediv_le_self _ (by omega)
  unfold firstV
  refine R.calls_of_WC (fn := Tryz.f43) Tryz.func43 rfl Tryz.ntmps43 (Nat.le_of_ble_eq_true rfl) ?_
  (refine R.stepN ?_; (repeat' (first | (with_reducible refine And.intro ?_ ?_) | (with_reducible intro _))); all_goals refine R.Lft.mk ?_; (all_goals (try (exact ⟨rfl, R.Own.below (by assumption)⟩))))⟩
instance con_glast (f s m : Int) : R.ConB Tryz.prog 38 #[.int .i64 f, .int .i64 s, .int .i64 m] Unit (fun _ _ => (0 ≤ f ∧ f ≤ 1099511627776) ∧ 1 ≤ s ∧ 1 ≤ m ∧ m ≤ 1000) (fun _ => .int .i64 (lastV f s m)) := ⟨fun _ w ⟨h1, h2, h3⟩ => glast_any f s m h1 h2 h3 w⟩
def sideV (f m : Int) : Int := max ((f + m - 1) / m) 1
instance con_gside (f m : Int) : R.ConB Tryz.prog 20 #[.int .i64 f, .int .i64 m] Unit (fun _ _ => (0 ≤ f ∧ f ≤ 1099511627776) ∧ 1 ≤ m ∧ m ≤ 1000) (fun _ => .int .i64 (sideV f m)) := ⟨fun _ w ⟨⟨h1, h2⟩, h3, h4⟩ => by
  have hM := R.Own.start [] w
  have hd : 0 ≤ (f + m - 1) / m := Int.ediv_nonneg (by omega) (by omega)
  have hd2 : (f + m - 1) / m ≤ f + m - 1 := Int.ediv_le_self _ (by omega)
  unfold sideV
  refine R.calls_of_WC (fn := Tryz.f20) Tryz.func20 rfl Tryz.ntmps20 (Nat.le_of_ble_eq_true rfl) ?_
  (refine R.stepN ?_; (repeat' (first | (with_reducible refine And.intro ?_ ?_) | (with_reducible intro _))); all_goals refine R.Lft.mk ?_; (all_goals (try (exact ⟨rfl, R.Own.below (by assumption)⟩))))⟩
def ints (k : Nat) : List Int := (List.range k).map fun i => ((i : Nat) : Int)
theorem ints_succ (k : Nat) : ints (k + 1) = ints k ++ [((k : Nat) : Int)] := by unfold ints; rw [List.range_succ, List.map_append]; rfl
theorem ints_len (k : Nat) : (ints k).length = k := by simp [ints]
def layR (gb gC : Nat) (k : Nat) (X : Option Addr) (c : Nat) : List R.Res := [.row X k c 3 1 ((ints k).flatMap R.cI), .row (some ⟨gC, 0, none⟩) 1 1 40 1 [.slice X k c], .blk gb 36 [.int .i64 0, .int .i64 0, .int .i64 4, .int .i64 1, .int .i64 1, .slice (some ⟨gC, 0, none⟩) 1 1]]
def boxK (k : Nat) : Bq := ⟨⟨0, 0⟩, ⟨(k : Nat) + 1, 0⟩⟩
set_option maxHeartbeats 4000000 in
theorem lay_x (gb gC k : Nat) (X : Option Addr) (c : Nat) (hk : k < 4) (w : World) (hR : R.Has w (layR gb gC k X c)) : Calls Tryz.prog 21 #[.pointer (some ⟨gb, 0, none⟩), .int .i64 (k : Nat), .agg (cBq (boxK k)).toArray] w fun e w' => e = .returned (.tuple #[]) ∧ ∃ X' c', R.Own (R.keysOf (layR gb gC k X c)) w w' (layR gb gC (k + 1) X' c') := by
  have hM := R.Own.startF hR
  obtain ⟨F, hF⟩ : ∃ F, R.keysOf (layR gb gC k X c) = F := ⟨_, rfl⟩
  rw [hF] at hM ⊢
  clear hF hR
  unfold layR at hM ⊢
  have f1 : (boxK k).a.x = 0 := rfl
  have f2 : (boxK k).a.y = 0 := rfl
  have f3 : (boxK k).b.x = (k : Nat) + 1 := rfl
  have f4 : (boxK k).b.y = 0 := rfl
  have l1 : firstV ((boxK k).a.y - 0) 4 = 0 := rfl
  have l2 : firstV ((boxK k).a.x - 0) 4 = 0 := rfl
  have l3 : lastV ((boxK k).b.y - 0) 4 1 = 0 := rfl
  have l4 : lastV ((boxK k).b.x - 0) 4 1 = 0 := by unfold lastV; rw [f3]; omega
  refine R.calls_of_WC (fn := Tryz.f21) Tryz.func21 rfl Tryz.ntmps21 (Nat.le_of_ble_eq_true rfl) ?_
  (refine R.stepN ?_; (repeat' (first | (with_reducible refine And.intro ?_ ?_) | (with_reducible intro _))); all_goals refine R.Lft.mk ?_)
  rename_i gd _ _ _ _ _ hM
  refine R.WC_loop (fun i : Nat × Option Addr × Nat => [(0, .pointer (some ⟨gb, 0, none⟩)), (1, .int .i64 (k : Nat)), (5, .pointer (some ⟨gd, 0, none⟩)), (6, .int .i64 (i.1 : Nat))])
    (fun i w2 => i.1 ≤ 1 ∧ R.Own F w w2 [.row i.2.1 (k + i.1) i.2.2 3 1 ((ints (k + i.1)).flatMap R.cI), .row (some ⟨gC, 0, none⟩) 1 1 40 1 [.slice i.2.1 (k + i.1) i.2.2], .blk gd 71 (cBq (boxK k)), .blk gb 36 [.int .i64 0, .int .i64 0, .int .i64 4, .int .i64 1, .int .i64 1, .slice (some ⟨gC, 0, none⟩) 1 1]]) (fun i => 1 - i.1)
    ⟨(0, X, c), ⟨rfl, rfl, rfl, R.viaI rfl (by rw [l1]; rfl), trivial⟩, Nat.zero_le _, R.pk (r := .row X _ _ _ _ _) (R.pk (r := .row (some ⟨gC, 0, none⟩) _ _ _ _ _) hM)⟩ ?_
  clear hM
  rintro ⟨i, X1, c1⟩ f w2 ⟨hi, hM⟩
  dsimp only at hi hM ⊢
  by_cases hlt : i < 1
  · obtain rfl : i = 0 := by omega
    (refine R.stepN ?_; (repeat' (first | (with_reducible refine And.intro ?_ ?_) | (with_reducible intro _))); all_goals refine R.Lft.mk ?_)
    refine R.WC_planO [(0, false), (1, false), (2, false), (3, false), (4, false), (5, false), (6, false), (7, false), (8, false), (9, false), (10, false), (11, false), (12, false), (13, false), (14, false), (15, false), (16, false), (17, false), (18, true), (19, false)] R.mixed (by decide +kernel) R.ohm ?_
    (refine R.stepN ?_; (repeat' (first | (with_reducible refine And.intro ?_ ?_) | (with_reducible intro _))); all_goals refine R.Lft.mk ?_)
    rename_i hM
    refine R.WC_loop (fun j : Nat × Option Addr × Nat => [(0, .pointer (some ⟨gb, 0, none⟩)), (1, .int .i64 (k : Nat)), (5, .pointer (some ⟨gd, 0, none⟩)), (6, .int .i64 (0 : Nat)), (7, .int .i64 (j.1 : Nat))])
      (fun i w2 => i.1 ≤ 1 ∧ R.Own F w w2 [.row i.2.1 (k + i.1) i.2.2 3 1 ((ints (k + i.1)).flatMap R.cI), .row (some ⟨gC, 0, none⟩) 1 1 40 1 [.slice i.2.1 (k + i.1) i.2.2], .blk gd 71 (cBq (boxK k)), .blk gb 36 [.int .i64 0, .int .i64 0, .int .i64 4, .int .i64 1, .int .i64 1, .slice (some ⟨gC, 0, none⟩) 1 1]]) (fun i => 1 - i.1)
      ⟨(0, X1, c1), ⟨rfl, rfl, rfl, rfl, R.viaI rfl (by rw [l2]; rfl), trivial⟩, Nat.zero_le _, hM⟩ ?_
    clear hM
    rintro ⟨j, X2, c2⟩ f w3 ⟨hj, hM⟩
    dsimp only at hj hM ⊢
    by_cases hlt2 : j < 1
    · obtain rfl : j = 0 := by omega
      (refine R.stepN ?_; (repeat' (first | (with_reducible refine And.intro ?_ ?_) | (with_reducible intro _))); all_goals refine R.Lft.mk ?_)
      refine R.WC_planO [(0, false), (1, false), (2, false), (3, false), (4, false), (5, false), (6, false), (7, false), (8, false), (9, false), (10, false), (11, false), (12, false), (13, false), (14, false), (15, false), (16, false), (17, false), (18, true), (19, false)] R.mixed (by decide +kernel) R.ohm ?_
      (refine R.stepN ?_; (repeat' (first | (with_reducible refine And.intro ?_ ?_) | (with_reducible intro _))); all_goals refine R.Lft.mk ?_)
      rename_i hM
      have hln := ints_len k
      have hxn : (nth ([⟨X2, k, c2, ints k⟩] : List (R.Sl Int)) (((0 : Nat) : Int) * 1 + ((0 : Nat) : Int)).toNat).n = (nth ([⟨X2, k, c2, ints k⟩] : List (R.Sl Int)) (((0 : Nat) : Int) * 1 + ((0 : Nat) : Int)).toNat).L.length := hln.symm
      have hxl : (nth ([⟨X2, k, c2, ints k⟩] : List (R.Sl Int)) (((0 : Nat) : Int) * 1 + ((0 : Nat) : Int)).toNat).L.length ≤ 4 := by
        show (ints k).length ≤ 4
        omega
      have hM : R.Own F w _ (.row (nth ([⟨X2, k, c2, ints k⟩] : List (R.Sl Int)) (((0 : Nat) : Int) * 1 + ((0 : Nat) : Int)).toNat).A (nth ([⟨X2, k, c2, ints k⟩] : List (R.Sl Int)) (((0 : Nat) : Int) * 1 + ((0 : Nat) : Int)).toNat).n (nth ([⟨X2, k, c2, ints k⟩] : List (R.Sl Int)) (((0 : Nat) : Int) * 1 + ((0 : Nat) : Int)).toNat).c 3 1 ((nth ([⟨X2, k, c2, ints k⟩] : List (R.Sl Int)) (((0 : Nat) : Int) * 1 + ((0 : Nat) : Int)).toNat).L.flatMap R.cI) :: .row (some ⟨gC, 0, none⟩) 1 1 40 1 (([⟨X2, k, c2, ints k⟩] : List (R.Sl Int)).flatMap R.cSl) :: .blk gd 71 (cBq (boxK k)) :: .blk gb 36 [.int .i64 0, .int .i64 0, .int .i64 4, .int .i64 1, .int .i64 1, .slice (some ⟨gC, 0, none⟩) 1 1] :: []) := hM
      refine R.WC_planXD1 [(0, false), (1, false), (2, false), (3, false), (4, false), (5, false), (6, false), (7, false), (8, false), (9, false), (10, false), (11, false), (12, false), (13, true), (14, true), (15, false), (16, true)] R.mixed (by decide +kernel) R.ohm ?_
      (refine R.stepN ?_; (repeat' (first | (with_reducible refine And.intro ?_ ?_) | (with_reducible intro _))); all_goals refine R.Lft.mk ?_)
      rename_i A2 d2 _ hM
      refine R.WO_stP (T := R.Sl Int) (enc := R.cSl) (L := ([⟨X2, k, c2, ints k⟩] : List (R.Sl Int))) (z := ⟨A2, (nth ([⟨X2, k, c2, ints k⟩] : List (R.Sl Int)) (((0 : Nat) : Int) * 1 + ((0 : Nat) : Int)).toNat).n + 1, d2, (nth ([⟨X2, k, c2, ints k⟩] : List (R.Sl Int)) (((0 : Nat) : Int) * 1 + ((0 : Nat) : Int)).toNat).L ++ [((k : Nat) : Int)]⟩) rfl rfl rfl rfl R.ohm R.upds (by exact Nat.zero_lt_one) (by decide) rfl (fun w8 hM => ?_)
      have hs := ints_succ k
      have hM : R.Own F w w8 [.row A2 (k + 1) d2 3 1 ((ints k ++ [((k : Nat) : Int)]).flatMap R.cI), .row (some ⟨gC, 0, none⟩) 1 1 40 1 [.slice A2 (k + 1) d2], .blk gd 71 (cBq (boxK k)), .blk gb 36 [.int .i64 0, .int .i64 0, .int .i64 4, .int .i64 1, .int .i64 1, .slice (some ⟨gC, 0, none⟩) 1 1]] := hM
      rw [← hs] at hM
      (refine R.stepN ?_; (repeat' (first | (with_reducible refine And.intro ?_ ?_) | (with_reducible intro _))); all_goals refine R.Lft.mk ?_)
      exact ⟨(1, A2, d2), ⟨rfl, rfl, rfl, rfl, R.viaI rfl rfl, trivial⟩, ⟨Nat.le_refl _, R.ohm⟩, by dsimp only; omega⟩
    · obtain rfl : j = 1 := by omega
      (refine R.stepN ?_; (repeat' (first | (with_reducible refine And.intro ?_ ?_) | (with_reducible intro _))); all_goals refine R.Lft.mk ?_)
      refine R.WC_planO [(0, false), (1, false), (2, false), (3, false), (4, false), (5, false), (6, false), (7, false), (8, false), (9, false), (10, false), (11, false), (12, false), (13, false), (14, false), (15, false), (16, false), (17, false), (18, true), (19, false)] R.mixed (by decide +kernel) R.ohm ?_
      (refine R.stepN ?_; (repeat' (first | (with_reducible refine And.intro ?_ ?_) | (with_reducible intro _))); all_goals refine R.Lft.mk ?_)
      rename_i hM
      exact ⟨(1, X2, c2), ⟨rfl, rfl, rfl, R.viaI rfl rfl, trivial⟩, ⟨Nat.le_refl _, hM⟩, by dsimp only; omega⟩
  · obtain rfl : i = 1 := by omega
    (refine R.stepN ?_; (repeat' (first | (with_reducible refine And.intro ?_ ?_) | (with_reducible intro _))); all_goals refine R.Lft.mk ?_)
    refine R.WC_planO [(0, false), (1, false), (2, false), (3, false), (4, false), (5, false), (6, false), (7, false), (8, false), (9, false), (10, false), (11, false), (12, false), (13, false), (14, false), (15, false), (16, false), (17, false), (18, true), (19, false)] R.mixed (by decide +kernel) R.ohm ?_
    (refine R.stepN ?_; (repeat' (first | (with_reducible refine And.intro ?_ ?_) | (with_reducible intro _))); all_goals refine R.Lft.mk ?_)
    rename_i hM
    exact ⟨rfl, X1, c1, R.dr (.blk gd _ _) hM⟩
end Go.Proofs.YtmoppmfbfpjdnaaGreat
namespace Go.Proofs.YtmoppmfbfpjdnaaGreat
open Go.RowKit
open R (In64 InU64 lo64 nth)

theorem flr1 (z : Int) : flrZ z 1 = z := by
  unfold flrZ
  have e1 : (1 : Int).natAbs = 1 := rfl
  rw [e1, Nat.div_one, Nat.mod_one, if_pos rfl]
  split <;> omega
theorem ov1 {z : Int} (hz : z.natAbs < 18446744073709551616) : ovS (sgn z) ⟨false, W 1⟩ = sgn z := by
  have e1 : (W 1).n = 1 := wlx (by decide)
  have e2 : (⟨false, W 1⟩ : Sg).z = 1 := by unfold Sg.z; rw [e1]; rfl
  unfold ovS
  rw [if_neg (by rw [e1]; decide), lz_ hz, e2, flr1]
theorem dn1 {z : Int} (h : -100 ≤ z ∧ z ≤ 100) : dnN (sgn z) (W 1) = z := by
  unfold dnN smZ
  rw [ov1 (by omega), lz_ (by omega), if_pos (by omega)]
theorem dnP1 {z : Int} (h : -100 ≤ z ∧ z ≤ 100) : dnP (sgn z) (W 1) := by
  unfold dnP
  rw [ov1 (by omega), lz_ (by omega), wlx (by decide)]
  omega
theorem up1 {z : Int} (h : -100 ≤ z ∧ z ≤ 100) : upN (sgn z) (W 1) = z := by
  unfold upN
  rw [lz_ (by omega), dn1 (by omega), Int.neg_neg, R.wrap_i64 (by unfold In64; omega)]
theorem upP1 {z : Int} (h : -100 ≤ z ∧ z ≤ 100) : upP (sgn z) (W 1) := by
  unfold upP
  rw [lz_ (by omega)]
  exact dnP1 (by omega)
theorem low_at {x y : Int} (hx : -100 ≤ x ∧ x ≤ 100) (hy : -100 ≤ y ∧ y ≤ 100) : lowQ (atS x y) = ⟨x, y⟩ := by
  unfold lowQ atS
  dsimp only
  rw [dn1 hx, dn1 hy]
theorem high_at {x y : Int} (hx : -100 ≤ x ∧ x ≤ 100) (hy : -100 ≤ y ∧ y ≤ 100) : highQ (atS x y) = ⟨x, y⟩ := by
  unfold highQ atS
  dsimp only
  rw [up1 hx, up1 hy]
theorem near_at {x y : Int} (hx : -100 ≤ x ∧ x ≤ 100) (hy : -100 ≤ y ∧ y ≤ 100) : nearP (atS x y) := ⟨dnP1 hx, dnP1 hy, upP1 hx, upP1 hy⟩
section
variable (A B : Option Addr) (c d : Nat)
theorem cross_near : nearN (crossN A B c d) = true := by
  unfold nearN
  rw [cross_netB]
  show (decide ((4 : Nat) ≤ 2000) && (true && !(crossS 5).any fun s => !decide (nearP s))) = true
  have h : ((crossS 5).any fun s => !decide (nearP s)) = false := by
    rw [List.any_eq_false]
    intro s hs
    unfold crossS at hs
    obtain ⟨i, hi, rfl⟩ := List.mem_map.1 hs
    have := List.mem_range.1 hi
    rw [decide_eq_true (near_at (x := ((i : Nat) : Int)) (y := 0) (by omega) (by omega))]
    decide
  rw [h]
  rfl
theorem cross_box {k : Nat} (hk : k < 4) : boxQ (crossN A B c d) k = boxK k := by
  have e : nth (crossN A B c d).e.L k = ⟨0, ((k : Nat) : Int) + 1, ((k : Nat) : Int) + 1, true, decide (((k : Nat) : Int) + 1 ≠ 2)⟩ := crossE_nth hk
  have e1 : nodeA (crossN A B c d) k = atS 0 0 := by
    unfold nodeA
    rw [e]
    exact crossS_nth (i := 0) (by decide)
  have e2 : nodeB (crossN A B c d) k = atS (((k : Nat) : Int) + 1) 0 := by
    unfold nodeB
    rw [e, show (((k : Nat) : Int) + 1).toNat = k + 1 by omega]
    exact crossS_nth (i := k + 1) (by omega)
  unfold boxQ
  rw [e1, e2, low_at (by omega) (by omega), low_at (by omega) (by omega), high_at (by omega) (by omega), high_at (by omega) (by omega)]
  unfold leastQ mostQ boxK
  simp only [Bq.mk.injEq, Pt.mk.injEq]
  omega
end
end Go.Proofs.YtmoppmfbfpjdnaaGreat
