/- The cross: a net of four edges; it may be. -/
import Derived.Test.YtiebimdjdmogkaaNo
namespace Go.Proofs.Ytiebimdjdmogkaa
open Go.RowKit
open R (In64 InU64 lo64 nth)

namespace R
section
variable {P : Program} {n : Nat} {f : Fr} {w : World}
/-- .. where what lies in front is changed before all is loaded. -/
theorem WC_planXD1 {F : List Nat} {W : World} {L : List Res} {r1 : Res} {Q : Exit → Fr → World → Prop} {id : Nat} {l : List Oper} (pl : List (Nat × Bool)) (hm : P.follows .mixedOrders = true) (hB : planXOk l.toArray pl = true) (hM : Own F W w (r1 :: L))
    (h : ∀ w1, Own F W w1 (r1 :: L) → WX P l.toArray n (fun w2 => Own F W w2 L) (fun w2 => Own F W w2 L) (fun f' w' => Q .normal f' w') pl f w1) : WC P n Q (.region id l.toArray true) f w := by
  unfold WC
  intro a ha
  simp only [planXOk, Bool.and_eq_true, beq_iff_eq] at hB
  have h1 := h _ hM.drew a _ ha hB.1.2 hB.2 fun _ _ _ => .inl hM.drew.tl
  rw [hB.1.1] at h1
  refine wp_mono (wp_region_any (id := id) (Q := planQ n fun f' w' => Q .normal f' w') hm (wpAnyX_any _ _ _ _ h1)) fun e a' w' he => ?_
  obtain ⟨rfl, f', ha', hq⟩ := he
  exact ⟨f', ha', hq⟩
end
end R
def atS (x y : Int) : Sp := ⟨sgn x, sgn y, W 1⟩
attribute [local irreducible] W512 in
theorem at10 (x y : Int) (hx : In64 x) (hy : In64 y) (w : World) : Calls Try.prog 27 #[.agg #[.int .i64 x, .int .i64 y]] w fun e w' => e = .returned (.agg (cSp (atS x y)).toArray) ∧ Below w.heap.size w w' := by
  have hM := R.Own.start [] w
  refine R.calls_of_WC (fn := Try.f27) Try.func27 rfl Try.ntmps27 (Nat.le_of_ble_eq_true rfl) ?_
  (refine R.stepU ?_; (repeat' (first | (with_reducible refine And.intro ?_ ?_) | (with_reducible intro _))); all_goals refine R.Lft.mk ?_)
  refine R.WC_planX [(0, false), (1, false), (3, false), (4, false), (6, false), (2, true), (5, true), (7, false), (8, true)] R.mixed (by decide +kernel) R.ohm ?_
  (refine R.stepU ?_; (repeat' (first | (with_reducible refine And.intro ?_ ?_) | (with_reducible intro _))); all_goals refine R.Lft.mk ?_; (all_goals (try (exact ⟨rfl, R.Own.below (by assumption)⟩))))
instance con_at10 (x y : Int) : R.ConB Try.prog 27 #[.agg #[.int .i64 x, .int .i64 y]] Unit (fun _ _ => In64 x ∧ In64 y) (fun _ => .agg (cSp (atS x y)).toArray) := ⟨fun _ w h => at10 x y h.1 h.2 w⟩
theorem wlx {n : Nat} (h : n < 18446744073709551616) : (W n).n = n := W_n (wsmall h)
theorem lz_ {z : Int} (h : z.natAbs < 18446744073709551616) : (sgn z).z = z := sgn_z (wsmall h)
theorem sgm {z : Int} (h : z.natAbs < 18446744073709551616) : (sgn z).mag.n = z.natAbs := sgn_mag (wsmall h)
theorem len_small {n : Nat} (h : n < 18446744073709551616) : len120 n = true := by
  unfold len120
  refine decide_eq_true ?_
  have := bitLen_le_ (show n < 2 ^ 64 from h)
  omega
theorem qW1 (a : Wd) : qW a (W 1) = a := Wd.ext_ (by rw [qWn, wlx (by decide), Nat.div_one])
theorem mayS_at {x y : Int} (hx : In64 x) (hy : In64 y) : mayS (atS x y) = true := by
  have hx : x.natAbs < 18446744073709551616 := by unfold In64 at hx; omega
  have hy : y.natAbs < 18446744073709551616 := by unfold In64 at hy; omega
  have hg : gS (sgn x) (sgn y) (W 1) = W 1 := by
    unfold gS
    refine Wd.ext_ ?_
    rw [gcdW_n, wlx (by decide), Nat.gcd_one_right]
  have hl : lowS (sgn x) (sgn y) (W 1) = atS x y := by
    unfold lowS
    rw [hg, qW1, qW1, qW1]
    refine Sp.ext_iff.2 ⟨?_, ?_, rfl⟩
    · exact congrArg sgn (lz_ hx)
    · exact congrArg sgn (lz_ hy)
  unfold mayS
  show (!decide ((W 1).n = 0) && (len120 (sgn x).mag.n && (len120 (sgn y).mag.n && (len120 (W 1).n && decide (atS x y = lowS (sgn x) (sgn y) (W 1)))))) = true
  rw [hl, sgm hx, sgm hy, wlx (by decide), len_small hx, len_small hy, len_small (by decide), decide_eq_true rfl]
  rfl
theorem cmpS_at {x y a b : Int} (hx : In64 x) (hy : In64 y) (ha : In64 a) (hb : In64 b) : cmpS (atS x y) (atS a b) = orI (cmpZ x a) (cmpZ y b) := by
  have key : ∀ u v : Int, In64 u → In64 v → cmpP (sgn u) (sgn v) (W 1) (W 1) = cmpZ u v := fun u v hu hv => by
    have hu : u.natAbs < 18446744073709551616 := by unfold In64 at hu; omega
    have hv : v.natAbs < 18446744073709551616 := by unfold In64 at hv; omega
    unfold cmpP
    have h1 : (⟨false, W 1⟩ : Sg).z = 1 := by
      show ((W 1).n : Int) = 1
      rw [wlx (by decide)]
      rfl
    rw [h1, Int.mul_one, Int.mul_one, lz_ hu, lz_ hv, res_fit (wsmall hu), res_fit (wsmall hv), lz_ hu, lz_ hv]
  show orI (cmpP (sgn x) (sgn a) (W 1) (W 1)) (cmpP (sgn y) (sgn b) (W 1) (W 1)) = _
  rw [key x a hx ha, key y b hy hb]
def crossS (k : Nat) : List Sp := (List.range k).map fun i => atS ((i : Nat) : Int) 0
def crossE (k : Nat) : List Ed := (List.range k).map fun i => ⟨0, ((i : Nat) : Int) + 1, ((i : Nat) : Int) + 1, true, decide (((i : Nat) : Int) + 1 ≠ 2)⟩
theorem crossS_succ (k : Nat) : crossS (k + 1) = crossS k ++ [atS (k : Nat) 0] := by unfold crossS; rw [List.range_succ, List.map_append]; rfl
theorem crossE_succ (k : Nat) : crossE (k + 1) = crossE k ++ [⟨0, ((k : Nat) : Int) + 1, ((k : Nat) : Int) + 1, true, decide (((k : Nat) : Int) + 1 ≠ 2)⟩] := by unfold crossE; rw [List.range_succ, List.map_append]; rfl
def crossN (A B : Option Addr) (c d : Nat) : Nt := ⟨⟨A, 5, c, crossS 5⟩, ⟨B, 4, d, crossE 4⟩, ⟨none, 0, 0, []⟩⟩
set_option maxHeartbeats 2000000 in
attribute [local irreducible] W512 in
theorem cross_any (w : World) : Calls Try.prog 17 #[] w fun e w' => ∃ A B c d, e = .returned (.agg (cNt (crossN A B c d)).toArray) ∧ R.Own [] w w' [.row A 5 c 61 26 ((crossS 5).flatMap cSp), .row B 4 d 64 5 ((crossE 4).flatMap cEd)] := by
  have hM := R.Own.start [] w
  refine R.calls_of_WC (fn := Try.f17) Try.func17 rfl Try.ntmps17 (Nat.le_of_ble_eq_true rfl) ?_
  (refine R.stepV ?_; (repeat' (first | (with_reducible refine And.intro ?_ ?_) | (with_reducible intro _))); all_goals refine R.Lft.mk ?_)
  rename_i g0 _ _ g _ _ w1 hM
  have hM := R.Own.nil hM 61 26
  refine R.WC_loop (fun i : Nat × Option Addr × Nat => [(0, .pointer (some ⟨g0, 0, none⟩)), (1, .pointer (some ⟨g, 0, none⟩)), (2, .int .i64 (i.1 : Nat))])
    (fun i w2 => i.1 ≤ 5 ∧ R.Own [] w w2 [.row i.2.1 i.1 i.2.2 61 26 ((crossS i.1).flatMap cSp), .blk g 43 [.slice i.2.1 i.1 i.2.2, .slice none 0 0, .slice none 0 0], .blk g0 43 [.slice none 0 0, .slice none 0 0, .slice none 0 0]]) (fun i => 5 - i.1)
    ⟨(0, none, 0), ⟨rfl, rfl, rfl, trivial⟩, by decide, hM⟩ ?_
  clear hM
  rintro ⟨k, A, c⟩ f w2 ⟨hk, hM⟩
  dsimp only at hk hM ⊢
  by_cases hlt : k < 5
  · have hs := crossS_succ k
    have hl : (crossS k).length = k := by simp [crossS]
    have hx0 : In64 ((k : Nat) : Int) := by unfold In64; omega
    have hy0 : In64 0 := by unfold In64; omega
    (refine R.stepU ?_; (repeat' (first | (with_reducible refine And.intro ?_ ?_) | (with_reducible intro _))); all_goals refine R.Lft.mk ?_)
    refine R.WC_planXD1 [(0, false), (1, false), (2, false), (3, false), (4, true), (5, true), (6, true), (7, false), (8, true)] R.mixed (by decide +kernel) R.ohm ?_
    (refine R.stepU ?_; (repeat' (first | (with_reducible refine And.intro ?_ ?_) | (with_reducible intro _))); all_goals refine R.Lft.mk ?_)
    rename_i A2 c2 _ _ _ hM
    rw [← hs] at hM
    exact ⟨(k + 1, A2, c2), ⟨rfl, rfl, R.viaI rfl (by dsimp only; omega), trivial⟩, ⟨by dsimp only; omega, hM⟩, by dsimp only; omega⟩
  obtain rfl : k = 5 := by omega
  (refine R.stepU ?_; (repeat' (first | (with_reducible refine And.intro ?_ ?_) | (with_reducible intro _))); all_goals refine R.Lft.mk ?_)
  have hM := R.Own.nil hM 64 5
  refine R.WC_loop (fun i : Nat × Option Addr × Nat => [(0, .pointer (some ⟨g0, 0, none⟩)), (1, .pointer (some ⟨g, 0, none⟩)), (3, .int .i64 ((i.1 : Nat) + 1))])
    (fun i w2 => i.1 ≤ 4 ∧ R.Own [] w w2 [.row i.2.1 i.1 i.2.2 64 5 ((crossE i.1).flatMap cEd), .row A 5 c 61 26 ((crossS 5).flatMap cSp), .blk g 43 [.slice A 5 c, .slice i.2.1 i.1 i.2.2, .slice none 0 0], .blk g0 43 [.slice none 0 0, .slice none 0 0, .slice none 0 0]]) (fun i => 4 - i.1)
    ⟨(0, none, 0), ⟨rfl, rfl, rfl, trivial⟩, by decide, hM⟩ ?_
  clear hM
  rintro ⟨k, B, d⟩ f w2 ⟨hk, hM⟩
  dsimp only at hk hM ⊢
  by_cases hlt : k < 4
  · have hs := crossE_succ k
    have hl : (crossE k).length = k := by simp [crossE]
    (refine R.stepU ?_; (repeat' (first | (with_reducible refine And.intro ?_ ?_) | (with_reducible intro _))); all_goals refine R.Lft.mk ?_)
    rename_i B2 d2 _ _ _ hM
    rw [← hs] at hM
    exact ⟨(k + 1, B2, d2), ⟨rfl, rfl, R.viaI rfl (by dsimp only; omega), trivial⟩, ⟨by dsimp only; omega, hM⟩, by dsimp only; omega⟩
  obtain rfl : k = 4 := by omega
  (refine R.stepU ?_; (repeat' (first | (with_reducible refine And.intro ?_ ?_) | (with_reducible intro _))); all_goals refine R.Lft.mk ?_)
  rename_i w3 hM
  exact ⟨A, B, c, d, rfl, R.Own.sub (R.pk (r := .row A _ c _ _ _) hM) R.subl⟩
theorem crossS_nth {i : Nat} (h : i < 5) : nth (crossS 5) i = atS (i : Nat) 0 := by
  rw [R.nth_eq (by simpa [crossS] using h)]
  simp [crossS]
theorem crossE_nth {i : Nat} (h : i < 4) : nth (crossE 4) i = ⟨0, ((i : Nat) : Int) + 1, ((i : Nat) : Int) + 1, true, decide (((i : Nat) : Int) + 1 ≠ 2)⟩ := by
  rw [R.nth_eq (by simpa [crossE] using h)]
  simp [crossE]
section
variable (A B : Option Addr) (c d : Nat)
theorem cross_netB : netB (crossN A B c d) = true := by
  refine netB_t ⟨by show (5 : Nat) ≤ 200000; decide, by show (4 : Nat) ≤ 200000; decide, by show (0 : Nat) ≤ 200000; decide, fun i hi => ⟨?_, fun h0 => ?_⟩, fun i hi => ?_, fun l hl => (by cases hl)⟩
  · have hi : i < 5 := hi
    show mayS (nth (crossS 5) i) = true
    rw [crossS_nth hi]
    exact mayS_at (by unfold In64; omega) (by unfold In64; omega)
  · have hi : i < 5 := hi
    show cmpS (nth (crossS 5) (i - 1)) (nth (crossS 5) i) < 0
    rw [crossS_nth hi, crossS_nth (by omega), cmpS_at (by unfold In64; omega) (by unfold In64; omega) (by unfold In64; omega) (by unfold In64; omega), cmpZ_lt (by omega)]
    unfold orI
    simp
  · have hi : i < 4 := hi
    show edgeP 5 (crossE 4) i
    unfold edgeP weightP ltE
    rw [crossE_nth hi, crossE_nth (show i - 1 < 4 by omega)]
    refine ⟨by dsimp only; omega, by dsimp only; omega, by dsimp only; omega, ⟨by dsimp only; omega, by dsimp only; omega⟩, .inl rfl, fun _ => .inr ⟨rfl, by dsimp only; omega⟩⟩
theorem cap_le {A : Option Addr} {F : List Nat} {W w : World} {l : List R.Res} {n c sz : Nat} {e : TypeId} {cs : List Value} (hM : R.Own F W w l) (hm : R.Res.row A n c e sz cs ∈ l) : n ≤ c ∧ c ≤ 9223372036854775807 := by
  have hr : w.ownsRow 0 e sz (.slice A n c) n cs := hM.ok _ hm
  rcases hr.2 with ⟨hv, h0⟩ | ⟨g, cap, cur, hv, _, _, h3, h4, _⟩
  · injection hv with _ _ a3
    omega
  · injection hv with _ _ a3
    unfold maxLen at *
    omega
theorem cross_G {W w : World} {l : List R.Res} (hM : R.Own [] W w l) (h1 : R.Res.row A 5 c 61 26 ((crossS 5).flatMap cSp) ∈ l) (h2 : R.Res.row B 4 d 64 5 ((crossE 4).flatMap cEd) ∈ l) : GNt w (crossN A B c d) := by
  have c1 := cap_le hM h1
  have c2 := cap_le hM h2
  refine ⟨⟨R.Own.inp hM h1, rfl, c1, fun _ _ => trivial⟩, ⟨R.Own.inp hM h2, rfl, c2, fun y hy => ?_⟩, ⟨R.Inp.nil _ _ _ _, rfl, ⟨Nat.le_refl _, by show (0 : Nat) ≤ 9223372036854775807; decide⟩, fun y hy => (by cases hy)⟩⟩
  obtain ⟨i, hi, rfl⟩ := List.mem_map.1 hy
  have hi := List.mem_range.1 hi
  unfold GEd
  refine ⟨by show (Lit.int .i64 0).wf = true; decide, ?_, ?_⟩
  · match i, hi with
    | 0, _ => decide
    | 1, _ => decide
    | 2, _ => decide
    | 3, _ => decide
  · match i, hi with
    | 0, _ => decide
    | 1, _ => decide
    | 2, _ => decide
    | 3, _ => decide
end
theorem GBn.now {W w : World} {y : Bn} (h : GBn W y) : GBn w y := h
theorem R.Own.giveN {F : List Nat} {W w w' : World} {l lc : List R.Res} (h : R.Own F W w l) (hc : R.Own [] w w' lc) : R.Own F W w' (l ++ lc) := R.Own.callF (l := l) (lc := []) (by rw [List.append_nil]; exact h) hc
end Go.Proofs.Ytiebimdjdmogkaa
