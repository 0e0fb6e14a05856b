/- Package heap: swap, up, down: the walks. -/
import Derived.Test.YtegbidklcaccjaaHg
namespace Go.Proofs.Ytegbidklcaccjaa
open Go.RowKit
open R (In64 InU64 lo64 nth)
namespace R
section
variable {P : Program} {n : Nat} {Q : Exit → Fr → World → Prop} {f : Fr} {w : World} {F : List Nat} {W : World} {L : List Res} {r1 r2 r3 : Res} {id : Nat} {l : List Oper}
/-- A drawing region that stores into what lies in front, and else only reads. -/
theorem WC_planD1 (pl : List (Nat × Bool)) (hm : P.follows .mixedOrders = true) (hB : planOk l.toArray pl = true) (hM : Own F W w (r1 :: L))
    (h : ∀ w1, Own F W w1 (r1 :: L) → WH P l.toArray n (fun w2 => Own F W w2 L) (fun f' w' => Q .normal f' w') pl f w1) : WC P n Q (.region id l.toArray true) f w :=
  WC_plan _ _ hm hB hM.drew.tl (h _ hM.drew)
theorem WC_planD2 (pl : List (Nat × Bool)) (hm : P.follows .mixedOrders = true) (hB : planOk l.toArray pl = true) (hM : Own F W w (r1 :: r2 :: L))
    (h : ∀ w1, Own F W w1 (r1 :: r2 :: L) → WH P l.toArray n (fun w2 => Own F W w2 L) (fun f' w' => Q .normal f' w') pl f w1) : WC P n Q (.region id l.toArray true) f w :=
  WC_plan _ _ hm hB hM.drew.tl.tl (h _ hM.drew)
theorem WC_planD3 (pl : List (Nat × Bool)) (hm : P.follows .mixedOrders = true) (hB : planOk l.toArray pl = true) (hM : Own F W w (r1 :: r2 :: r3 :: L))
    (h : ∀ w1, Own F W w1 (r1 :: r2 :: r3 :: L) → WH P l.toArray n (fun w2 => Own F W w2 L) (fun f' w' => Q .normal f' w') pl f w1) : WC P n Q (.region id l.toArray true) f w :=
  WC_plan _ _ hm hB hM.drew.tl.tl.tl (h _ hM.drew)
end
end R

set_option maxHeartbeats 1000000 in
theorem swap_own (ga b g n c i k N : Nat) (L : List Item) (es : Array MapEntry) (clk : Nat) (m : Int → Option Int) (w : World) (hn : n = L.length) (hb : n ≤ 1000000) (hi : i < n) (hk : k < n) (hG : ∀ x ∈ L, In64 x.key ∧ In64 x.at_) (hI : R.IsM Try.prog 3 3 es clk N m) (hN : N < maxLen) (hMO : MapOk L m)
    (F : List Nat) (W0 : World) (l : List R.Res) (hM : R.Own F W0 w (.row (some ⟨ga, 0, none⟩) n c 72 2 (L.flatMap cItem) :: .map b es clk :: .blk g 151 [.slice (some ⟨ga, 0, none⟩) n c, .map (some b)] :: l)) :
    Calls Try.prog 92 #[.pointer (some ⟨g, 0, none⟩), .int .i64 (i : Nat), .int .i64 (k : Nat)] w fun e w' => e = .returned (.tuple #[]) ∧ ∃ es' clk' m', R.IsM Try.prog 3 3 es' clk' N m' ∧ MapOk (swapL L i k) m' ∧ R.Own F W0 w' (.row (some ⟨ga, 0, none⟩) n c 72 2 ((swapL L i k).flatMap cItem) :: .map b es' clk' :: .blk g 151 [.slice (some ⟨ga, 0, none⟩) n c, .map (some b)] :: l) := by
  have hl2 : (L.set i (nth L k)).length = n := by rw [List.length_set, hn]
  refine R.calls_of_WC (fn := Try.f92) Try.func92 rfl Try.ntmps92 (Nat.le_of_ble_eq_true rfl) ?_
  (refine R.stepH ?_; (repeat' (first | (with_reducible refine And.intro ?_ ?_) | (with_reducible intro _))); all_goals refine R.Lft.mk ?_)
  refine R.WC_planX [(0, false), (1, false), (2, false), (3, false), (4, false), (5, false), (6, false), (7, false), (8, false), (9, false), (10, false), (11, false), (12, false), (13, false), (14, false), (15, false), (16, false), (17, false), (18, false), (19, false), (20, false), (21, false), (22, false), (23, false), (24, false), (25, true), (26, false), (27, true)] R.mixed (by decide +kernel) R.ohm ?_
  (refine R.stepH ?_; (repeat' (first | (with_reducible refine And.intro ?_ ?_) | (with_reducible intro _))); all_goals refine R.Lft.mk ?_)
  rename_i hM
  have hll : (swapL L i k).length = n := by rw [swapL_len, hn]
  have hGs : ∀ x ∈ swapL L i k, In64 x.key ∧ In64 x.at_ := fun x hx => hG x ((mem_swapL (by omega) (by omega) x).1 hx)
  have gi := hGs _ (R.nth_mem (i := i) (by omega))
  have gk := hGs _ (R.nth_mem (i := k) (by omega))
  have him : ∀ j, j < n → (m (nth (swapL L i k) j).at_).isSome = true := fun j hj => by
    rw [nth_swapL (by omega), hMO.1 _ (swI_lt (by omega) (by omega) (by omega))]
    rfl
  have hM : R.Own F W0 _ (.map b es clk :: .row (some ⟨ga, 0, none⟩) n c 72 2 ((swapL L i k).flatMap cItem) :: .blk g 151 [.slice (some ⟨ga, 0, none⟩) n c, .map (some b)] :: l) := R.Own.swap hM
  refine R.WC_planD1 [(0, false), (1, false), (2, false), (3, false), (4, false), (5, false), (6, false), (7, false), (8, false), (9, false), (10, false), (11, false), (12, false), (13, false), (14, false), (15, false), (16, false), (17, false), (18, false), (19, false), (20, false), (21, false), (22, false), (23, false), (24, false), (25, false), (26, true), (27, false), (28, true), (29, true), (30, false), (31, true)] R.mixed (by decide +kernel) R.ohm ?_
  (refine R.stepH ?_; (repeat' (first | (with_reducible refine And.intro ?_ ?_) | (with_reducible intro _))); all_goals refine R.Lft.mk ?_)
  refine R.WO_entry rfl rfl rfl gi.2 R.ohm (.head _) hI hN (him i hi) (fun v0 st w2 hp hM => ⟨R.Own.tl hM, ?_⟩)
  (refine R.stepH ?_; (repeat' (first | (with_reducible refine And.intro ?_ ?_) | (with_reducible intro _))); all_goals refine R.Lft.mk ?_)
  refine R.WO_entrySt rfl rfl rfl rfl (by unfold In64; omega) R.ohm hp (fun _ => .head) (fun es1 w3 hI1 hM => ⟨R.Own.tl hM, ?_⟩)
  (refine R.stepH ?_; (repeat' (first | (with_reducible refine And.intro ?_ ?_) | (with_reducible intro _))); all_goals refine R.Lft.mk ?_)
  have hin2 : (R.putM m (nth (swapL L i k) i).at_ (i : Nat) (nth (swapL L i k) k).at_).isSome = true := by
    unfold R.putM
    split
    · rfl
    · exact him k hk
  refine R.WO_entry rfl rfl rfl gk.2 R.ohm (.head _) hI1 hN hin2 (fun v1 st1 w4 hp1 hM => ⟨R.Own.tl hM, ?_⟩)
  (refine R.stepH ?_; (repeat' (first | (with_reducible refine And.intro ?_ ?_) | (with_reducible intro _))); all_goals refine R.Lft.mk ?_)
  refine R.WO_entrySt rfl rfl rfl rfl (by unfold In64; omega) R.ohm hp1 (fun _ => .head) (fun es2 w5 hI2 hM => ⟨R.Own.tl hM, ?_⟩)
  (refine R.stepH ?_; (repeat' (first | (with_reducible refine And.intro ?_ ?_) | (with_reducible intro _))); all_goals refine R.Lft.mk ?_)
  exact ⟨rfl, es2, clk, _, hI2, hMO.swap (by omega) (by omega), R.Own.swap (by assumption)⟩
set_option maxHeartbeats 1000000 in
theorem up_own (ga b g n c i N : Nat) (L : List Item) (es : Array MapEntry) (clk : Nat) (m : Int → Option Int) (w : World) (hn : n = L.length) (hb : n ≤ 1000000) (hi : i < n) (hB : Bk L i) (hG : ∀ x ∈ L, In64 x.key ∧ In64 x.at_) (hI : R.IsM Try.prog 3 3 es clk N m) (hN : N < maxLen) (hMO : MapOk L m)
    (F : List Nat) (W0 : World) (l : List R.Res) (hM : R.Own F W0 w (.row (some ⟨ga, 0, none⟩) n c 72 2 (L.flatMap cItem) :: .map b es clk :: .blk g 151 [.slice (some ⟨ga, 0, none⟩) n c, .map (some b)] :: l)) :
    Calls Try.prog 94 #[.pointer (some ⟨g, 0, none⟩), .int .i64 (i : Nat)] w fun e w' => e = .returned (.tuple #[]) ∧ ∃ L' i' es' clk' m', R.IsM Try.prog 3 3 es' clk' N m' ∧ MapOk L' m' ∧ L'.length = n ∧ (∀ x, x ∈ L' ↔ x ∈ L) ∧ i' < n ∧ Bk L' i' ∧ Up L' i' ∧ nth L' i' = nth L i ∧ R.Own F W0 w' (.row (some ⟨ga, 0, none⟩) n c 72 2 (L'.flatMap cItem) :: .map b es' clk' :: .blk g 151 [.slice (some ⟨ga, 0, none⟩) n c, .map (some b)] :: l) := by
  refine R.calls_of_WC (fn := Try.f94) Try.func94 rfl Try.ntmps94 (Nat.le_of_ble_eq_true rfl) ?_
  (refine R.stepH ?_; (repeat' (first | (with_reducible refine And.intro ?_ ?_) | (with_reducible intro _))); all_goals refine R.Lft.mk ?_)
  refine R.WC_loop (fun s : List Item × Nat × Array MapEntry × Nat × (Int → Option Int) => [(0, .pointer (some ⟨g, 0, none⟩)), (1, .int .i64 (s.2.1 : Nat))])
    (fun s w1 => s.2.1 < n ∧ Bk s.1 s.2.1 ∧ R.IsM Try.prog 3 3 s.2.2.1 s.2.2.2.1 N s.2.2.2.2 ∧ MapOk s.1 s.2.2.2.2 ∧ s.1.length = n ∧ (∀ x, x ∈ s.1 ↔ x ∈ L) ∧ nth s.1 s.2.1 = nth L i ∧ R.Own F W0 w1 (.row (some ⟨ga, 0, none⟩) n c 72 2 (s.1.flatMap cItem) :: .map b s.2.2.1 s.2.2.2.1 :: .blk g 151 [.slice (some ⟨ga, 0, none⟩) n c, .map (some b)] :: l)) (fun s => s.2.1) ⟨(L, i, es, clk, m), ⟨rfl, rfl, trivial⟩, hi, hB, hI, hMO, hn.symm, fun _ => Iff.rfl, rfl, hM⟩ ?_
  clear hM
  rintro ⟨L', j, es', clk', m'⟩ f w1 ⟨hj, hB', hI', hMO', hln, hmem, hx, hM⟩
  dsimp only at hj hB' hI' hMO' hln hmem hx hM ⊢
  rcases Nat.eq_zero_or_pos j with h0 | h0
  · subst h0
    (refine R.stepH ?_; (repeat' (first | (with_reducible refine And.intro ?_ ?_) | (with_reducible intro _))); all_goals refine R.Lft.mk ?_)
    exact ⟨rfl, L', 0, es', clk', m', hI', hMO', hln, hmem, hj, hB', fun h => absurd h (Nat.lt_irrefl _), hx, R.ohm⟩
  · have e1 : (((j : Nat) : Int) - 1) / 2 = ((par j : Nat) : Int) := by unfold par; omega
    have hpj : par j < j := by unfold par; omega
    obtain ⟨p, hp⟩ : ∃ p, par j = p := ⟨_, rfl⟩
    have e2 : ((((j : Nat) : Int) - 1) / 2).toNat = p := by rw [e1, hp]; rfl
    by_cases hlt : ltP (nth L' j) (nth L' ((((j : Nat) : Int) - 1) / 2).toNat)
    · (refine R.stepH ?_; (repeat' (first | (with_reducible refine And.intro ?_ ?_) | (with_reducible intro _))); all_goals refine R.Lft.mk ?_)
      rw [e1, hp]
      refine R.WO_call3 rfl rfl R.vv R.vv R.vv ?_
      refine (swap_own ga b g n c j p N L' es' clk' m' _ hln.symm hb hj (by omega) (fun x hx => hG x ((hmem x).1 hx)) hI' hN hMO' F W0 l R.ohm).mono ?_
      rintro _ w2 ⟨rfl, es2, clk2, m2, hI2, hMO2, hM⟩
      refine ⟨_, rfl, ?_⟩
      (refine R.stepH ?_; (repeat' (first | (with_reducible refine And.intro ?_ ?_) | (with_reducible intro _))); all_goals refine R.Lft.mk ?_)
      rw [e2] at hlt
      have hB2 := hB'.up (by omega) h0 (by rw [hp]; exact hlt)
      rw [hp] at hB2
      refine ⟨(swapL L' j p, p, es2, clk2, m2), ⟨rfl, R.viaI rfl (by dsimp only; omega), trivial⟩, ⟨by dsimp only; omega, hB2, hI2, hMO2, by rw [swapL_len]; exact hln, fun x => (mem_swapL (by omega) (by omega) x).trans (hmem x), ?_, hM⟩, by dsimp only; omega⟩
      dsimp only
      rw [nth_swapL (by omega), swI_r]
      exact hx
    · (refine R.stepH ?_; (repeat' (first | (with_reducible refine And.intro ?_ ?_) | (with_reducible intro _))); all_goals refine R.Lft.mk ?_)
      rw [e2] at hlt
      exact ⟨rfl, L', j, es', clk', m', hI', hMO', hln, hmem, hj, hB', fun _ => by rw [hp]; exact hlt, hx, R.ohm⟩
end Go.Proofs.Ytegbidklcaccjaa
