/- The law WideShifts. -/
import Derived.Test.YtalaffabcnccgaaRf5
import Derived.Test.YtalaffabcnccgaaOpn
import Derived.Test.YtalaffabcnccgaaOpen
namespace Go.Proofs.Ytalaffabcnccgaa
open Go.ChangeShapes Go.WideShapes Go.ChangeAt Go.RowKit
open R (In64 InU64 lo64 nth)
namespace R
theorem WO_slcLH {P : Program} {C : R.CallH} {o : Oper} {f : R.Fr} {w : World} {K : Value → World → Prop} {t e : TypeId} {x i1 i2 : Operand} {A : Option Addr} {n c sz : Nat} {k k2 : IntKind} {lo hi : Int} {jl jh : Nat} (hop : o.op = .slice t x (some i1) (some i2) none) [ht : R.SliceT P t e sz] (hx : R.ev f x = .slice A n c) (h1 : R.ev f i1 = .int k lo) (h2 : R.ev f i2 = .int k2 hi) (h0 : 0 ≤ lo) (hl : lo ≤ hi) (hc : hi ≤ c) [hj : R.ToN lo jl] [hj2 : R.ToN hi jh]
    (hk : K (.slice (R.cutA A c jl sz) (jh - jl) (c - jl)) w) : R.WO P C o f w K := by
  have hr := run_slice_lh (P := P) w t A n c (by rw [R.elemT ht.h]; exact ht.h) k k2 lo hi h0 hl hc
  rw [R.elemT ht.h, R.run_sz ht.s] at hr
  have e2 := hj.h
  have e3 := hj2.h
  subst e2 e3
  refine R.WO_val ?_ hk
  simp [execOp, hop, hx, h1, h2, Instr.sliceAt, run_underlying ht.h, hr, Result.andThen, sliced, cutA]
end R
theorem row_cap {F : List Nat} {W w : World} {l : List R.Res} {A : Option Addr} {n c : Nat} {e : TypeId} {sz : Nat} {cs : List Value} (hM : R.Own F W w l) (hm : .row A n c e sz cs ∈ l) : n ≤ c := by
  have h := hM.ok _ hm
  rcases h.2 with ⟨h1, h2⟩ | ⟨g, cap, cur, h1, _, _, h2, _⟩
  · omega
  · cases h1; exact h2
theorem inp_one {F : List Nat} {w : World} {A : Option Addr} {n c m k : Nat} {L : List Int} (hA : R.Inp F w A n 1 (L.flatMap R.cU)) (hn : n = L.length) (hk : k < n) (hm : n ≤ m) (hc : c = 1) : R.Inp F w (R.cutA A m k 1) c 1 ([nth L k].flatMap R.cU) := by
  subst hc
  have h1 := (hA.cutA (lo := k) (by omega) hm).take 1 (by omega)
  have e1 : ((L.flatMap R.cU).drop (k * 1)).take (1 * 1) = [nth L k].flatMap R.cU := by
    have h2 : ∀ L : List Int, L.flatMap R.cU = L.map (fun x => Value.int .u64 x) := fun L => by
      induction L with
      | nil => rfl
      | cons x L ih => rw [List.flatMap_cons, ih]; rfl
    rw [h2, h2, Nat.mul_one, Nat.mul_one, ← List.map_drop, ← List.map_take, R.nth_eq (by omega), List.drop_eq_getElem_cons (by omega)]
    rfl
  rw [e1] at h1
  exact h1
theorem word_one {L : List Int} {k : Nat} (hd : DigI L) (hk : k < L.length) : dv [nth L k] / 65536 ^ (0 : Int).toNat % 18446744073709551616 = dg L k := by
  have hb := dg_lt hd k
  rw [dv_one, dg_nth hd hk, Int.toNat_natCast]
  show dg L k / 1 % 18446744073709551616 = dg L k
  omega
attribute [local irreducible] W512 in
set_option maxRecDepth 20000 in
set_option maxHeartbeats 4000000 in
theorem wideShifts_any (a : Wd) (c x : Int) (hc : In64 c) (hx : InU64 x) (w : World) :
    Calls Try.prog 8 #[.agg (cW a).toArray, .int .i64 c, .int .u64 x] w fun e w' => e = .returned (.bool true) ∧ Below w.heap.size w w' := by
  have hM := R.Own.start [] w
  have h1 := digsL_dig a.n 32
  have h3 := digsL_len a.n 32
  have h5 := digsL_whole a
  unfold In64 at hc
  unfold InU64 at hx
  refine R.calls_of_WC (fn := Try.f8) Try.func8 rfl Try.ntmps8 (Nat.le_of_ble_eq_true rfl) ?_
  (refine R.stepW ?_; (repeat' (first | (with_reducible refine And.intro ?_ ?_) | (with_reducible intro _))); all_goals refine R.Lft.mk ?_; (all_goals (try (exact ⟨rfl, R.Own.below (by assumption)⟩))))
  · rename_i A1 c1 w1 hM hc0 hc1
    have hcap := row_cap hM (.head _)
    have hbits : ∀ n : Nat, n < 512 → dg (digsL a.n 32) (n / 16) / 2 ^ (n % 16) % 2 = a.n / 2 ^ n % 2 := fun n hn => digs_bit a.n hn
    generalize digsL a.n 32 = D at *
    refine R.WO_slcLH rfl rfl rfl rfl (by omega) (by omega) (by omega) ?_
    have hI := inp_one (k := (c / 16).toNat) (c := (c / 16 + 1).toNat - (c / 16).toNat) (R.Own.inp hM (.head _)) h3.symm (by omega) hcap (by omega)
    have hlen : (c / 16 + 1).toNat - (c / 16).toNat = [nth D (c / 16).toNat].length := by simp; omega
    have hdig : DigI [nth D (c / 16).toNat] := DigI.one (h1 _ (R.nth_mem (by omega))).1 (h1 _ (R.nth_mem (by omega))).2
    have hw1 := word_one (k := (c / 16).toNat) h1 (by omega)
    have hw2 := dg_lt h1 (c / 16).toNat
    obtain ⟨n, hn⟩ : ∃ n : Nat, c = n := ⟨c.toNat, by omega⟩
    have i1 : (c / 16).toNat = n / 16 := by omega
    have i2 : (c % 16).toNat = n % 16 := by omega
    obtain ⟨q, hq⟩ : ∃ q, dg D (n / 16) / 2 ^ (n % 16) = q := ⟨_, rfl⟩
    have hq2 : q ≤ 65535 := by rw [← hq]; exact Nat.le_trans (Nat.div_le_self _ _) (by have := dg_lt h1 (n / 16); omega)
    have v1 : ((dv [nth D (c / 16).toNat] / 65536 ^ (0 : Int).toNat % 18446744073709551616 : Nat) : Int) / 2 ^ (c % 16).toNat = (q : Nat) := by
      rw [hw1, i1, i2, ← hq]; norm_cast
    (refine R.stepW ?_; (repeat' (first | (with_reducible refine And.intro ?_ ?_) | (with_reducible intro _))); all_goals refine R.Lft.mk ?_; (all_goals (try (exact ⟨rfl, R.Own.below (by assumption)⟩))))
    have hL : ((bitLen a.n : Nat) : Int) = (bitLen (dv D) : Nat) := by rw [h5]
    have hB : decide (0 ≤ c ∧ c < 512 ∧ a.n / 2 ^ c.toNat % 2 = 1) = decide (((dv [nth D (c / 16).toNat] / 65536 ^ (0 : Int).toNat % 18446744073709551616 : Nat) : Int) / 2 ^ (c % 16).toNat % 2 = 1) := by
      have h9 := hbits n (by omega)
      rw [hq] at h9
      rw [v1, show c.toNat = n by omega, ← h9, decide_eq_decide]
      omega
    have hZ : decide (a.n = 0) = decide (a = W 0) := by
      rw [decide_eq_decide]
      exact ⟨fun h => Wd.ext_ (by rw [h, W_n W512_pos]), fun h => by rw [h, W_n W512_pos]⟩
    clear hq v1 i1 i2 hw1
    refine R.WC_planO [(0, false), (1, false), (3, false), (4, false), (2, true), (5, true), (6, false), (7, false), (8, false), (10, false), (9, true), (11, true), (12, false), (13, false), (14, false), (15, false), (16, false), (18, false), (17, true), (19, false), (20, false), (21, false), (22, false), (24, false), (25, false), (26, false), (23, true), (27, false), (28, false), (29, false), (30, false), (32, false), (33, false), (31, true), (34, false), (35, false), (36, false), (37, true), (38, false), (39, false)] R.mixed (by decide +kernel) R.ohm ?_
    (refine R.stepW ?_; (repeat' (first | (with_reducible refine And.intro ?_ ?_) | (with_reducible intro _))); all_goals refine R.Lft.mk ?_; (all_goals (try (exact ⟨rfl, R.Own.below (by assumption)⟩))))
    all_goals (try exact absurd rfl (by assumption))
    all_goals (try exact absurd hL (by assumption))
    all_goals (try exact absurd hB (by assumption))
    all_goals (try exact absurd hZ (by assumption))
  all_goals
    have hL : ((bitLen a.n : Nat) : Int) = (bitLen (dv (digsL a.n 32)) : Nat) := by rw [h5]
    have hZ : decide (a.n = 0) = decide (a = W 0) := by
      rw [decide_eq_decide]
      exact ⟨fun h => Wd.ext_ (by rw [h, W_n W512_pos]), fun h => by rw [h, W_n W512_pos]⟩
    have hB : decide (0 ≤ c ∧ c < 512 ∧ a.n / 2 ^ c.toNat % 2 = 1) = false := decide_eq_false (by omega)
    generalize digsL a.n 32 = D at *
    refine R.WC_planO [(0, false), (1, false), (3, false), (4, false), (2, true), (5, true), (6, false), (7, false), (8, false), (10, false), (9, true), (11, true), (12, false), (13, false), (14, false), (15, false), (16, false), (18, false), (17, true), (19, false), (20, false), (21, false), (22, false), (24, false), (25, false), (26, false), (23, true), (27, false), (28, false), (29, false), (30, false), (32, false), (33, false), (31, true), (34, false), (35, false), (36, false), (37, true), (38, false), (39, false)] R.mixed (by decide +kernel) R.ohm ?_
    (refine R.stepW ?_; (repeat' (first | (with_reducible refine And.intro ?_ ?_) | (with_reducible intro _))); all_goals refine R.Lft.mk ?_; (all_goals (try (exact ⟨rfl, R.Own.below (by assumption)⟩))))
    all_goals (try exact absurd rfl (by assumption))
    all_goals (try exact absurd hL (by assumption))
    all_goals (try exact absurd hB (by assumption))
    all_goals (try exact absurd hZ (by assumption))
set_option maxRecDepth 100000 in
theorem walk_WideShifts {H : Type} {enc : TypeId × Value → H} (W : World) (base : Nat) (args : Array Value) (ds : List (DataW H)) (ps : List MemPlace) (hA : DataW.TrodAll enc Try.prog W 0 (fun _ => true) true [43, 3, 22] args.toList ds ps)
    (hval : ∀ (j : Nat) t v, #[43, 3, 22][j]? = some t → args[j]? = some v → Value.okWide Try.prog W .any base t v) :
    Calls Try.prog 8 args W fun e W' => e = .returned (.bool true) ∧ Below W.heap.size W W' := by
  obtain ⟨v0, v1, v2, d0, d1, d2, p0, p1, p2, rfl, rfl, rfl, h0, h1, h2⟩ := trodAll_three hA
  obtain ⟨a, ha, rfl⟩ := open_wide (hval 0 43 v0 rfl rfl) h0
  obtain ⟨b, rfl, rfl, rfl, wb⟩ := open_int (k := .i64) (by kernel_rfl) (hval 1 3 v1 rfl rfl) h1
  obtain ⟨c, rfl, rfl, rfl, wc⟩ := open_int (k := .u64) (by kernel_rfl) (hval 2 22 v2 rfl rfl) h2
  have h1 := bounds_i64 wb
  have h2 := bounds_u64 wc
  exact wideShifts_any ⟨a, ha⟩ b c (by unfold In64; omega) (by unfold InU64; omega) W
end Go.Proofs.Ytalaffabcnccgaa
