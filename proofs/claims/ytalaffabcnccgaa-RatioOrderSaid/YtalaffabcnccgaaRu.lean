/- The law RatioOrder. -/
import Derived.Test.YtalaffabcnccgaaRe
import Derived.Test.YtalaffabcnccgaaSa
namespace Go.Proofs.Ytalaffabcnccgaa
open Go.ChangeShapes Go.WideShapes Go.ChangeAt Go.RowKit
open R (In64 InU64 lo64 nth)

structure R3 where
  a : Rt
  b : Rt
  c : Rt
instance : Inhabited R3 := ⟨⟨default, default, default⟩⟩
def cR3 (x : R3) : List Value := cR x.a ++ (cR x.b ++ cR x.c)
theorem cR_len (x : Rt) : (cR x).length = 17 := encc_R.len x
instance encc_R3 : R.EncC cR3 51 := ⟨fun x => by simp [cR3, cR_len], fun x v hv => by
  unfold cR3 at hv
  rcases List.mem_append.1 hv with h | h
  · exact cR_one _ v h
  · rcases List.mem_append.1 h with h | h
    · exact cR_one _ v h
    · exact cR_one _ v h, by decide⟩
instance opn_R3 : R.Opn Try.prog 96 R3 cR3 (fun _ _ => True) := ⟨fun {H eh W base sp held fuel cs x} hx => by
  have hu : Try.prog.underlying 96 = some (.array 3 83) := by kernel_rfl
  have hc : Try.prog.cellsOf 83 = 17 := by kernel_rfl
  obtain ⟨m, hl, h⟩ := trod_arr hu hx
  rw [show Try.prog.cellsOf 96 = 51 by kernel_rfl] at hl
  rw [hc] at h
  obtain ⟨y0, k0⟩ := h 0 (by decide)
  obtain ⟨y1, k1⟩ := h 1 (by decide)
  obtain ⟨y2, k2⟩ := h 2 (by decide)
  obtain ⟨z0, e0, _⟩ := opn_rt.h k0
  obtain ⟨z1, e1, _⟩ := opn_rt.h k1
  obtain ⟨z2, e2, _⟩ := opn_rt.h k2
  refine ⟨⟨z0, z1, z2⟩, ?_, trivial⟩
  unfold cR3
  dsimp only
  rw [← e0, ← e1, ← e2]
  have h1 := List.take_append_drop 17 cs
  have h2 := List.take_append_drop 17 (cs.drop 17)
  rw [List.drop_drop] at h2
  have h3 : (cs.drop 34).take 17 = cs.drop 34 := List.take_of_length_le (by rw [List.length_drop]; omega)
  show cs = (cs.drop 0).take 17 ++ ((cs.drop 17).take 17 ++ (cs.drop 34).take 17)
  rw [h3, List.drop_zero]
  exact h1.symm.trans (congrArg (List.take 17 cs ++ ·) h2.symm)⟩
def R3.at (x : R3) (i : Nat) : Rt := if i = 0 then x.a else if i = 1 then x.b else x.c
theorem R3.cells (x : R3) (i : Nat) (hi : i < 3) : ((cR3 x).drop (i * 17)).take 17 = cR (x.at i) := by
  unfold cR3 R3.at
  have l0 := cR_len x.a
  have l1 := cR_len x.b
  have l2 := cR_len x.c
  match i, hi with
  | 0, _ =>
    rw [if_pos rfl, Nat.zero_mul, List.drop_zero]
    exact List.take_left' l0
  | 1, _ =>
    rw [if_neg (by decide), if_pos rfl, Nat.one_mul, List.drop_left' l0]
    exact List.take_left' l1
  | 2, _ =>
    rw [if_neg (by decide), if_neg (by decide), show 2 * 17 = 17 + 17 from rfl, ← List.drop_drop, List.drop_left' l0, List.drop_left' l1]
    exact List.take_of_length_le (Nat.le_of_eq l2)
theorem R3.at0 (x : R3) : List.take 17 (List.drop 0 (cR3 x)) = cR x.a := x.cells 0 (by decide)
theorem R3.at1 (x : R3) : List.take 17 (List.drop 17 (cR3 x)) = cR x.b := x.cells 1 (by decide)
theorem R3.at2 (x : R3) : List.take 17 (List.drop 34 (cR3 x)) = cR x.c := x.cells 2 (by decide)
theorem WO_ldR3 {C : R.CallH} {o : Oper} {f : R.Fr} {F : List Nat} {W0 w : World} {K : Value → World → Prop} {l : List R.Res} {t u : TypeId} {y : Operand} {g k : Nat} {x : R3} (hop : o.op = .load t y) (hx : R.ev f y = .pointer (some ((⟨g, 0, none⟩ : Addr).add (((k : Nat) : Int).toNat * 17)))) [R.KindT Try.prog t true] [R.SzT Try.prog t 17] (hM : R.Own F W0 w l) (hm : .blk g u (cR3 x) ∈ l) (h3 : k < 3) (hk : K (.agg (cR (x.at k)).toArray) w) : R.WO Try.prog C o f w K :=
  R.WO_loadOP (j := k * 17) (m := 17) (cs := cR3 x) hop hx (by rw [Int.toNat_natCast]; simp [Addr.add]; omega) hM hm (by rw [x.cells k h3]; exact cR_len _) (by rw [x.cells k h3]; exact hk)
theorem errB_t {p q : Bool} (hp : p = true) (hq : q = true) : errB (p && q) = 0 := by rw [hp, hq]; rfl
theorem cmp_range (a b : Rt) : -1 ≤ cmpR a b ∧ cmpR a b ≤ 1 := by
  unfold cmpR cmpZ
  split
  · omega
  · split <;> omega
attribute [local irreducible] W512 in
set_option maxHeartbeats 8000000 in
theorem ratioOrder_any (x : R3) (w : World) : Calls Try.prog 19 #[.agg (cR3 x).toArray] w fun e w' => e = .returned (.bool true) ∧ Below w.heap.size w w' := by
  have hM := R.Own.start [] w
  refine R.calls_of_WC (fn := Try.f19) Try.func19 rfl Try.ntmps19 (Nat.le_of_ble_eq_true rfl) ?_
  (refine R.stepU ?_; (repeat' (first | (with_reducible refine And.intro ?_ ?_) | (with_reducible intro _))); all_goals refine R.Lft.mk ?_)
  rename_i g w1 hM
  refine R.WC_loop (fun k : Nat => [(1, .pointer (some ⟨g, 0, none⟩)), (2, .bool false), (3, .int .i64 (k : Nat))])
    (fun k w2 => k ≤ 3 ∧ (∀ i, i < k → mayB (x.at i) = true) ∧ R.Own [] w w2 [.blk g 96 (cR3 x)]) (fun k => 3 - k) ⟨0, ⟨rfl, rfl, rfl, trivial⟩, by omega, fun i hi => absurd hi (Nat.not_lt_zero _), hM⟩ ?_
  clear hM
  rintro k f w2 ⟨hk, hall, hM⟩
  rcases Nat.lt_or_ge k 3 with hlt | hge
  · (refine R.stepU ?_; (repeat' (first | (with_reducible refine And.intro ?_ ?_) | (with_reducible intro _))); all_goals refine R.Lft.mk ?_)
    refine WO_ldR3 rfl rfl hM (.head _) hlt ?_
    (refine R.stepU ?_; (repeat' (first | (with_reducible refine And.intro ?_ ?_) | (with_reducible intro _))); all_goals refine R.Lft.mk ?_; (all_goals (try (exact ⟨rfl, R.Own.below (by assumption)⟩))))
    rename_i hm _ hM
    refine ⟨k + 1, ⟨rfl, rfl, R.viaI rfl (by omega), trivial⟩, ⟨by omega, fun i hi => ?_, by assumption⟩, by omega⟩
    rcases Nat.lt_or_ge i k with h | h
    · exact hall i h
    · obtain rfl : i = k := by omega
      have h : (!mayB (x.at i)) = false := by assumption
      simpa using h
  · obtain rfl : k = 3 := by omega
    have r0 : List.take 17 (List.drop 0 (cR3 x)) = cR x.a := x.at0
    have r1 : List.take 17 (List.drop ((⟨g, 0, none⟩ : Addr).off + Int.toNat 1 * 17) (cR3 x)) = cR x.b := x.at1
    have r2 : List.take 17 (List.drop ((⟨g, 0, none⟩ : Addr).off + Int.toNat 2 * 17) (cR3 x)) = cR x.c := x.at2
    have m0 : mayB x.a = true := hall 0 (by omega)
    have m1 : mayB x.b = true := hall 1 (by omega)
    have m2 : mayB x.c = true := hall 2 (by omega)
    have k1 : (if mayB x.a && mayB x.b then cmpR x.a x.b else 0) = cmpR x.a x.b := by rw [m0, m1]; rfl
    have k2 : (if mayB x.b && mayB x.a then cmpR x.b x.a else 0) = cmpR x.b x.a := by rw [m0, m1]; rfl
    have k3 : (if mayB x.b && mayB x.c then cmpR x.b x.c else 0) = cmpR x.b x.c := by rw [m1, m2]; rfl
    have k4 : (if mayB x.a && mayB x.c then cmpR x.a x.c else 0) = cmpR x.a x.c := by rw [m0, m2]; rfl
    have j1 := errB_t m0 m1
    have j2 := errB_t m1 m0
    have j3 := errB_t m1 m2
    have j4 := errB_t m0 m2
    have t0 := cmp_range x.b x.a
    have t1 := cmp_anti (mayF m0) (mayF m1)
    have t2 := cmp_trans (mayF m0) (mayF m1) (mayF m2)
    have t3 : cmpR x.a x.b = 0 → cmpR x.a x.c = cmpR x.b x.c := fun h => by rw [(cmp_same (mayF m0) (mayF m1)).1 h]
    clear hall
    (refine R.stepU ?_; (repeat' (first | (with_reducible refine And.intro ?_ ?_) | (with_reducible intro _))); all_goals refine R.Lft.mk ?_)
    rw [r0, r1]
    (refine R.stepU ?_; (repeat' (first | (with_reducible refine And.intro ?_ ?_) | (with_reducible intro _))); all_goals refine R.Lft.mk ?_)
    rw [r1, r0]
    (refine R.stepU ?_; (repeat' (first | (with_reducible refine And.intro ?_ ?_) | (with_reducible intro _))); all_goals refine R.Lft.mk ?_)
    rw [r1, r2]
    (refine R.stepU ?_; (repeat' (first | (with_reducible refine And.intro ?_ ?_) | (with_reducible intro _))); all_goals refine R.Lft.mk ?_)
    rw [r0, r2]
    (refine R.stepU ?_; (repeat' (first | (with_reducible refine And.intro ?_ ?_) | (with_reducible intro _))); all_goals refine R.Lft.mk ?_; (all_goals (try (exact ⟨rfl, R.Own.below (by assumption)⟩))))
set_option maxRecDepth 100000 in
theorem walk_RatioOrder {H : Type} {enc : TypeId × Value → H} (W : World) (base : Nat) (args : Array Value) (ds : List (DataW H)) (ps : List MemPlace) (hA : DataW.TrodAll enc Try.prog W 0 (fun _ => true) true [96] args.toList ds ps)
    (hval : ∀ (j : Nat) t v, #[96][j]? = some t → args[j]? = some v → Value.okWide Try.prog W .any base t v) :
    Calls Try.prog 19 args W fun e W' => e = .returned (.bool true) ∧ Below W.heap.size W W' := by
  obtain ⟨v0, d0, rfl, rfl, h0⟩ := trodAll_one hA
  obtain ⟨z0, q0, g0, a0, b0⟩ := R.open_arg (hval 0 96 v0 rfl rfl) h0
  obtain rfl := a0 (by kernel_rfl)
  exact ratioOrder_any z0 W
end Go.Proofs.Ytalaffabcnccgaa
