/- The law WeighJoins. -/
import Derived.Test.YtoainfnhmdcpoaaWl
import Derived.Test.YtoainfnhmdcpoaaFrame
namespace Go.Proofs.Ytoainfnhmdcpoaa
open Go.ChangeShapes Go.WideShapes Go.ChangeAt Go.RowKit
open R (In64 InU64 lo64 nth)

def awP : List P2 := [⟨0, 1⟩, ⟨1, 3⟩, ⟨1, 1⟩]
theorem awP_ok : cutsP awP := ⟨by decide, by decide, fun i hi => by
  match i, hi with
  | 0, _ => exact ⟨by decide, fun h => absurd h (by decide)⟩
  | 1, _ => exact ⟨by decide, fun _ => by decide⟩
  | 2, _ => exact ⟨by decide, fun _ => by decide⟩, by decide, by decide⟩
theorem awP_parts : partsL 10 awP = [3, 7] := by
  unfold partsL
  rw [cutsB_t awP_ok, show okW 10 = true by decide]
  decide
theorem awP_e : partsE 10 awP = 0 := by
  unfold partsE
  rw [cutsB_t awP_ok, show okW 10 = true by decide]
  rfl
theorem awake14 (w : World) : Calls Try.prog 16 #[] w fun e w' => e = .returned (.bool true) ∧ Below w.heap.size w w' := by
  have hM := R.Own.start [] w
  refine R.calls_of_WC (fn := Try.f16) Try.func16 rfl Try.ntmps16 (Nat.le_of_ble_eq_true rfl) ?_
  (refine R.stepV ?_; (repeat' (first | (with_reducible refine And.intro ?_ ?_) | (with_reducible intro _))); all_goals refine R.Lft.mk ?_)
  refine WO_bdP2 rfl rfl rfl ?_
  (refine R.stepV ?_; (repeat' (first | (with_reducible refine And.intro ?_ ?_) | (with_reducible intro _))); all_goals refine R.Lft.mk ?_)
  refine WO_bdP2 rfl rfl rfl ?_
  (refine R.stepV ?_; (repeat' (first | (with_reducible refine And.intro ?_ ?_) | (with_reducible intro _))); all_goals refine R.Lft.mk ?_)
  refine WO_bdP2 rfl rfl rfl ?_
  (refine R.stepV ?_; (repeat' (first | (with_reducible refine And.intro ?_ ?_) | (with_reducible intro _))); all_goals refine R.Lft.mk ?_)
  rename_i hM
  refine R.WO_call2 rfl rfl R.vv R.vv ?_
  refine (parts14_any 10 (by unfold In64; omega) _ 3 _ awP _ (R.Own.inp hM (.head _)) rfl (row_cap hM (.head _)) (by omega) (by decide)).mono ?_
  rintro e w2 ⟨A1, c1, rfl, hG⟩
  rw [awP_parts, awP_e] at *
  obtain ⟨N, hN, hN2⟩ : ∃ N, ([3, 7] : List Int).length = N ∧ N = 2 := ⟨_, rfl, rfl⟩
  rw [hN] at hG ⊢
  clear hN
  subst hN2
  have hM := hM.give hG
  refine ⟨_, rfl, ?_⟩
  have hj : joinB [3, 7] = true := by decide
  have hs : joinS [3, 7] = 10 := by decide
  (refine R.stepV ?_; (repeat' (first | (with_reducible refine And.intro ?_ ?_) | (with_reducible intro _))); all_goals refine R.Lft.mk ?_; (all_goals (try (exact ⟨rfl, R.Own.below (by assumption)⟩))))
instance con_awake14 : R.ConB Try.prog 16 #[] Unit (fun _ _ => True) (fun _ => .bool true) := ⟨fun _ w _ => awake14 w⟩
theorem WO_remT {P : Program} {C : R.CallH} {o : Oper} {f : R.Fr} {w : World} {K : Value → World → Prop} {t t' : TypeId} {x y : Operand} {a b : Int} (hop : o.op = .binOp .rem t x y t') (hx : R.ev f x = .int .i64 a) (hy : R.ev f y = .int .i64 b) (hb : b ≠ 0) (hk : K (.int .i64 (Int.tmod a b)) w) : R.WO P C o f w K := by
  refine R.WO_val ?_ hk
  simp [execOp, hop, hx, hy, eqGuard_rem, binOp_rem, Op.intDiv, hb]
theorem weighJoins_any (A : Option Addr) (n c : Nat) (L : List Int) (w : World) (hA : R.Inp [] w A n 1 (L.flatMap R.cI)) (hn : n = L.length) (hb : n ≤ 9223372036854775807) (hG : ∀ x ∈ L, In64 x) : Calls Try.prog 4 #[.slice A n c] w fun e w' => e = .returned (.bool true) ∧ Below w.heap.size w w' := by
  have hM := R.Own.start [] w
  by_cases hl : n ≤ 2000
  · refine R.calls_of_WC (fn := Try.f4) Try.func4 rfl Try.ntmps4 (Nat.le_of_ble_eq_true rfl) ?_
    (refine R.stepV ?_; (repeat' (first | (with_reducible refine And.intro ?_ ?_) | (with_reducible intro _))); all_goals refine R.Lft.mk ?_)
    rename_i hM
    refine R.WC_loop (fun s : Nat × Int × Bool => [(0, .slice A n c), (2, .bool false), (3, .int .i64 (joinS L)), (4, .bool (joinB L)), (5, .int .i64 s.2.1), (6, .bool s.2.2), (7, .int .i64 (s.1 : Nat))])
      (fun s w2 => s.1 ≤ n ∧ (s.2.2 = true → (∀ i, i < s.1 → okW (nth L i) = true) ∧ s.2.1 = (L.take s.1).sum ∧ 0 ≤ s.2.1 ∧ s.2.1 ≤ 2147483648 * s.1) ∧ (s.2.2 = false → joinB L = false) ∧ R.Own [] w w2 []) (fun s => if s.2.2 then 1 + n - s.1 else 0) ⟨(0, 0, true), ⟨rfl, rfl, rfl, rfl, rfl, R.viaB rfl (by simp; omega), rfl, trivial⟩, by dsimp only; omega, fun _ => ⟨fun i hi => absurd hi (Nat.not_lt_zero _), by simp, by simp, by simp⟩, fun h => (by cases h), by assumption⟩ ?_
    clear hM
    rintro ⟨k, sum, may⟩ f w2 ⟨hk, h1, h2, hM⟩
    dsimp only at hk h1 h2 hM ⊢
    cases may with
    | false =>
      have hj := h2 rfl
      have hs : joinS L = 0 := by unfold joinS; rw [hj]; rfl
      (refine R.stepV ?_; (repeat' (first | (with_reducible refine And.intro ?_ ?_) | (with_reducible intro _))); all_goals refine R.Lft.mk ?_; (all_goals (try (exact ⟨rfl, R.Own.below (by assumption)⟩))))
      all_goals first
        | exact ⟨rfl, R.Own.below (by assumption)⟩
        | (have h : (!joinB L) = false := by assumption
           rw [hj] at h
           cases h)
        | (exfalso; omega)
    | true =>
      obtain ⟨g1, g2, g3, g4⟩ := h1 rfl
      clear h1 h2
      by_cases hlt : k < n
      · have hr := hG _ (R.nth_mem (L := L) (i := k) (by omega))
        have ht : -1099511627776 < Int.tmod (nth L k) 1099511627776 ∧ Int.tmod (nth L k) 1099511627776 < 1099511627776 := by
          have h := Int.natAbs_tmod (nth L k) 1099511627776
          have h2 : (nth L k).natAbs % (1099511627776 : Int).natAbs < 1099511627776 := Nat.mod_lt _ (by decide)
          omega
        unfold In64 at hr
        have es : (L.take (k + 1)).sum = (L.take k).sum + nth L k := by rw [take_snoc (by omega), sum_snoc]
        have key : ∀ (b : Bool) (t : Int), b = okW (nth L k) → (okW (nth L k) = true → t = nth L k) → (b = true → (∀ i, i < k + 1 → okW (nth L i) = true) ∧ sum + t = (L.take (k + 1)).sum ∧ 0 ≤ sum + t ∧ sum + t ≤ 2147483648 * (k + 1 : Nat)) ∧ (b = false → joinB L = false) := fun b t hb hm => by
          subst hb
          refine ⟨fun ho => ?_, fun ho => by unfold joinB; rw [not_ok (i := k) (by omega) ho]; simp⟩
          have hr2 := okW_of ho
          rw [hm ho, es, g2]
          refine ⟨fun i hi => ?_, rfl, by omega, by omega⟩
          rcases Nat.lt_or_ge i k with h | h
          · exact g1 i h
          · obtain rfl : i = k := by omega
            exact ho
        (refine R.stepV ?_; (repeat' (first | (with_reducible refine And.intro ?_ ?_) | (with_reducible intro _))); all_goals refine R.Lft.mk ?_)
        · rename_i h0
          have hk2 := key _ (nth L k % 1099511627776) (show decide (nth L k ≤ 2147483648) = okW (nth L k) by unfold okW; rw [decide_eq_true h0]; rfl) (fun ho => Int.emod_eq_of_lt h0 (by have := okW_of ho; omega))
          refine ⟨(k + 1, _, _), ⟨rfl, rfl, rfl, rfl, rfl, rfl, R.viaI rfl (by dsimp only; omega), trivial⟩, ⟨by dsimp only; omega, hk2.1, hk2.2, by assumption⟩, ?_⟩
          dsimp only
          rw [if_pos (rfl : true = true)]
          split <;> omega
        · rename_i h0
          have hk2 := key false (Int.tmod (nth L k) 1099511627776) (show false = okW (nth L k) by unfold okW; rw [decide_eq_false h0]; rfl) (fun ho => absurd (okW_of ho).1 h0)
          refine WO_remT rfl rfl rfl (by decide) ?_
          (refine R.stepV ?_; (repeat' (first | (with_reducible refine And.intro ?_ ?_) | (with_reducible intro _))); all_goals refine R.Lft.mk ?_)
          refine ⟨(k + 1, _, _), ⟨rfl, rfl, rfl, rfl, rfl, rfl, R.viaI rfl (by dsimp only; omega), trivial⟩, ⟨by dsimp only; omega, hk2.1, hk2.2, by assumption⟩, ?_⟩
          dsimp only
          rw [if_pos (rfl : true = true)]
          split <;> omega
      · obtain rfl : k = n := by omega
        have hj : joinB L = true := by unfold joinB; rw [all_ok (by rw [← hn]; exact g1), decide_eq_true (by omega)]; rfl
        have hs : joinS L = sum := by unfold joinS; rw [if_pos hj, g2, hn, List.take_length]
        (refine R.stepV ?_; (repeat' (first | (with_reducible refine And.intro ?_ ?_) | (with_reducible intro _))); all_goals refine R.Lft.mk ?_; (all_goals (try (exact ⟨rfl, R.Own.below (by assumption)⟩))))
        all_goals first
          | exact ⟨rfl, R.Own.below (by assumption)⟩
          | (exfalso; omega)
          | (exfalso; simp_all; done)
  · have hj : joinB L = false := by unfold joinB; rw [decide_eq_false (by omega)]; rfl
    have hs : joinS L = 0 := by unfold joinS; rw [hj]; rfl
    refine R.calls_of_WC (fn := Try.f4) Try.func4 rfl Try.ntmps4 (Nat.le_of_ble_eq_true rfl) ?_
    (refine R.stepV ?_; (repeat' (first | (with_reducible refine And.intro ?_ ?_) | (with_reducible intro _))); all_goals refine R.Lft.mk ?_)
    rename_i hM
    refine R.WC_loop (fun s : Unit => [(0, .slice A n c), (2, .bool false), (3, .int .i64 (joinS L)), (4, .bool (joinB L)), (6, .bool false), (7, .int .i64 0)])
      (fun s w2 => R.Own [] w w2 []) (fun s => 0) ⟨(), ⟨rfl, rfl, rfl, rfl, R.viaB rfl (by simp; omega), rfl, trivial⟩, by assumption⟩ ?_
    clear hM
    rintro ⟨⟩ f w2 hM
    (refine R.stepV ?_; (repeat' (first | (with_reducible refine And.intro ?_ ?_) | (with_reducible intro _))); all_goals refine R.Lft.mk ?_; (all_goals (try (exact ⟨rfl, R.Own.below (by assumption)⟩))))
    all_goals first
      | exact ⟨rfl, R.Own.below (by assumption)⟩
      | (have h : (!joinB L) = false := by assumption
         rw [hj] at h
         cases h)
      | (exfalso; omega)
set_option maxRecDepth 100000 in
theorem walk_WeighJoins {H : Type} {enc : TypeId × Value → H} (W : World) (base : Nat) (args : Array Value) (ds : List (DataW H)) (ps : List MemPlace) (hA : DataW.TrodAll enc Try.prog W 0 (fun _ => true) true [24] args.toList ds ps)
    (hval : ∀ (j : Nat) t v, #[24][j]? = some t → args[j]? = some v → Value.okWide Try.prog W .any base t v) :
    Calls Try.prog 4 args W fun e W' => e = .returned (.bool true) ∧ Below W.heap.size W W' := by
  obtain ⟨v0, d0, rfl, rfl, h0⟩ := trodAll_one hA
  obtain ⟨z0, q0, ⟨g1, g2, g3, g4⟩, a0, b0⟩ := R.open_arg (hval 0 24 v0 rfl rfl) h0
  obtain rfl := b0 (by kernel_rfl) _ rfl
  exact weighJoins_any z0.A z0.n z0.c z0.L W g1 g2 (by omega) (fun x hx => by have := bounds_i64 (g4 x hx); unfold In64; omega)
end Go.Proofs.Ytoainfnhmdcpoaa
