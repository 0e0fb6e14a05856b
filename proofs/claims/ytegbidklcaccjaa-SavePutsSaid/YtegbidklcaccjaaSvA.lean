/- The laws of chapter 46: their own example. -/
import Derived.Test.YtegbidklcaccjaaSvR
namespace Go.Proofs.Ytegbidklcaccjaa
open Go.ChangeShapes Go.WideShapes Go.ChangeAt Go.RowKit
open R (In64 InU64 lo64 nth)

namespace R
section
variable {P : Program} {n : Nat} {Q : Exit → Fr → World → Prop} {f : Fr} {w : World} {F : List Nat} {W : World} {L : List Res} {r1 r2 r3 : Res} {id : Nat} {l : List Oper}
/-- A drawing region that stores into what lies in front, and else only reads. -/
theorem WC_planD1 (pl : List (Nat × Bool)) (hm : P.follows .mixedOrders = true) (hB : planOk l.toArray pl = true) (hM : Own F W w (r1 :: L))
    (h : ∀ w1, Own F W w1 (r1 :: L) → WH P l.toArray n (fun w2 => Own F W w2 L) (fun f' w' => Q .normal f' w') pl f w1) : WC P n Q (.region id l.toArray true) f w :=
  WC_plan _ _ hm hB hM.drew.tl (h _ hM.drew)
theorem WC_planD2 (pl : List (Nat × Bool)) (hm : P.follows .mixedOrders = true) (hB : planOk l.toArray pl = true) (hM : Own F W w (r1 :: r2 :: L))
    (h : ∀ w1, Own F W w1 (r1 :: r2 :: L) → WH P l.toArray n (fun w2 => Own F W w2 L) (fun f' w' => Q .normal f' w') pl f w1) : WC P n Q (.region id l.toArray true) f w :=
  WC_plan _ _ hm hB hM.drew.tl.tl (h _ hM.drew)
theorem WC_planD3 (pl : List (Nat × Bool)) (hm : P.follows .mixedOrders = true) (hB : planOk l.toArray pl = true) (hM : Own F W w (r1 :: r2 :: r3 :: L))
    (h : ∀ w1, Own F W w1 (r1 :: r2 :: r3 :: L) → WH P l.toArray n (fun w2 => Own F W w2 L) (fun f' w' => Q .normal f' w') pl f w1) : WC P n Q (.region id l.toArray true) f w :=
  WC_plan _ _ hm hB hM.drew.tl.tl.tl (h _ hM.drew)
end
end R
def zP : List Value := [.int .i64 0, .slice none 0 0, .slice none 0 0, .int .i64 0, .slice none 0 0]
theorem all0 (w : World) : Calls Try.prog 79 #[.slice none 0 0] w fun e w' => e = .returned (.int .i64 0) ∧ Below w.heap.size w w' := by
  have hM := R.Own.start [] w
  refine R.calls_of_WC (fn := Try.f79) Try.func79 rfl Try.ntmps79 (Nat.le_of_ble_eq_true rfl) ?_
  (refine R.step ?_; (repeat' (first | (with_reducible refine And.intro ?_ ?_) | (with_reducible intro _))); all_goals refine R.Lft.mk ?_)
  refine R.WC_loop (fun s : Unit => [(0, .slice none 0 0), (2, .int .i64 0), (3, .int .i64 0), (4, .int .i64 0), (13, .slice none 0 0), (14, .int .i64 0), (15, .int .i64 0)])
    (fun s w2 => R.Own [] w w2 []) (fun s => 0) ⟨(), ⟨rfl, rfl, rfl, rfl, rfl, rfl, rfl, trivial⟩, R.ohm⟩ ?_
  clear hM
  rintro ⟨⟩ f w2 hM
  (refine R.step ?_; (repeat' (first | (with_reducible refine And.intro ?_ ?_) | (with_reducible intro _))); all_goals refine R.Lft.mk ?_)
  refine R.WC_loop (fun s : Unit => [(2, .int .i64 0), (3, .int .i64 0), (4, .int .i64 0), (30, .slice none 0 0), (31, .int .i64 0), (32, .int .i64 0)])
    (fun s w2 => R.Own [] w w2 []) (fun s => 0) ⟨(), ⟨rfl, rfl, rfl, rfl, rfl, rfl, trivial⟩, R.ohm⟩ ?_
  clear hM
  rintro ⟨⟩ f w2 hM
  (refine R.step ?_; (repeat' (first | (with_reducible refine And.intro ?_ ?_) | (with_reducible intro _))); all_goals refine R.Lft.mk ?_; (all_goals (try (exact ⟨rfl, R.Own.below (by assumption)⟩))))
instance con_all0 : R.ConB Try.prog 79 #[.slice none 0 0] Unit (fun _ _ => True) (fun _ => .int .i64 0) := ⟨fun _ w _ => all0 w⟩
theorem nums0 (w : World) : Calls Try.prog 54 #[.agg zP.toArray] w fun e w' => ∃ A1 c1, e = .returned (.slice A1 5 c1) ∧ R.Gives w w' A1 5 c1 3 1 (([0, 0, 0, 0, 0] : List Int).flatMap R.cI) := by
  have hM := R.Own.start [] w
  refine R.calls_of_WC (fn := Try.f54) Try.func54 rfl Try.ntmps54 (Nat.le_of_ble_eq_true rfl) ?_
  (refine R.step ?_; (repeat' (first | (with_reducible refine And.intro ?_ ?_) | (with_reducible intro _))); all_goals refine R.Lft.mk ?_)
  rename_i g _ _ A3 c3 w3 hM
  refine R.WC_loop (fun s : Unit => [(1, .pointer (some ⟨g, 0, none⟩)), (2, .slice none 0 0), (3, .slice A3 2 c3), (17, .slice none 0 0), (18, .int .i64 0), (19, .int .i64 0)])
    (fun s w2 => R.Own [] w w2 [.row A3 2 c3 3 1 (([0, 0] : List Int).flatMap R.cI), .blk g 44 zP]) (fun s => 0) ⟨(), ⟨rfl, rfl, rfl, rfl, rfl, rfl, trivial⟩, hM⟩ ?_
  clear hM
  rintro ⟨⟩ f w2 hM
  (refine R.step ?_; (repeat' (first | (with_reducible refine And.intro ?_ ?_) | (with_reducible intro _))); all_goals refine R.Lft.mk ?_)
  rename_i A4 c4 w4 hM
  refine R.WC_loop (fun s : Unit => [(1, .pointer (some ⟨g, 0, none⟩)), (2, .slice none 0 0), (3, .slice A4 4 c4), (66, .slice none 0 0), (67, .int .i64 0), (68, .int .i64 0)])
    (fun s w2 => R.Own [] w w2 [.row A4 4 c4 3 1 (([0, 0, 0, 0] : List Int).flatMap R.cI), .blk g 44 zP]) (fun s => 0) ⟨(), ⟨rfl, rfl, rfl, rfl, rfl, rfl, trivial⟩, hM⟩ ?_
  clear hM
  rintro ⟨⟩ f w2 hM
  (refine R.step ?_; (repeat' (first | (with_reducible refine And.intro ?_ ?_) | (with_reducible intro _))); all_goals refine R.Lft.mk ?_)
  refine R.WC_planD1 [(0, false), (1, false), (2, false), (3, false), (6, false), (7, false), (4, true), (5, true), (8, true), (9, false)] R.mixed (by decide +kernel) R.ohm ?_
  (refine R.step ?_; (repeat' (first | (with_reducible refine And.intro ?_ ?_) | (with_reducible intro _))); all_goals refine R.Lft.mk ?_)
  refine R.WO_appO rfl rfl rfl R.ohm (fun _ _ => R.upds) (by infer_instance) (R.Rd.nil _ _ _) (by infer_instance) (by omega) (by omega) ?_
  (refine R.step ?_; (repeat' (first | (with_reducible refine And.intro ?_ ?_) | (with_reducible intro _))); all_goals refine R.Lft.mk ?_)
  rename_i hM
  exact ⟨_, _, rfl, R.Own.gives hM⟩
theorem may0 (w : World) : Calls Try.prog 53 #[.agg zP.toArray] w fun e w' => e = .returned (.bool true) ∧ Below w.heap.size w w' := by
  have hM := R.Own.start [] w
  refine R.calls_of_WC (fn := Try.f53) Try.func53 rfl Try.ntmps53 (Nat.le_of_ble_eq_true rfl) ?_
  (refine R.step ?_; (repeat' (first | (with_reducible refine And.intro ?_ ?_) | (with_reducible intro _))); all_goals refine R.Lft.mk ?_)
  refine R.WO_call1 rfl rfl R.vv ?_
  refine (nums0 _).mono ?_
  rintro _ w2 ⟨A1, c1, rfl, hG⟩
  have hM := R.Own.give R.ohm hG
  refine ⟨_, rfl, ?_⟩
  (refine R.step ?_; (repeat' (first | (with_reducible refine And.intro ?_ ?_) | (with_reducible intro _))); all_goals refine R.Lft.mk ?_)
  refine R.WO_call2 rfl rfl R.vv R.vv ?_
  refine (containsFunc_Int A1 5 c1 [0, 0, 0, 0, 0] 81 [] (fun x => decide (x < -1152921504606846976) || decide (1152921504606846976 < x)) _ (R.Own.inp hM (.head _)) rfl (by omega) (fun x w3 hx hb => ?_)).mono ?_
  · have hM := R.Own.start [] w3
    refine R.calls_of_WC (fn := Try.f81) Try.func81 rfl Try.ntmps81 (Nat.le_of_ble_eq_true rfl) ?_
    (refine R.step ?_; (repeat' (first | (with_reducible refine And.intro ?_ ?_) | (with_reducible intro _))); all_goals refine R.Lft.mk ?_)
    all_goals
      refine ⟨?_, R.Own.below (by assumption)⟩
      simp [*]
  rintro _ w3 ⟨rfl, hb⟩
  have hM := hM.call hb
  refine ⟨_, rfl, ?_⟩
  (refine R.step ?_; (repeat' (first | (with_reducible refine And.intro ?_ ?_) | (with_reducible intro _))); all_goals refine R.Lft.mk ?_)
  exact ⟨rfl, R.Own.below (by assumption)⟩
instance con_may0 : R.ConB Try.prog 53 #[.agg zP.toArray] Unit (fun _ _ => True) (fun _ => .bool true) := ⟨fun _ w _ => may0 w⟩
theorem num0 : putL [] 0 = [0] := by
  unfold putL
  rw [if_pos (by omega), numB_lo (by unfold zig; omega)]
  rfl
set_option maxHeartbeats 1000000 in
theorem put0 (w : World) : Calls Try.prog 23 #[.agg zP.toArray] w fun e w' => ∃ A1 c1, e = .returned (.tuple #[.slice A1 6 c1, .int .i64 0]) ∧ R.Gives w w' A1 6 c1 5 1 (([83, 0, 0, 0, 0, 0] : List Int).flatMap R.cY) := by
  have hM := R.Own.start [] w
  refine R.calls_of_WC (fn := Try.f23) Try.func23 rfl Try.ntmps23 (Nat.le_of_ble_eq_true rfl) ?_
  (refine R.step ?_; (repeat' (first | (with_reducible refine And.intro ?_ ?_) | (with_reducible intro _))); all_goals refine R.Lft.mk ?_)
  refine R.WO_call1 rfl rfl R.vv ?_
  refine (nums0 _).mono ?_
  rintro _ w2 ⟨A1, c1, rfl, hG⟩
  have hM := R.Own.give R.ohm hG
  refine ⟨_, rfl, ?_⟩
  (refine R.step ?_; (repeat' (first | (with_reducible refine And.intro ?_ ?_) | (with_reducible intro _))); all_goals refine R.Lft.mk ?_)
  rename_i g _ _ _ _ A0 c0 _ hM0
  refine R.WC_loop (fun s : Nat × Option Addr × Nat => [(2, .slice none 0 0), (3, .int .i64 0), (4, .slice s.2.1 (1 + s.1) s.2.2), (12, .slice A1 5 c1), (13, .int .i64 5), (14, .int .i64 (s.1 : Nat))])
    (fun s w3 => s.1 ≤ 5 ∧ R.Own [] w w3 [.row s.2.1 (1 + s.1) s.2.2 5 1 ((83 :: List.replicate s.1 (0 : Int)).flatMap R.cY), .row A1 5 c1 3 1 (([0, 0, 0, 0, 0] : List Int).flatMap R.cI)]) (fun s => 5 - s.1) ⟨(0, A0, c0), ⟨rfl, rfl, rfl, rfl, rfl, rfl, trivial⟩, Nat.zero_le _, R.Own.sub (R.Own.swap hM) (List.Sublist.cons_cons _ (List.Sublist.cons_cons _ (List.nil_sublist _)))⟩ ?_
  clear hM hM0
  rintro ⟨k, A2, c2⟩ f w3 ⟨hk, hM⟩
  dsimp only at hk hM ⊢
  by_cases hlt : k < 5
  · have hv : nth ([0, 0, 0, 0, 0] : List Int) k = 0 := by
      have : ∀ j : Nat, j < 5 → nth ([0, 0, 0, 0, 0] : List Int) j = 0 := by decide
      exact this k hlt
    (refine R.step ?_; (repeat' (first | (with_reducible refine And.intro ?_ ?_) | (with_reducible intro _))); all_goals refine R.Lft.mk ?_)
    rw [hv]
    refine R.WO_call2 rfl rfl R.vv R.vv ?_
    refine (num_any none 0 0 [] 0 _ (R.Inp.nil _ _ _ _) rfl (by omega) (by unfold In64; omega)).mono ?_
    rintro _ w4 ⟨A3, c3, rfl, hG⟩
    rw [num0, show ([0] : List Int).length = 1 from rfl] at hG ⊢
    have hM := R.Own.give R.ohm hG
    refine ⟨_, rfl, ?_⟩
    (refine R.step ?_; (repeat' (first | (with_reducible refine And.intro ?_ ?_) | (with_reducible intro _))); all_goals refine R.Lft.mk ?_)
    rename_i hM
    refine ⟨(k + 1, _, _), ⟨rfl, rfl, rfl, rfl, rfl, R.viaI rfl (by dsimp only; omega), trivial⟩, ⟨by dsimp only; omega, ?_⟩, by dsimp only; omega⟩
    dsimp only
    rw [List.replicate_succ', ← List.cons_append]
    exact hM
  · obtain rfl : k = 5 := by omega
    (refine R.step ?_; (repeat' (first | (with_reducible refine And.intro ?_ ?_) | (with_reducible intro _))); all_goals refine R.Lft.mk ?_)
    exact ⟨_, _, rfl, R.Own.gives hM⟩
theorem row_cap {F : List Nat} {W w : World} {l : List R.Res} {A : Option Addr} {n c : Nat} {e : TypeId} {sz : Nat} {cs : List Value} (hM : R.Own F W w l) (hm : .row A n c e sz cs ∈ l) : n ≤ c := by
  have h := hM.ok _ hm
  rcases h.2 with ⟨h1, h2⟩ | ⟨g, cap, cur, h1, _, _, h2, _⟩
  · omega
  · cases h1; exact h2
theorem aw_read : rdF [129, 1, 7] 0 0 = some (-65, 2) := by decide
theorem awake46 (w : World) : Calls Try.prog 22 #[] w fun e w' => e = .returned (.bool true) ∧ Below w.heap.size w w' := by
  have hM := R.Own.start [] w
  refine R.calls_of_WC (fn := Try.f22) Try.func22 rfl Try.ntmps22 (Nat.le_of_ble_eq_true rfl) ?_
  (refine R.step ?_; (repeat' (first | (with_reducible refine And.intro ?_ ?_) | (with_reducible intro _))); all_goals refine R.Lft.mk ?_)
  refine R.WO_call1 rfl rfl R.vv ?_
  refine (put0 _).mono ?_
  rintro _ w2 ⟨A1, c1, rfl, hG⟩
  have hM := R.Own.give R.ohm hG
  refine ⟨_, rfl, ?_⟩
  (refine R.step ?_; (repeat' (first | (with_reducible refine And.intro ?_ ?_) | (with_reducible intro _))); all_goals refine R.Lft.mk ?_)
  refine R.WO_call1 rfl rfl R.vv ?_
  rename_i hM
  have hcap : (3 : Nat) ≤ _ := row_cap hM (.head _)
  refine (read_any _ 3 _ [129, 1, 7] _ (R.Own.inp hM (.head _)) rfl (by omega) hcap (by intro x hx; simp at hx; omega)).mono ?_
  rintro _ w3 ⟨rfl, hb⟩
  have hM := hM.call hb
  refine ⟨_, rfl, ?_⟩
  rw [aw_read]
  (refine R.step ?_; (repeat' (first | (with_reducible refine And.intro ?_ ?_) | (with_reducible intro _))); all_goals refine R.Lft.mk ?_; (all_goals (try (exact ⟨rfl, R.Own.below (by assumption)⟩))))
instance con_awake46 : R.ConB Try.prog 22 #[] Unit (fun _ _ => True) (fun _ => .bool true) := ⟨fun _ w _ => awake46 w⟩
end Go.Proofs.Ytegbidklcaccjaa
