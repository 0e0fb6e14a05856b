/- The law HeapSorts: the walk. -/
import Derived.Test.YtmmfndmfibbhcaaHw
namespace Go.Proofs.Ytmmfndmfibbhcaa
open Go.RowKit
open R (In64 InU64 lo64 nth)
/-! ### nobody's heap -/
section
variable {F : List Nat} {W0 w : World} {l : List R.Res} {g : Nat}
theorem lenN (hM : R.Own F W0 w l) : Calls Try.prog 34 #[.pointer none] w fun e w' => e = .returned (.int .i64 0) ∧ R.Own F W0 w' l := by
  refine R.calls_of_WC (fn := Try.f34) Try.func34 rfl Try.ntmps34 (Nat.le_of_ble_eq_true rfl) ?_
  (refine R.stepH ?_; (repeat' (first | (with_reducible refine And.intro ?_ ?_) | (with_reducible intro _))); all_goals refine R.Lft.mk ?_)
  exact ⟨rfl, R.ohm⟩
theorem keyN {a : Int} (hM : R.Own F W0 w l) : Calls Try.prog 35 #[.pointer none, .int .i64 a] w fun e w' => e = .returned (.tuple #[.int .i64 0, .bool false]) ∧ R.Own F W0 w' l := by
  refine R.calls_of_WC (fn := Try.f35) Try.func35 rfl Try.ntmps35 (Nat.le_of_ble_eq_true rfl) ?_
  (refine R.stepH ?_; (repeat' (first | (with_reducible refine And.intro ?_ ?_) | (with_reducible intro _))); all_goals refine R.Lft.mk ?_)
  exact ⟨rfl, R.ohm⟩
theorem setN {x : Item} (hM : R.Own F W0 w l) : Calls Try.prog 30 #[.pointer none, .agg (cItem x).toArray] w fun e w' => e = .returned (.bool false) ∧ R.Own F W0 w' l := by
  refine R.calls_of_WC (fn := Try.f30) Try.func30 rfl Try.ntmps30 (Nat.le_of_ble_eq_true rfl) ?_
  (refine R.stepH ?_; (repeat' (first | (with_reducible refine And.intro ?_ ?_) | (with_reducible intro _))); all_goals refine R.Lft.mk ?_)
  exact ⟨rfl, R.Own.tl R.ohm⟩
theorem putN {x : Item} (hM : R.Own F W0 w l) : Calls Try.prog 29 #[.pointer none, .agg (cItem x).toArray] w fun e w' => e = .returned (.bool false) ∧ R.Own F W0 w' l := by
  refine R.calls_of_WC (fn := Try.f29) Try.func29 rfl Try.ntmps29 (Nat.le_of_ble_eq_true rfl) ?_
  (refine R.stepH ?_; (repeat' (first | (with_reducible refine And.intro ?_ ?_) | (with_reducible intro _))); all_goals refine R.Lft.mk ?_)
  refine R.WO_call2 rfl rfl R.vv R.vv ?_
  refine (keyN R.ohm).mono ?_
  rintro _ w2 ⟨rfl, hM⟩
  refine ⟨_, rfl, ?_⟩
  (refine R.stepH ?_; (repeat' (first | (with_reducible refine And.intro ?_ ?_) | (with_reducible intro _))); all_goals refine R.Lft.mk ?_)
  refine R.WO_call2 rfl rfl R.vv R.vv ?_
  refine (setN R.ohm).mono ?_
  rintro _ w3 ⟨rfl, hM⟩
  refine ⟨_, rfl, ?_⟩
  (refine R.stepH ?_; (repeat' (first | (with_reducible refine And.intro ?_ ?_) | (with_reducible intro _))); all_goals refine R.Lft.mk ?_)
  exact ⟨rfl, R.Own.tl R.ohm⟩
theorem leastN (hM : R.Own F W0 w l) : Calls Try.prog 33 #[.pointer none] w fun e w' => e = .returned (.tuple #[.agg (cItem ⟨0, 0⟩).toArray, .bool false]) ∧ R.Own F W0 w' l := by
  refine R.calls_of_WC (fn := Try.f33) Try.func33 rfl Try.ntmps33 (Nat.le_of_ble_eq_true rfl) ?_
  (refine R.stepH ?_; (repeat' (first | (with_reducible refine And.intro ?_ ?_) | (with_reducible intro _))); all_goals refine R.Lft.mk ?_)
  refine R.WO_call1 rfl rfl R.vv ?_
  refine (lenN R.ohm).mono ?_
  rintro _ w2 ⟨rfl, hM⟩
  refine ⟨_, rfl, ?_⟩
  (refine R.stepH ?_; (repeat' (first | (with_reducible refine And.intro ?_ ?_) | (with_reducible intro _))); all_goals refine R.Lft.mk ?_)
  exact ⟨rfl, R.Own.tl R.ohm⟩
theorem popN (hM : R.Own F W0 w l) : Calls Try.prog 32 #[.pointer none] w fun e w' => e = .returned (.tuple #[.agg (cItem ⟨0, 0⟩).toArray, .bool false]) ∧ R.Own F W0 w' l := by
  refine R.calls_of_WC (fn := Try.f32) Try.func32 rfl Try.ntmps32 (Nat.le_of_ble_eq_true rfl) ?_
  (refine R.stepH ?_; (repeat' (first | (with_reducible refine And.intro ?_ ?_) | (with_reducible intro _))); all_goals refine R.Lft.mk ?_)
  refine R.WO_call1 rfl rfl R.vv ?_
  refine (leastN R.ohm).mono ?_
  rintro _ w2 ⟨rfl, hM⟩
  refine ⟨_, rfl, ?_⟩
  (refine R.stepH ?_; (repeat' (first | (with_reducible refine And.intro ?_ ?_) | (with_reducible intro _))); all_goals refine R.Lft.mk ?_)
  exact ⟨rfl, R.Own.tl (R.Own.tl R.ohm)⟩
/-! ### a heap that nothing was laid in -/
theorem WO_lkNil {P : Program} {C : R.CallH} {o : Oper} {f : R.Fr} {K : Value → World → Prop} {t k e : TypeId} {x y : Operand} {a : Int} (hop : o.op = .lookup t x y true) [T : R.MapII P t k e] (hx : R.ev f x = .map none) (hy : R.ev f y = .int .i64 a) (ha : In64 a) (hk : K (.tuple #[.int .i64 0, .bool false]) w) : R.WO P C o f w K := by
  refine R.WO_val ?_ hk
  have := Maps.look_nil (P := P) (w := w) (t := t) true (Maps.int_keyed T.hk) T.h (T.hz w) (Maps.keyOf_int_mk T.hk (R.wf64 ha))
  simp [execOp, hop, hx, hy, this]
theorem len0 (hM : R.Own F W0 w (.blk g 59 [.slice none 0 0, .map none] :: l)) : Calls Try.prog 34 #[.pointer (some ⟨g, 0, none⟩)] w fun e w' => e = .returned (.int .i64 0) ∧ R.Own F W0 w' (.blk g 59 [.slice none 0 0, .map none] :: l) := by
  refine R.calls_of_WC (fn := Try.f34) Try.func34 rfl Try.ntmps34 (Nat.le_of_ble_eq_true rfl) ?_
  (refine R.stepH ?_; (repeat' (first | (with_reducible refine And.intro ?_ ?_) | (with_reducible intro _))); all_goals refine R.Lft.mk ?_)
  exact ⟨rfl, R.ohm⟩
theorem key0 {a : Int} (ha : In64 a) (hM : R.Own F W0 w (.blk g 59 [.slice none 0 0, .map none] :: l)) : Calls Try.prog 35 #[.pointer (some ⟨g, 0, none⟩), .int .i64 a] w fun e w' => e = .returned (.tuple #[.int .i64 0, .bool false]) ∧ R.Own F W0 w' (.blk g 59 [.slice none 0 0, .map none] :: l) := by
  refine R.calls_of_WC (fn := Try.f35) Try.func35 rfl Try.ntmps35 (Nat.le_of_ble_eq_true rfl) ?_
  (refine R.stepH ?_; (repeat' (first | (with_reducible refine And.intro ?_ ?_) | (with_reducible intro _))); all_goals refine R.Lft.mk ?_)
  refine WO_lkNil rfl rfl rfl ha ?_
  (refine R.stepH ?_; (repeat' (first | (with_reducible refine And.intro ?_ ?_) | (with_reducible intro _))); all_goals refine R.Lft.mk ?_)
  exact ⟨rfl, R.ohm⟩
theorem set0 {x : Item} (hM : R.Own F W0 w (.blk g 59 [.slice none 0 0, .map none] :: l)) : Calls Try.prog 30 #[.pointer (some ⟨g, 0, none⟩), .agg (cItem x).toArray] w fun e w' => e = .returned (.bool false) ∧ R.Own F W0 w' (.blk g 59 [.slice none 0 0, .map none] :: l) := by
  refine R.calls_of_WC (fn := Try.f30) Try.func30 rfl Try.ntmps30 (Nat.le_of_ble_eq_true rfl) ?_
  (refine R.stepH ?_; (repeat' (first | (with_reducible refine And.intro ?_ ?_) | (with_reducible intro _))); all_goals refine R.Lft.mk ?_)
  exact ⟨rfl, R.Own.tl R.ohm⟩
theorem put0H {x : Item} (hx : In64 x.at_) (hM : R.Own F W0 w (.blk g 59 [.slice none 0 0, .map none] :: l)) : Calls Try.prog 29 #[.pointer (some ⟨g, 0, none⟩), .agg (cItem x).toArray] w fun e w' => e = .returned (.bool false) ∧ R.Own F W0 w' (.blk g 59 [.slice none 0 0, .map none] :: l) := by
  refine R.calls_of_WC (fn := Try.f29) Try.func29 rfl Try.ntmps29 (Nat.le_of_ble_eq_true rfl) ?_
  (refine R.stepH ?_; (repeat' (first | (with_reducible refine And.intro ?_ ?_) | (with_reducible intro _))); all_goals refine R.Lft.mk ?_)
  rename_i gx _ hM
  refine R.WO_call2 rfl rfl R.vv R.vv ?_
  refine (key0 hx (R.Own.swap hM)).mono ?_
  rintro _ w2 ⟨rfl, hM⟩
  refine ⟨_, rfl, ?_⟩
  (refine R.stepH ?_; (repeat' (first | (with_reducible refine And.intro ?_ ?_) | (with_reducible intro _))); all_goals refine R.Lft.mk ?_)
  refine R.WO_call2 rfl rfl R.vv R.vv ?_
  refine (set0 R.ohm).mono ?_
  rintro _ w3 ⟨rfl, hM⟩
  refine ⟨_, rfl, ?_⟩
  (refine R.stepH ?_; (repeat' (first | (with_reducible refine And.intro ?_ ?_) | (with_reducible intro _))); all_goals refine R.Lft.mk ?_)
  exact ⟨rfl, R.dr (.blk gx _ _) R.ohm⟩
theorem least0 (hM : R.Own F W0 w (.blk g 59 [.slice none 0 0, .map none] :: l)) : Calls Try.prog 33 #[.pointer (some ⟨g, 0, none⟩)] w fun e w' => e = .returned (.tuple #[.agg (cItem ⟨0, 0⟩).toArray, .bool false]) ∧ R.Own F W0 w' (.blk g 59 [.slice none 0 0, .map none] :: l) := by
  refine R.calls_of_WC (fn := Try.f33) Try.func33 rfl Try.ntmps33 (Nat.le_of_ble_eq_true rfl) ?_
  (refine R.stepH ?_; (repeat' (first | (with_reducible refine And.intro ?_ ?_) | (with_reducible intro _))); all_goals refine R.Lft.mk ?_)
  rename_i gx _ hM
  refine R.WO_call1 rfl rfl R.vv ?_
  refine (len0 (R.Own.swap hM)).mono ?_
  rintro _ w2 ⟨rfl, hM⟩
  refine ⟨_, rfl, ?_⟩
  (refine R.stepH ?_; (repeat' (first | (with_reducible refine And.intro ?_ ?_) | (with_reducible intro _))); all_goals refine R.Lft.mk ?_)
  exact ⟨rfl, R.dr (.blk gx _ _) R.ohm⟩
theorem pop0 (hM : R.Own F W0 w (.blk g 59 [.slice none 0 0, .map none] :: l)) : Calls Try.prog 32 #[.pointer (some ⟨g, 0, none⟩)] w fun e w' => e = .returned (.tuple #[.agg (cItem ⟨0, 0⟩).toArray, .bool false]) ∧ R.Own F W0 w' (.blk g 59 [.slice none 0 0, .map none] :: l) := by
  refine R.calls_of_WC (fn := Try.f32) Try.func32 rfl Try.ntmps32 (Nat.le_of_ble_eq_true rfl) ?_
  (refine R.stepH ?_; (repeat' (first | (with_reducible refine And.intro ?_ ?_) | (with_reducible intro _))); all_goals refine R.Lft.mk ?_)
  rename_i gx _ hM
  refine R.WO_call1 rfl rfl R.vv ?_
  refine (least0 (R.Own.swap hM)).mono ?_
  rintro _ w2 ⟨rfl, hM⟩
  refine ⟨_, rfl, ?_⟩
  (refine R.stepH ?_; (repeat' (first | (with_reducible refine And.intro ?_ ?_) | (with_reducible intro _))); all_goals refine R.Lft.mk ?_)
  exact ⟨rfl, R.dr (.blk gx _ _) (R.Own.tl R.ohm)⟩
end
end Go.Proofs.Ytmmfndmfibbhcaa
