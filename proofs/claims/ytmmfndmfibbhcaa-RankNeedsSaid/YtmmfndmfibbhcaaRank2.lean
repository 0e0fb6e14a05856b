/- Package rank: priorities, limits; the laws' own example; the law RankCounts. -/
import Derived.Test.YtmmfndmfibbhcaaRank
import Derived.Test.YtmmfndmfibbhcaaFrame
namespace Go.Proofs.Ytmmfndmfibbhcaa
open Go.ChangeShapes Go.WideShapes Go.ChangeAt Go.RowKit
open R (In64 InU64 lo64 nth)

theorem needed_no (v : Int) (A B : Option Addr) (n m c d : Nat) (ins outs : List Item) (g : FuncId) (cap : List Value) (w : World)
    (hA : R.Inp [] w A n 2 (ins.flatMap cItem)) (hn : n = ins.length) (hB : R.Inp [] w B m 2 (outs.flatMap cItem)) (hm : m = outs.length) (h : (mayI ins && mayI outs) = false) :
    Calls Try.prog 18 #[.int .i64 v, .slice A n c, .slice B m d, .func (.func g) #[] cap.toArray] w fun e w' => e = .returned (.slice none 0 0) ∧ Below w.heap.size w w' := by
  have hM := R.Own.start [] w
  refine R.calls_of_WC (fn := Try.f18) Try.func18 rfl Try.ntmps18 (Nat.le_of_ble_eq_true rfl) ?_
  (refine R.step ?_; (repeat' (first | (with_reducible refine And.intro ?_ ?_) | (with_reducible intro _))); all_goals refine R.Lft.mk ?_)
  refine R.WO_call1 rfl rfl (by first | exact R.eI rfl | exact R.eB rfl | exact R.eS rfl | exact R.eA rfl | exact R.eP rfl | exact R.eStr rfl | exact R.eT rfl | exact R.eM rfl | exact R.eF rfl | exact R.eF0 rfl | exact R.eP0 rfl | exact R.eQ rfl) ?_
  refine (rmay_any A n c ins w hA hn).mono ?_
  rintro e w1 ⟨rfl, hb1⟩
  have hM := hM.call hb1
  refine ⟨_, rfl, ?_⟩
  cases h1 : mayI ins
  · (refine R.step ?_; (repeat' (first | (with_reducible refine And.intro ?_ ?_) | (with_reducible intro _))); all_goals refine R.Lft.mk ?_)
    exact ⟨rfl, hM.below⟩
  · rw [h1] at h
    (refine R.step ?_; (repeat' (first | (with_reducible refine And.intro ?_ ?_) | (with_reducible intro _))); all_goals refine R.Lft.mk ?_)
    refine R.WO_call1 rfl rfl (by first | exact R.eI rfl | exact R.eB rfl | exact R.eS rfl | exact R.eA rfl | exact R.eP rfl | exact R.eStr rfl | exact R.eT rfl | exact R.eM rfl | exact R.eF rfl | exact R.eF0 rfl | exact R.eP0 rfl | exact R.eQ rfl) ?_
    refine (rmay_any B m d outs w1 (hB.ext hb1) hm).mono ?_
    rintro e w2 ⟨rfl, hb2⟩
    have hM := hM.call hb2
    refine ⟨_, rfl, ?_⟩
    rw [show mayI outs = false by simpa using h]
    (refine R.step ?_; (repeat' (first | (with_reducible refine And.intro ?_ ?_) | (with_reducible intro _))); all_goals refine R.Lft.mk ?_)
    exact ⟨rfl, hM.below⟩
theorem needed_nil (v : Int) (A B : Option Addr) (n m c d : Nat) (w : World) :
    Calls Try.prog 18 #[.int .i64 v, .slice A n c, .slice B m d, .nilFunc] w fun e w' => e = .returned (.slice none 0 0) ∧ w = w' := by
  refine R.calls_of_WC (fn := Try.f18) Try.func18 rfl Try.ntmps18 (Nat.le_of_ble_eq_true rfl) ?_
  (refine R.step ?_; (repeat' (first | (with_reducible refine And.intro ?_ ?_) | (with_reducible intro _))); all_goals refine R.Lft.mk ?_)
  exact ⟨rfl, rfl⟩
theorem limits_low (n : Int) (h : In64 n) (h1 : n ≤ 50) (w : World) : Calls Try.prog 24 #[.int .i64 n] w fun e w' => e = .returned (.tuple #[.int .i64 (max n 0 + 1), .int .i64 (max n 0 + 1)]) ∧ w = w' := by
  unfold In64 at h
  refine R.calls_of_WC (fn := Try.f24) Try.func24 rfl Try.ntmps24 (Nat.le_of_ble_eq_true rfl) ?_
  (refine R.step ?_; (repeat' (first | (with_reducible refine And.intro ?_ ?_) | (with_reducible intro _))); all_goals refine R.Lft.mk ?_)
  exact ⟨rfl, rfl⟩
theorem limits_high (n : Int) (h1 : ¬ n ≤ 50) (w : World) : Calls Try.prog 24 #[.int .i64 n] w fun e w' => e = .returned (.tuple #[.int .i64 5, .int .i64 50]) ∧ w = w' := by
  refine R.calls_of_WC (fn := Try.f24) Try.func24 rfl Try.ntmps24 (Nat.le_of_ble_eq_true rfl) ?_
  (refine R.step ?_; (repeat' (first | (with_reducible refine And.intro ?_ ?_) | (with_reducible intro _))); all_goals refine R.Lft.mk ?_)
  exact ⟨rfl, rfl⟩
def inM (x : Int) : Prop := 0 ≤ x ∧ x ≤ 1000000
instance (x : Int) : Decidable (inM x) := by unfold inM; infer_instance
def prio (a b c : Int) : Int := if inM a ∧ inM b ∧ inM c then 2 * a - b + c else 0
theorem priority_any (a b c : Int) (_ha : In64 a) (_hb : In64 b) (_hc : In64 c) (w : World) : Calls Try.prog 25 #[.int .i64 a, .int .i64 b, .int .i64 c] w fun e w' => e = .returned (.int .i64 (prio a b c)) ∧ Below w.heap.size w w' := by
  have hM := R.Own.start [] w
  refine R.calls_of_WC (fn := Try.f25) Try.func25 rfl Try.ntmps25 (Nat.le_of_ble_eq_true rfl) ?_
  (refine R.step ?_; (repeat' (first | (with_reducible refine And.intro ?_ ?_) | (with_reducible intro _))); all_goals refine R.Lft.mk ?_)
  rename_i A1 c1 w1 hM1
  refine R.WC_loop (fun k : Nat => [(0, .int .i64 a), (1, .int .i64 b), (2, .int .i64 c), (6, .int .i64 0), (12, .slice A1 3 c1), (13, .int .i64 (3 : Nat)), (14, .int .i64 (k : Nat))])
    (fun k w2 => k ≤ 3 ∧ R.Own [] w w2 [.row A1 3 c1 3 1 ([a, b, c].flatMap R.cI)] ∧ ∀ x ∈ [a, b, c].take k, inM x) (fun k => 3 - k) ⟨0, ⟨rfl, rfl, rfl, rfl, rfl, rfl, rfl, trivial⟩, by omega, hM1, by simp⟩ ?_
  rintro k f w2 ⟨hk, hM, hall⟩
  by_cases hlt : k < 3
  · have hle : k < [a, b, c].length := by simp; omega
    have hno : ¬ inM (nth [a, b, c] k) → prio a b c = 0 := fun hn => by
      unfold prio
      rw [if_neg]
      rintro ⟨h1, h2, h3⟩
      have := R.nth_mem hle
      simp at this
      rcases this with h | h | h <;> rw [h] at hn <;> exact hn (by assumption)
    (refine R.step ?_; (repeat' (first | (with_reducible refine And.intro ?_ ?_) | (with_reducible intro _))); all_goals refine R.Lft.mk ?_)
    · rename_i h
      rw [hno (by unfold inM; omega)]
      exact ⟨rfl, hM.below⟩
    · rename_i h
      rw [hno (by unfold inM; omega)]
      exact ⟨rfl, hM.below⟩
    · rename_i h1 h2
      exact ⟨k + 1, ⟨rfl, rfl, rfl, rfl, rfl, rfl, R.viaI rfl (by omega), trivial⟩, ⟨by omega, hM, all_snoc hle hall (by unfold inM; omega)⟩, by omega⟩
  · obtain rfl : k = 3 := by omega
    have h1 := hall a (by simp)
    have h2 := hall b (by simp)
    have h3 := hall c (by simp)
    have hp : prio a b c = 2 * a - b + c := by unfold prio; rw [if_pos ⟨h1, h2, h3⟩]
    unfold inM at h1 h2 h3
    (refine R.step ?_; (repeat' (first | (with_reducible refine And.intro ?_ ?_) | (with_reducible intro _))); all_goals refine R.Lft.mk ?_)
    rw [hp]
    exact ⟨rfl, hM.below⟩
theorem awake23_1 (a b c : Int) (w : World) : Calls Try.prog 75 #[.int .i64 a, .int .i64 b, .int .i64 c] w fun e w' => e = .returned (.bool false) ∧ w = w' := by
  refine R.calls_of_WC (fn := Try.f75) Try.func75 rfl Try.ntmps75 (Nat.le_of_ble_eq_true rfl) ?_
  (refine R.step ?_; (repeat' (first | (with_reducible refine And.intro ?_ ?_) | (with_reducible intro _))); all_goals refine R.Lft.mk ?_)
  exact ⟨rfl, rfl⟩
theorem awake23 (w : World) : Calls Try.prog 17 #[] w fun e w' => e = .returned (.bool true) ∧ Below w.heap.size w w' := by
  have hM := R.Own.start [] w
  refine R.calls_of_WC (fn := Try.f17) Try.func17 rfl Try.ntmps17 (Nat.le_of_ble_eq_true rfl) ?_
  (refine R.step ?_; (repeat' (first | (with_reducible refine And.intro ?_ ?_) | (with_reducible intro _))); all_goals refine R.Lft.mk ?_)
  rename_i A1 c1 w1 hM1 A2 c2 w2 hM2
  refine R.WO_call4 rfl rfl (by first | exact R.eI rfl | exact R.eB rfl | exact R.eS rfl | exact R.eA rfl | exact R.eP rfl | exact R.eStr rfl | exact R.eT rfl | exact R.eM rfl | exact R.eF rfl | exact R.eF0 rfl | exact R.eP0 rfl | exact R.eQ rfl) (by first | exact R.eI rfl | exact R.eB rfl | exact R.eS rfl | exact R.eA rfl | exact R.eP rfl | exact R.eStr rfl | exact R.eT rfl | exact R.eM rfl | exact R.eF rfl | exact R.eF0 rfl | exact R.eP0 rfl | exact R.eQ rfl) (by first | exact R.eI rfl | exact R.eB rfl | exact R.eS rfl | exact R.eA rfl | exact R.eP rfl | exact R.eStr rfl | exact R.eT rfl | exact R.eM rfl | exact R.eF rfl | exact R.eF0 rfl | exact R.eP0 rfl | exact R.eQ rfl) (by first | exact R.eI rfl | exact R.eB rfl | exact R.eS rfl | exact R.eA rfl | exact R.eP rfl | exact R.eStr rfl | exact R.eT rfl | exact R.eM rfl | exact R.eF rfl | exact R.eF0 rfl | exact R.eP0 rfl | exact R.eQ rfl) ?_
  refine (needed_yes 3 A1 A2 1 1 c1 c2 [⟨2, 1⟩] [⟨5, 2⟩] 75 [] (fun _ _ => false) (fun _ lc => lc = []) [] w2 (hM2.inp (.tail _ (.head _))) rfl (hM2.inp (.head _)) rfl (by decide) (by decide)
    (fun pre x suf lc w3 _ hlc _ => (awake23_1 _ _ _ w3).mono fun e w4 ⟨he, hw⟩ => ⟨he, [], rfl, by subst hw hlc; exact R.Own.start _ _⟩) rfl ⟨by simp, by simp [R.keysOf]⟩).mono ?_
  rintro e w3 ⟨A3, c3, l3, rfl, rfl, hO⟩
  have hM3 : R.Own [] w w3 [_, _, _] := R.Own.callF (l := [_, _]) (lc := []) hM2 hO
  have hM3 := hM3.perm (List.Perm.symm (List.perm_append_comm (l₁ := [_, _]) (l₂ := [_])))
  have hk : keepFrom (fun _ _ => false) [] (pairsOf 3 [⟨2, 1⟩] [⟨5, 2⟩]) = [⟨1, 2, 7, 3⟩] := by decide
  have hl : (keepFrom (fun _ _ => false) [] (pairsOf 3 [⟨2, 1⟩] [⟨5, 2⟩])).length = 1 := by decide
  rw [hl, hk] at hM3
  refine ⟨_, rfl, ?_⟩
  rw [hl]
  (refine R.step ?_; (repeat' (first | (with_reducible refine And.intro ?_ ?_) | (with_reducible intro _))); all_goals refine R.Lft.mk ?_)
  refine R.WO_call1 rfl rfl (by first | exact R.eI rfl | exact R.eB rfl | exact R.eS rfl | exact R.eA rfl | exact R.eP rfl | exact R.eStr rfl | exact R.eT rfl | exact R.eM rfl | exact R.eF rfl | exact R.eF0 rfl | exact R.eP0 rfl | exact R.eQ rfl) ?_
  refine (limits_high 100 (by omega) _).mono ?_
  rintro e w' ⟨rfl, rfl⟩
  refine ⟨_, rfl, ?_⟩
  (refine R.step ?_; (repeat' (first | (with_reducible refine And.intro ?_ ?_) | (with_reducible intro _))); all_goals refine R.Lft.mk ?_)
  · rename_i hx
    refine R.WO_call3 rfl rfl (by first | exact R.eI rfl | exact R.eB rfl | exact R.eS rfl | exact R.eA rfl | exact R.eP rfl | exact R.eStr rfl | exact R.eT rfl | exact R.eM rfl | exact R.eF rfl | exact R.eF0 rfl | exact R.eP0 rfl | exact R.eQ rfl) (by first | exact R.eI rfl | exact R.eB rfl | exact R.eS rfl | exact R.eA rfl | exact R.eP rfl | exact R.eStr rfl | exact R.eT rfl | exact R.eM rfl | exact R.eF rfl | exact R.eF0 rfl | exact R.eP0 rfl | exact R.eQ rfl) (by first | exact R.eI rfl | exact R.eB rfl | exact R.eS rfl | exact R.eA rfl | exact R.eP rfl | exact R.eStr rfl | exact R.eT rfl | exact R.eM rfl | exact R.eF rfl | exact R.eF0 rfl | exact R.eP0 rfl | exact R.eQ rfl) ?_
    refine (priority_any 3 2 1 (by unfold In64; omega) (by unfold In64; omega) (by unfold In64; omega) _).mono ?_
    rintro e w5 ⟨rfl, hb5⟩
    have hM5 := hM3.call hb5
    refine ⟨_, rfl, ?_⟩
    rw [show prio 3 2 1 = 5 by decide]
    (refine R.step ?_; (repeat' (first | (with_reducible refine And.intro ?_ ?_) | (with_reducible intro _))); all_goals refine R.Lft.mk ?_)
    exact ⟨rfl, hM5.below⟩
theorem rankCounts_any (a b c : Int) (ha : In64 a) (hb : In64 b) (hc : In64 c) (w : World) : Calls Try.prog 4 #[.int .i64 a, .int .i64 b, .int .i64 c] w fun e w' => e = .returned (.bool true) ∧ Below w.heap.size w w' := by
  have hM := R.Own.start [] w
  have hp := fun w => priority_any a b c ha hb hc w
  have hpr : (inM a ∧ inM b ∧ inM c ∧ prio a b c = a + a - b + c) ∨ (¬ (inM a ∧ inM b ∧ inM c) ∧ prio a b c = 0) := by
    unfold prio
    split
    · rename_i h
      exact .inl ⟨h.1, h.2.1, h.2.2, by omega⟩
    · rename_i h
      exact .inr ⟨h, rfl⟩
  unfold inM at hpr
  generalize prio a b c = pr at *
  unfold In64 at ha hb hc
  by_cases h50 : c ≤ 50
  all_goals
   refine R.calls_of_WC (fn := Try.f4) Try.func4 rfl Try.ntmps4 (Nat.le_of_ble_eq_true rfl) ?_
   (refine R.step ?_; (repeat' (first | (with_reducible refine And.intro ?_ ?_) | (with_reducible intro _))); all_goals refine R.Lft.mk ?_)
   all_goals (refine R.WO_call1 rfl rfl (by first | exact R.eI rfl | exact R.eB rfl | exact R.eS rfl | exact R.eA rfl | exact R.eP rfl | exact R.eStr rfl | exact R.eT rfl | exact R.eM rfl | exact R.eF rfl | exact R.eF0 rfl | exact R.eP0 rfl | exact R.eQ rfl) ?_; first | refine (limits_low c hc h50 _).mono ?_ | refine (limits_high c h50 _).mono ?_)
   all_goals (rintro e w' ⟨rfl, rfl⟩; refine ⟨_, rfl, ?_⟩)
   all_goals (refine R.step ?_; (repeat' (first | (with_reducible refine And.intro ?_ ?_) | (with_reducible intro _))); all_goals refine R.Lft.mk ?_)
   all_goals (refine R.WO_call3 rfl rfl (by first | exact R.eI rfl | exact R.eB rfl | exact R.eS rfl | exact R.eA rfl | exact R.eP rfl | exact R.eStr rfl | exact R.eT rfl | exact R.eM rfl | exact R.eF rfl | exact R.eF0 rfl | exact R.eP0 rfl | exact R.eQ rfl) (by first | exact R.eI rfl | exact R.eB rfl | exact R.eS rfl | exact R.eA rfl | exact R.eP rfl | exact R.eStr rfl | exact R.eT rfl | exact R.eM rfl | exact R.eF rfl | exact R.eF0 rfl | exact R.eP0 rfl | exact R.eQ rfl) (by first | exact R.eI rfl | exact R.eB rfl | exact R.eS rfl | exact R.eA rfl | exact R.eP rfl | exact R.eStr rfl | exact R.eT rfl | exact R.eM rfl | exact R.eF rfl | exact R.eF0 rfl | exact R.eP0 rfl | exact R.eQ rfl) ?_; refine (hp _).mono ?_; rintro e w1 ⟨rfl, hb1⟩; have hM := hM.call hb1; refine ⟨_, rfl, ?_⟩)
   all_goals (refine R.step ?_; (repeat' (first | (with_reducible refine And.intro ?_ ?_) | (with_reducible intro _))); all_goals refine R.Lft.mk ?_)
   all_goals (refine R.WO_call0 rfl rfl  ?_; refine (awake23 _).mono ?_; rintro e w2 ⟨rfl, hb2⟩; have hM := hM.call hb2; refine ⟨_, rfl, ?_⟩)
   all_goals (refine R.step ?_; (repeat' (first | (with_reducible refine And.intro ?_ ?_) | (with_reducible intro _))); all_goals refine R.Lft.mk ?_)
   all_goals exact ⟨rfl, hM.below⟩

set_option maxRecDepth 100000 in
theorem walk_RankCounts {H : Type} {enc : TypeId × Value → H} (W : World) (base : Nat) (args : Array Value) (ds : List (DataW H)) (ps : List MemPlace) (hA : DataW.TrodAll enc Try.prog W 0 (fun _ => true) true [3, 3, 3] args.toList ds ps)
    (hval : ∀ (j : Nat) t v, #[3, 3, 3][j]? = some t → args[j]? = some v → Value.okWide Try.prog W .any base t v) :
    Calls Try.prog 4 args W fun e W' => e = .returned (.bool true) ∧ Below W.heap.size W W' := by
  obtain ⟨v0, v1, v2, d0, d1, d2, p0, p1, p2, rfl, rfl, rfl, h0, h1, h2⟩ := trodAll_three hA
  obtain ⟨a, rfl, rfl, rfl, wa⟩ := open_int Try.underlying3 (hval 0 _ v0 rfl rfl) h0
  obtain ⟨b, rfl, rfl, rfl, wb⟩ := open_int Try.underlying3 (hval 1 _ v1 rfl rfl) h1
  obtain ⟨c, rfl, rfl, rfl, wc⟩ := open_int Try.underlying3 (hval 2 _ v2 rfl rfl) h2
  have ba := bounds_i64 wa
  have bb := bounds_i64 wb
  have bc := bounds_i64 wc
  exact rankCounts_any a b c (by unfold In64; omega) (by unfold In64; omega) (by unfold In64; omega) W
end Go.Proofs.Ytmmfndmfibbhcaa
