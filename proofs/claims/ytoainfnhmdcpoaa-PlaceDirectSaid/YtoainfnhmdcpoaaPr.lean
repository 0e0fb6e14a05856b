/- The law PlaceCosts: the walk. -/
import Derived.Test.YtoainfnhmdcpoaaPq
namespace Go.Proofs.Ytoainfnhmdcpoaa
open Go.ChangeShapes Go.WideShapes Go.ChangeAt Go.RowKit
open R (In64 InU64 lo64 nth)
/-- The first ones of what it costs to leave a place. -/
def wantL (x : Nt) (q : Plc) (i : Nat) : List Item := (if 0 < i ∧ (nth x.e.L q.e.toNat).f = true then [⟨(nth x.e.L q.e.toNat).w - q.o, 2 * q.e⟩] else []) ++ (if 1 < i ∧ (nth x.e.L q.e.toNat).k = true then [⟨q.o, 2 * q.e + 1⟩] else [])
theorem want_all {x : Nt} {q : Plc} (h : mayP x q = true) : wantL x q 2 = leaveL x q := by
  unfold wantL leaveL
  rw [if_pos h]
  unfold bothL edAt
  cases (nth x.e.L q.e.toNat).f <;> cases (nth x.e.L q.e.toNat).k <;> simp
theorem reach_at {x : Nt} {q : Plc} (h : mayP x q = true) : (reachL x q).length = (leaveL x q).length ∧ ∀ k, k < (leaveL x q).length → nth (reachL x q) k = ⟨(nth x.e.L q.e.toNat).w - (nth (leaveL x q) k).key, (nth (leaveL x q) k).at_⟩ := by
  unfold reachL leaveL
  rw [if_pos h, if_pos h]
  show (bothL (nth x.e.L q.e.toNat) q.e q.o ((nth x.e.L q.e.toNat).w - q.o)).length = (bothL (nth x.e.L q.e.toNat) q.e ((nth x.e.L q.e.toNat).w - q.o) q.o).length ∧ ∀ k, k < (bothL (nth x.e.L q.e.toNat) q.e ((nth x.e.L q.e.toNat).w - q.o) q.o).length → nth (bothL (nth x.e.L q.e.toNat) q.e q.o ((nth x.e.L q.e.toNat).w - q.o)) k = ⟨(nth x.e.L q.e.toNat).w - (nth (bothL (nth x.e.L q.e.toNat) q.e ((nth x.e.L q.e.toNat).w - q.o) q.o) k).key, (nth (bothL (nth x.e.L q.e.toNat) q.e ((nth x.e.L q.e.toNat).w - q.o) q.o) k).at_⟩
  have e1 : ∀ a b : Int, b - (b - a) = a := fun a b => by omega
  unfold bothL
  refine ⟨both_len _ _ _ _ _ _, ?_⟩
  cases (nth x.e.L q.e.toNat).f <;> cases (nth x.e.L q.e.toNat).k
  · intro k hk
    exact absurd hk (Nat.not_lt_zero _)
  · intro k hk
    have hk : k < 1 := hk
    obtain rfl : k = 0 := by omega
    rfl
  · intro k hk
    have hk : k < 1 := hk
    obtain rfl : k = 0 := by omega
    show (⟨q.o, 2 * q.e⟩ : Item) = ⟨(nth x.e.L q.e.toNat).w - ((nth x.e.L q.e.toNat).w - q.o), 2 * q.e⟩
    rw [e1]
  · intro k hk
    have hk : k < 2 := hk
    rcases (show k = 0 ∨ k = 1 by omega) with rfl | rfl
    · show (⟨q.o, 2 * q.e⟩ : Item) = ⟨(nth x.e.L q.e.toNat).w - ((nth x.e.L q.e.toNat).w - q.o), 2 * q.e⟩
      rw [e1]
    · rfl
theorem leave_key {x : Nt} {q : Plc} (h : mayP x q = true) : ∀ k, k < (leaveL x q).length → 0 ≤ (nth (leaveL x q) k).key ∧ (nth (leaveL x q) k).key ≤ (nth x.e.L q.e.toNat).w := by
  obtain ⟨hb, p1, p2, p3, p4⟩ := mayP_t h
  have e : leaveL x q = bothL (nth x.e.L q.e.toNat) q.e ((nth x.e.L q.e.toNat).w - q.o) q.o := by unfold leaveL; rw [if_pos h]; rfl
  have hin : ∀ y ∈ leaveL x q, 0 ≤ y.key ∧ y.key ≤ (nth x.e.L q.e.toNat).w := fun y hy => by
    rw [e] at hy
    unfold bothL at hy
    rcases List.mem_append.1 hy with c | c
    · split at c
      · rw [List.mem_singleton.1 c]; dsimp only; omega
      · cases c
    · split at c
      · rw [List.mem_singleton.1 c]; dsimp only; omega
      · cases c
  exact fun k hk => hin _ (R.nth_mem hk)
theorem bq_t {b : Bool} {p : Prop} (h : (!(b == b)) = true) : p := by cases b <;> cases h
theorem want_len (x : Nt) (q : Plc) (i : Nat) : (wantL x q i).length ≤ 2 := by
  unfold wantL
  rw [List.length_append]
  have a : ∀ (c : Prop) [Decidable c] (y : Item), (if c then [y] else []).length ≤ 1 := fun c _ y => by split <;> simp
  have := a (0 < i ∧ (nth x.e.L q.e.toNat).f = true) ⟨(nth x.e.L q.e.toNat).w - q.o, 2 * q.e⟩
  have := a (1 < i ∧ (nth x.e.L q.e.toNat).k = true) ⟨q.o, 2 * q.e + 1⟩
  omega
theorem want_next {x : Nt} {q : Plc} (hp : placeP x q) {i : Nat} (hi : i < 2) : wantL x q (i + 1) = wantL x q i ++ (if 0 ≤ leaveV x q (2 * q.e + ((i : Nat) : Int)) then [⟨leaveV x q (2 * q.e + ((i : Nat) : Int)), 2 * q.e + ((i : Nat) : Int)⟩] else []) := by
  have lf := leave_f hp
  have lk := leave_k hp
  obtain ⟨p1, p2, p3, p4⟩ := hp
  rcases (show i = 0 ∨ i = 1 by omega) with rfl | rfl
  · rw [show 2 * q.e + ((0 : Nat) : Int) = 2 * q.e by omega, lf]
    unfold wantL
    cases (nth x.e.L q.e.toNat).f
    · simp
    · simp [p4]
  · rw [show 2 * q.e + ((1 : Nat) : Int) = 2 * q.e + 1 by omega, lk]
    unfold wantL
    cases (nth x.e.L q.e.toNat).k
    · simp
    · simp [p3]
set_option maxHeartbeats 4000000 in
theorem placeCosts_any (x : Nt) (q : Plc) (w : World) (hG : GNt w x) : Calls Try.prog 7 #[.agg (cNt x).toArray, .agg (cPlc q).toArray] w fun e w' => e = .returned (.bool true) ∧ Below w.heap.size w w' := by
  have hM := R.Own.start [] w
  have hL := hG.lasts
  obtain ⟨_, ⟨h1, h2, h3, _⟩, _⟩ := id hG
  cases hm : mayP x q with
  | false =>
    have e1 : leaveL x q = [] := by unfold leaveL; rw [hm]; rfl
    have e2 : reachL x q = [] := by unfold reachL; rw [hm]; rfl
    have e3 : otherP x q = ⟨0, 0⟩ := by unfold otherP; rw [hm]; rfl
    have l1 : (leaveL x q).length = 0 := by rw [e1]; rfl
    have l2 : (reachL x q).length = 0 := by rw [e2]; rfl
    refine R.calls_of_WC (fn := Try.f7) Try.func7 rfl Try.ntmps7 (Nat.le_of_ble_eq_true rfl) ?_
    (refine R.stepU ?_; (repeat' (first | (with_reducible refine And.intro ?_ ?_) | (with_reducible intro _))); all_goals refine R.Lft.mk ?_)
    · exact ⟨rfl, R.Own.below (by assumption)⟩
    refine R.WC_planO [(0, false), (1, false), (3, false), (4, false), (2, true), (5, true), (6, false), (7, false)] R.mixed (by decide +kernel) R.ohm ?_
    (refine R.stepU ?_; (repeat' (first | (with_reducible refine And.intro ?_ ?_) | (with_reducible intro _))); all_goals refine R.Lft.mk ?_)
    refine R.WC_planO [(0, false), (1, false), (3, false), (4, false), (2, true), (5, true), (6, false)] R.mixed (by decide +kernel) R.ohm ?_
    (refine R.stepU ?_; (repeat' (first | (with_reducible refine And.intro ?_ ?_) | (with_reducible intro _))); all_goals refine R.Lft.mk ?_)
    all_goals first
      | exact ⟨rfl, R.Own.below (by assumption)⟩
      | exact bq_t (by assumption)
      | exact absurd e3 (by assumption)
      | exact nbw_f hm (by assumption)
  | true =>
    obtain ⟨hb, hp⟩ := mayP_t hm
    obtain ⟨w1, w2, u3⟩ := place_w hb hp
    have hp0 := hp.1
    obtain ⟨r1, r2⟩ := reach_at hm
    have hl2 := want_len x q 2
    rw [want_all hm] at hl2
    obtain ⟨p1, p2, p3, p4⟩ := id hp
    have ho : otherP x q = ⟨q.e, (nth x.e.L q.e.toNat).w - q.o⟩ := by unfold otherP; rw [if_pos hm]; rfl
    refine R.calls_of_WC (fn := Try.f7) Try.func7 rfl Try.ntmps7 (Nat.le_of_ble_eq_true rfl) ?_
    (refine R.stepU ?_; (repeat' (first | (with_reducible refine And.intro ?_ ?_) | (with_reducible intro _))); all_goals refine R.Lft.mk ?_)
    · exact ⟨rfl, R.Own.below (by assumption)⟩
    refine R.WC_planO [(0, false), (1, false), (3, false), (4, false), (2, true), (5, true), (6, false), (7, false)] R.mixed (by decide +kernel) R.ohm ?_
    (refine R.stepU ?_; (repeat' (first | (with_reducible refine And.intro ?_ ?_) | (with_reducible intro _))); all_goals refine R.Lft.mk ?_)
    refine R.WC_planO [(0, false), (1, false), (3, false), (4, false), (2, true), (5, true), (6, false)] R.mixed (by decide +kernel) R.ohm ?_
    (refine R.stepU ?_; (repeat' (first | (with_reducible refine And.intro ?_ ?_) | (with_reducible intro _))); all_goals refine R.Lft.mk ?_)
    all_goals first
      | exact bq_t (by assumption)
      | exact nbw_t hm (by assumption)
      | skip
    rename_i gn _ _ gq _ _ _ _ _ _ _ Aa ca _ _ Ab cb _ _ _ _ gy _ _ _ _ _ _ _ _ _ _ _ _ _ _ Aw cw _ hM
    have z0 : wantL x q 0 = [] := by simp [wantL]
    refine R.WC_loop (fun i : Nat × Option Addr × Nat => [(2, .pointer (some ⟨gn, 0, none⟩)), (3, .pointer (some ⟨gq, 0, none⟩)), (4, .bool false), (5, .slice Aa (leaveL x q).length ca), (6, .slice Ab (reachL x q).length cb), (7, .pointer (some ⟨gy, 0, none⟩)), (8, .bool (mayP x q)), (9, .slice i.2.1 (wantL x q i.1).length i.2.2), (10, .int .i64 (2 * q.e + ((i.1 : Nat) : Int)))])
      (fun i w2 => i.1 ≤ 2 ∧ R.Own [] w w2 [.row i.2.1 (wantL x q i.1).length i.2.2 63 2 ((wantL x q i.1).flatMap cItem), .blk gy 46 (cPlc (otherP x q)), .row Ab (reachL x q).length cb 63 2 ((reachL x q).flatMap cItem), .row Aa (leaveL x q).length ca 63 2 ((leaveL x q).flatMap cItem), .blk gq 46 (cPlc q), .blk gn 44 (cNt x)]) (fun i => 2 - i.1)
      ⟨(0, Aw, cw), ⟨rfl, rfl, rfl, rfl, rfl, rfl, rfl, R.viaS rfl (by dsimp only; rw [z0]; rfl), R.viaI rfl (by dsimp only; omega), trivial⟩, by dsimp only; omega, by dsimp only; rw [z0]; exact hM⟩ ?_
    clear hM
    rintro ⟨i, Aw, cw⟩ f w4 ⟨hi, hM⟩
    dsimp only at hi hM ⊢
    rcases (show i < 2 ∨ i = 2 by omega) with hlt | rfl
    · have hnx := want_next hp hlt
      have hlw : (wantL x q i).length ≤ 2 := want_len x q i
      by_cases hd : 0 ≤ leaveV x q (2 * q.e + ((i : Nat) : Int))
      · rw [if_pos hd] at hnx
        (refine R.stepU ?_; (repeat' (first | (with_reducible refine And.intro ?_ ?_) | (with_reducible intro _))); all_goals refine R.Lft.mk ?_)
        rename_i A2 c2 _ hM
        have el : (wantL x q i).length + 1 = (wantL x q (i + 1)).length := by rw [hnx]; simp
        rw [← hnx, el] at hM
        exact ⟨(i + 1, A2, c2), ⟨rfl, rfl, rfl, rfl, rfl, rfl, rfl, R.viaS rfl el, R.viaI rfl (by dsimp only; omega), trivial⟩, ⟨by dsimp only; omega, R.ohm⟩, by dsimp only; omega⟩
      · rw [if_neg hd, List.append_nil] at hnx
        (refine R.stepU ?_; (repeat' (first | (with_reducible refine And.intro ?_ ?_) | (with_reducible intro _))); all_goals refine R.Lft.mk ?_)
        exact ⟨(i + 1, Aw, cw), ⟨rfl, rfl, rfl, rfl, rfl, rfl, rfl, R.viaS rfl (by rw [hnx]), R.viaI rfl (by dsimp only; omega), trivial⟩, ⟨by dsimp only; omega, by dsimp only; rw [hnx]; exact R.ohm⟩, by dsimp only; omega⟩
    · rw [want_all hm] at hM ⊢
      (refine R.stepU ?_; (repeat' (first | (with_reducible refine And.intro ?_ ?_) | (with_reducible intro _))); all_goals refine R.Lft.mk ?_)
      all_goals first
        | (exfalso; omega)
        | skip
      refine R.WC_loop (fun k : Nat => [(2, .pointer (some ⟨gn, 0, none⟩)), (3, .pointer (some ⟨gq, 0, none⟩)), (4, .bool false), (5, .slice Aa (leaveL x q).length ca), (6, .slice Ab (reachL x q).length cb), (7, .pointer (some ⟨gy, 0, none⟩)), (8, .bool (mayP x q)), (9, .slice Aw (leaveL x q).length cw), (11, .int .i64 (k : Nat))])
        (fun k w2 => k ≤ (leaveL x q).length ∧ R.Own [] w w2 [.row Aw (leaveL x q).length cw 63 2 ((leaveL x q).flatMap cItem), .blk gy 46 (cPlc (otherP x q)), .row Ab (reachL x q).length cb 63 2 ((reachL x q).flatMap cItem), .row Aa (leaveL x q).length ca 63 2 ((leaveL x q).flatMap cItem), .blk gq 46 (cPlc q), .blk gn 44 (cNt x)]) (fun k => (leaveL x q).length - k)
        ⟨0, ⟨rfl, rfl, rfl, rfl, rfl, rfl, rfl, rfl, rfl, trivial⟩, Nat.zero_le _, R.ohm⟩ ?_
      clear hM
      rintro k f w5 ⟨hk, hM⟩
      by_cases hkl : k < (leaveL x q).length
      · have hr2 := r2 k hkl
        obtain ⟨k1, k2⟩ := leave_key hm k hkl
        (refine R.stepU ?_; (repeat' (first | (with_reducible refine And.intro ?_ ?_) | (with_reducible intro _))); all_goals refine R.Lft.mk ?_)
        all_goals first
          | exact absurd rfl (by assumption)
          | exact absurd hr2 (by assumption)
          | exact ⟨k + 1, ⟨rfl, rfl, rfl, rfl, rfl, rfl, rfl, rfl, R.viaI rfl (by omega), trivial⟩, ⟨by omega, R.ohm⟩, by omega⟩
      · (refine R.stepU ?_; (repeat' (first | (with_reducible refine And.intro ?_ ?_) | (with_reducible intro _))); all_goals refine R.Lft.mk ?_)
        all_goals first
          | exact ⟨rfl, R.Own.below (by assumption)⟩
          | exact absurd ho (by assumption)
          | exact bbw_t hm (by assumption)
set_option maxRecDepth 100000 in
theorem walk_PlaceOthers {H : Type} {enc : TypeId × Value → H} (W : World) (base : Nat) (args : Array Value) (ds : List (DataW H)) (ps : List MemPlace) (hA : DataW.TrodAll enc Try.prog W 0 (fun _ => true) true [44, 46] args.toList ds ps)
    (hval : ∀ (j : Nat) t v, #[44, 46][j]? = some t → args[j]? = some v → Value.okWide Try.prog W .any base t v) :
    Calls Try.prog 6 args W fun e W' => e = .returned (.bool true) ∧ Below W.heap.size W W' := by
  obtain ⟨v0, v1, d0, d1, p0, p1, rfl, rfl, rfl, h0, h1⟩ := trodAll_two hA
  obtain ⟨z0, q0, g0, a0, b0⟩ := R.open_arg (hval 0 44 v0 rfl rfl) h0
  obtain ⟨z1, q1, g1, a1, b1⟩ := R.open_arg (hval 1 46 v1 rfl rfl) h1
  obtain rfl := a0 (by kernel_rfl)
  obtain rfl := a1 (by kernel_rfl)
  exact placeOthers_any z0 z1 W g0
set_option maxRecDepth 100000 in
theorem walk_PlaceCosts {H : Type} {enc : TypeId × Value → H} (W : World) (base : Nat) (args : Array Value) (ds : List (DataW H)) (ps : List MemPlace) (hA : DataW.TrodAll enc Try.prog W 0 (fun _ => true) true [44, 46] args.toList ds ps)
    (hval : ∀ (j : Nat) t v, #[44, 46][j]? = some t → args[j]? = some v → Value.okWide Try.prog W .any base t v) :
    Calls Try.prog 7 args W fun e W' => e = .returned (.bool true) ∧ Below W.heap.size W W' := by
  obtain ⟨v0, v1, d0, d1, p0, p1, rfl, rfl, rfl, h0, h1⟩ := trodAll_two hA
  obtain ⟨z0, q0, g0, a0, b0⟩ := R.open_arg (hval 0 44 v0 rfl rfl) h0
  obtain ⟨z1, q1, g1, a1, b1⟩ := R.open_arg (hval 1 46 v1 rfl rfl) h1
  obtain rfl := a0 (by kernel_rfl)
  obtain rfl := a1 (by kernel_rfl)
  exact placeCosts_any z0 z1 W g0
set_option maxRecDepth 100000 in
theorem walk_PlaceDirect {H : Type} {enc : TypeId × Value → H} (W : World) (base : Nat) (args : Array Value) (ds : List (DataW H)) (ps : List MemPlace) (hA : DataW.TrodAll enc Try.prog W 0 (fun _ => true) true [44, 46, 46] args.toList ds ps)
    (hval : ∀ (j : Nat) t v, #[44, 46, 46][j]? = some t → args[j]? = some v → Value.okWide Try.prog W .any base t v) :
    Calls Try.prog 5 args W fun e W' => e = .returned (.bool true) ∧ Below W.heap.size W W' := by
  obtain ⟨v0, v1, v2, d0, d1, d2, p0, p1, p2, rfl, rfl, rfl, h0, h1, h2⟩ := trodAll_three hA
  obtain ⟨z0, q0, g0, a0, b0⟩ := R.open_arg (hval 0 44 v0 rfl rfl) h0
  obtain ⟨z1, q1, g1, a1, b1⟩ := R.open_arg (hval 1 46 v1 rfl rfl) h1
  obtain ⟨z2, q2, g2, a2, b2⟩ := R.open_arg (hval 2 46 v2 rfl rfl) h2
  obtain rfl := a0 (by kernel_rfl)
  obtain rfl := a1 (by kernel_rfl)
  obtain rfl := a2 (by kernel_rfl)
  exact placeDirect_any z0 z1 z2 W g0
end Go.Proofs.Ytoainfnhmdcpoaa
