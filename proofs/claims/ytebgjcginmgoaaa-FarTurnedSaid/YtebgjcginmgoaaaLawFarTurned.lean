/- The law FarTurned, out of its walk: for every input it returns true, and each argument reads behind the call as it read before. No condition. -/
import Derived.Test.YtebgjcginmgoaaaFrame
import Derived.Test.YtebgjcginmgoaaaFt
namespace Go.Proofs.Ytebgjcginmgoaaa
open Go.ChangeShapes Go.WideShapes Go.ChangeAt Go.RowKit
open R (In64) in
set_option maxHeartbeats 4000000 in
theorem farTurned_any (s : Sgm) (p : Pt) (q : Int) (w : World) (hq : 0 ≤ q ∧ q ≤ 255) : Calls Try.prog 3 #[.agg (cSgm s).toArray, .agg (cPt p).toArray, .int .u8 q] w fun e w' => e = .returned (.bool true) ∧ Below w.heap.size w w' := by
  have hM := R.Own.start [] w
  cases hl : lineP s with
  | false =>
    have i1 : R.ConB Try.prog 5 #[.agg (cSgm s).toArray] Unit (fun _ _ => True) (fun _ => .bool false) := ⟨fun s' w' _ => by
      have q := (con_line7 s).h s' w' trivial
      rw [hl] at q
      exact q⟩
    refine R.calls_of_WC (fn := Try.f3) Try.func3 rfl Try.ntmps3 (Nat.le_of_ble_eq_true rfl) ?_
    (refine R.stepU ?_; (repeat' (first | (with_reducible refine And.intro ?_ ?_) | (with_reducible intro _))); all_goals refine R.Lft.mk ?_)
    all_goals exact ⟨rfl, R.Own.below (by assumption)⟩
  | true =>
    cases hp : ptB p with
    | false =>
      have i1 : R.ConB Try.prog 5 #[.agg (cSgm s).toArray] Unit (fun _ _ => True) (fun _ => .bool true) := ⟨fun s' w' _ => by
        have q := (con_line7 s).h s' w' trivial
        rw [hl] at q
        exact q⟩
      have i2 : R.ConB Try.prog 6 #[.agg (cPt p).toArray] Unit (fun _ _ => True) (fun _ => .bool false) := ⟨fun s' w' _ => by
        have q := (con_may7 p).h s' w' trivial
        rw [hp] at q
        exact q⟩
      refine R.calls_of_WC (fn := Try.f3) Try.func3 rfl Try.ntmps3 (Nat.le_of_ble_eq_true rfl) ?_
      (refine R.stepU ?_; (repeat' (first | (with_reducible refine And.intro ?_ ?_) | (with_reducible intro _))); all_goals refine R.Lft.mk ?_)
      all_goals exact ⟨rfl, R.Own.below (by assumption)⟩
    | true =>
      unfold lineP at hl
      rw [Bool.and_eq_true, Bool.and_eq_true] at hl
      obtain ⟨h1, h2, h3⟩ := hl
      have h3 : s.a ≠ s.b := by simpa using h3
      exact farTurned_t s p q w (ptB_of h1) (ptB_of h2) h3 (ptB_of hp) hq
set_option maxRecDepth 100000 in
theorem walk_FarTurned {H : Type} {enc : TypeId × Value → H} (W : World) (base : Nat) (args : Array Value) (ds : List (DataW H)) (ps : List MemPlace) (hA : DataW.TrodAll enc Try.prog W 0 (fun _ => true) true [25, 23, 5] args.toList ds ps)
    (hval : ∀ (j : Nat) t v, #[25, 23, 5][j]? = some t → args[j]? = some v → Value.okWide Try.prog W .any base t v) :
    Calls Try.prog 3 args W fun e W' => e = .returned (.bool true) ∧ Below W.heap.size W W' := by
  obtain ⟨v0, v1, v2, d0, d1, d2, p0, p1, p2, rfl, rfl, rfl, h0, h1, h2⟩ := trodAll_three hA
  obtain ⟨z0, q0, g0, a0, b0⟩ := R.open_arg (hval 0 25 v0 rfl rfl) h0
  obtain ⟨z1, q1, g1, a1, b1⟩ := R.open_arg (hval 1 23 v1 rfl rfl) h1
  obtain ⟨z2, rfl, rfl, rfl, wb⟩ := open_int (k := .u8) (by kernel_rfl) (hval 2 5 v2 rfl rfl) h2
  obtain rfl := a0 (by kernel_rfl)
  obtain rfl := a1 (by kernel_rfl)
  exact farTurned_any z0 z1 z2 W (bounds_u8 wb)
set_option maxRecDepth 100000 in
theorem farTurned_lifted (os : Os) (started : os.Started) (H : Type) (enc : TypeId × Value → H) :
    ReturnsInHanded {} Try.checked os 3 .any (Rows.farTurnedSpec.pre6 enc Try.prog Try.f3 Rows.farTurnedRow.domain false) (Rows.farTurnedSpec.post enc Try.prog Try.f3 false true false false) := by
  refine returnsInHanded_of_change (C := Try.checked) ownKnob_none started (by kernel_rfl) Try.func3
    (ChangeSpec.witness6 (enc := enc) (C := Try.checked) false ⟨#[], #[.agg #[.int .i64 0, .int .i64 0, .int .i64 0, .int .i64 0], .agg #[.int .i64 0, .int .i64 0], .int .u8 0], []⟩ 8 (by kernel_rfl) (by kernel_rfl) (by kernel_rfl) (by kernel_rfl)) ?_
  intro W base args ds gs before hval0 hW _ _
  have hval : ∀ (j : Nat) t v, Try.f3.params[j]? = some t → args[j]? = some v → Value.okWide Try.prog W .any base t v := hval0
  have hW' := hW
  obtain ⟨p, q, hA0, hV, rfl, hfz, hnd⟩ := hW
  have hA : DataW.TrodAll enc Try.prog W 0 (fun _ => true) true Try.f3.params.toList args.toList ds p := hA0
  obtain ⟨rfl, rfl⟩ := trodVars_none hV
  have hA1 := hA
  rw [Try.params3] at hA1 hval
  simp only [List.append_nil] at hW'
  refine (walk_FarTurned W base args ds p hA1 hval).mono fun e W' ⟨he, hb⟩ => ?_
  subst he
  refine ⟨_, rfl, law_post rfl laidOut hW' hA (by kernel_rfl) rfl (by kernel_rfl) ?_ hb⟩
  clear hb hW' hA hfz hnd hV hval hval0 hA0
  obtain ⟨v0, vs0, d0, ds0, p0, q0, e0, rfl, g0, h0, r0⟩ := trodAll_cons hA1
  obtain ⟨v1, vs1, d1, ds1, p1, q1, e1, rfl, g1, h1, r1⟩ := trodAll_cons r0
  obtain ⟨v2, vs2, d2, ds2, p2, q2, e2, rfl, g2, h2, r2⟩ := trodAll_cons r1
  obtain ⟨_, rfl, _⟩ := trodAll_nil r2
  rfl

theorem farTurned_holds : Rows.FarTurnedSaid :=
  OpenClaim.holds_of_wide 3 Try.f3 rfl rfl rfl rfl rfl rfl rfl ⟨rfl, rfl, rfl, rfl, rfl⟩ rfl rfl rfl rfl rfl (by kernel_rfl) Try.func3 (by kernel_rfl)
    (of_decide_eq_true (by kernel_rfl)) (by unfold Func.isWrapper; first | (rw [if_pos (by decide +kernel)]; kernel_rfl) | (rw [if_neg (by decide +kernel)]; exact ⟨rfl, rfl⟩))
    (fun os started H enc _ => farTurned_lifted os started H enc)
#print axioms farTurned_holds
end Go.Proofs.Ytebgjcginmgoaaa
