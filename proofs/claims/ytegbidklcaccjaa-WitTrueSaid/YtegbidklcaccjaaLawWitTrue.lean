/- The law of chapter 22: the walk. The law WitTrue, out of its walk: for every input it returns true, and each argument reads behind the call as it read before. No condition. -/
import Derived.Test.YtegbidklcaccjaaVa
import Derived.Test.YtegbidklcaccjaaVb
import Derived.Test.YtegbidklcaccjaaVc
import Derived.Test.YtegbidklcaccjaaFrame
namespace Go.Proofs.Ytegbidklcaccjaa
open Go.ChangeShapes Go.WideShapes Go.ChangeAt Go.RowKit
open R (In64 InU64 lo64 nth)
theorem witTrue_any (g : Gph) (x : Wt) (w : World) (hG : GGph w g) (hx : GWt w x) : Calls Try.prog 7 #[.agg (cGph g).toArray, .agg (cWt x).toArray] w fun e w' => e = .returned (.bool true) ∧ Below w.heap.size w w' := by
  by_cases h1 : x.past < 0
  · exact witTrue_a g x w hG hx h1
  by_cases h2 : (g.st.n : Int) - 1 ≤ x.past
  · exact witTrue_b g x w hG hx h2
  · exact witTrue_c g x w hG hx ⟨by omega, by omega⟩
set_option maxRecDepth 100000 in
theorem walk_WitTrue {H : Type} {enc : TypeId × Value → H} (W : World) (base : Nat) (args : Array Value) (ds : List (DataW H)) (ps : List MemPlace) (hA : DataW.TrodAll enc Try.prog W 0 (fun _ => true) true [24, 67] args.toList ds ps)
    (hval : ∀ (j : Nat) t v, #[24, 67][j]? = some t → args[j]? = some v → Value.okWide Try.prog W .any base t v) :
    Calls Try.prog 7 args W fun e W' => e = .returned (.bool true) ∧ Below W.heap.size W W' := by
  obtain ⟨v0, v1, d0, d1, p0, p1, rfl, rfl, rfl, h0, h1⟩ := trodAll_two hA
  obtain ⟨z0, q0, g0, a0, b0⟩ := R.open_arg (hval 0 24 v0 rfl rfl) h0
  obtain ⟨z1, q1, g1, a1, b1⟩ := R.open_arg (hval 1 67 v1 rfl rfl) h1
  obtain rfl := a0 (by kernel_rfl)
  obtain rfl := a1 (by kernel_rfl)
  exact witTrue_any z0 z1 W g0 g1
end Go.Proofs.Ytegbidklcaccjaa
namespace Go.Proofs.Ytegbidklcaccjaa
open Go.ChangeShapes Go.WideShapes Go.ChangeAt Go.RowKit
set_option maxRecDepth 100000 in
theorem witTrue_lifted (os : Os) (started : os.Started) (H : Type) (enc : TypeId × Value → H) :
    ReturnsInHanded {} Try.checked os 7 .any (Rows.witTrueSpec.pre6 enc Try.prog Try.f7 Rows.witTrueRow.domain false) (Rows.witTrueSpec.post enc Try.prog Try.f7 false true false false) := by
  refine returnsInHanded_of_change (C := Try.checked) ownKnob_none started (by kernel_rfl) Try.func7
    (ChangeSpec.witness6 (enc := enc) (C := Try.checked) false ⟨#[], #[.agg #[.slice none 0 0, .slice none 0 0, .slice none 0 0], .agg #[.int .i64 0, .int .i64 0, .int .i64 0, .int .i64 0, .int .i64 0]], []⟩ 8 (by kernel_rfl) (by kernel_rfl) (by kernel_rfl) (by kernel_rfl)) ?_
  intro W base args ds gs before hval0 hW _ _
  have hval : ∀ (j : Nat) t v, Try.f7.params[j]? = some t → args[j]? = some v → Value.okWide Try.prog W .any base t v := hval0
  have hW' := hW
  obtain ⟨p, q, hA0, hV, rfl, hfz, hnd⟩ := hW
  have hA : DataW.TrodAll enc Try.prog W 0 (fun _ => true) true Try.f7.params.toList args.toList ds p := hA0
  obtain ⟨rfl, rfl⟩ := trodVars_none hV
  have hA1 := hA
  rw [Try.params7] at hA1 hval
  simp only [List.append_nil] at hW'
  refine (walk_WitTrue W base args ds p hA1 hval).mono fun e W' ⟨he, hb⟩ => ?_
  subst he
  refine ⟨_, rfl, law_post rfl laidOut hW' hA (by kernel_rfl) rfl (by kernel_rfl) ?_ hb⟩
  clear hb hW' hA hfz hnd hV hval hval0 hA0
  obtain ⟨v0, vs0, d0, ds0, p0, q0, e0, rfl, g0, h0, r0⟩ := trodAll_cons hA1
  obtain ⟨v1, vs1, d1, ds1, p1, q1, e1, rfl, g1, h1, r1⟩ := trodAll_cons r0
  obtain ⟨_, rfl, _⟩ := trodAll_nil r1
  rfl

theorem witTrue_holds : Rows.WitTrueSaid :=
  OpenClaim.holds_of_wide 7 Try.f7 rfl rfl rfl rfl rfl rfl rfl ⟨rfl, rfl, rfl, rfl, rfl⟩ rfl rfl rfl rfl rfl (by kernel_rfl) Try.func7 (by kernel_rfl)
    (of_decide_eq_true (by kernel_rfl)) (by unfold Func.isWrapper; first | (rw [if_pos (by decide +kernel)]; kernel_rfl) | (rw [if_neg (by decide +kernel)]; exact ⟨rfl, rfl⟩))
    (fun os started H enc _ => witTrue_lifted os started H enc)
#print axioms witTrue_holds
end Go.Proofs.Ytegbidklcaccjaa
