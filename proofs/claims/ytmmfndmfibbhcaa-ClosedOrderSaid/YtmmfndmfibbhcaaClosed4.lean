/- The walk of the law ClosedWays over what it is handed. -/
import Derived.Test.YtmmfndmfibbhcaaClosed3
namespace Go.Proofs.Ytmmfndmfibbhcaa
open Go.ChangeShapes Go.WideShapes Go.ChangeAt Go.RowKit
open R (In64 InU64 lo64 nth)
theorem wf_le {n : Int} (h : (Lit.int .i64 n).wf = true) : In64 n := by
  have h1 := bounds_i64 h
  unfold In64; omega
set_option maxRecDepth 100000 in
theorem walk_ClosedWays {H : Type} {enc : TypeId × Value → H} (W : World) (base : Nat) (args : Array Value) (ds : List (DataW H)) (ps : List MemPlace) (hA : DataW.TrodAll enc Try.prog W 0 (fun _ => true) true [74, 3, 74] args.toList ds ps)
    (hval : ∀ (j : Nat) t v, #[74, 3, 74][j]? = some t → args[j]? = some v → Value.okWide Try.prog W .any base t v) :
    Calls Try.prog 11 args W fun e W' => e = .returned (.bool true) ∧ Below W.heap.size W W' := by
  obtain ⟨v0, v1, v2, d0, d1, d2, p0, p1, p2, rfl, rfl, rfl, h0, h1, h2⟩ := trodAll_three hA
  obtain ⟨z0, q0, g0, a0, b0⟩ := R.open_arg (hval 0 74 v0 rfl rfl) h0
  obtain ⟨z1, q1, g1, a1, b1⟩ := R.open_arg (hval 1 3 v1 rfl rfl) h1
  obtain ⟨z2, q2, g2, a2, b2⟩ := R.open_arg (hval 2 74 v2 rfl rfl) h2
  obtain rfl := b0 (by kernel_rfl) _ rfl
  obtain rfl := b1 (by kernel_rfl) _ rfl
  obtain rfl := b2 (by kernel_rfl) _ rfl
  exact closedWays_any z0.A z2.A z0.n z0.c z2.n z2.c z0.L z2.L z1 W g0.1 g0.2.1 g2.1 g2.2.1 (fun x hx => (wf_le (g2.2.2.2 x hx)).2) (wf_le g1)
end Go.Proofs.Ytmmfndmfibbhcaa
