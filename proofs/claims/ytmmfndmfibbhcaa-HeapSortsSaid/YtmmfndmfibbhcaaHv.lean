/- The walk of the law HeapSorts over what it is handed. -/
import Derived.Test.YtmmfndmfibbhcaaHz
import Derived.Test.YtmmfndmfibbhcaaOpnB
namespace Go.Proofs.Ytmmfndmfibbhcaa
open Go.ChangeShapes Go.WideShapes Go.ChangeAt Go.RowKit
open R (In64 InU64 lo64 nth)
set_option maxRecDepth 100000 in
theorem walk_HeapSorts {H : Type} {enc : TypeId × Value → H} (W : World) (base : Nat) (args : Array Value) (ds : List (DataW H)) (ps : List MemPlace) (hA : DataW.TrodAll enc Try.prog W 0 (fun _ => true) true [22] args.toList ds ps)
    (hval : ∀ (j : Nat) t v, #[22][j]? = some t → args[j]? = some v → Value.okWide Try.prog W .any base t v) :
    Calls Try.prog 6 args W fun e W' => e = .returned (.bool true) ∧ Below W.heap.size W W' := by
  obtain ⟨v0, d0, rfl, rfl, h0⟩ := trodAll_one hA
  obtain ⟨z0, q0, g0, a0, b0⟩ := R.open_arg (hval 0 22 v0 rfl rfl) h0
  obtain rfl := b0 (by kernel_rfl) _ rfl
  exact heapSorts_any z0.A z0.n z0.c z0.L W g0.1 g0.2.1 fun x hx => ⟨bounds_i64 (g0.2.2.2 x hx).1, bounds_i64 (g0.2.2.2 x hx).2⟩
end Go.Proofs.Ytmmfndmfibbhcaa
