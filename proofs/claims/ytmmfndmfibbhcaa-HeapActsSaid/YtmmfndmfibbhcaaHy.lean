/- The walk of the law HeapActs over what it is handed. -/
import Derived.Test.YtmmfndmfibbhcaaHx
import Derived.Test.YtmmfndmfibbhcaaOpnB
namespace Go.Proofs.Ytmmfndmfibbhcaa
open Go.ChangeShapes Go.WideShapes Go.ChangeAt Go.RowKit
open R (In64 InU64 lo64 nth)
def GAct (W : World) (a : Act) : Prop := (Lit.int .i64 a.do_).wf = true ∧ GItem W a.x
instance opn_Act : R.Opn Try.prog 45 Act cAct GAct := R.opn_struct2 (o0 := 0) (t0 := 3) (n0 := 1) (o1 := 1) (t1 := 43) (n1 := 2) (e0 := R.cI) (e1 := cItem) (by kernel_rfl) (by kernel_rfl) rfl rfl (by kernel_rfl) Act.mk (fun _ _ => by simp [cAct, R.cI, cItem]) (fun _ _ _ h1 h2 => ⟨h1, h2⟩)
instance opn_Acts : R.Opn Try.prog 39 (R.Sl Act) R.cSl (R.GSl cAct 3 GAct) := R.opn_slice (e := 45) (by kernel_rfl) (by kernel_rfl)
set_option maxRecDepth 100000 in
theorem walk_HeapActs {H : Type} {enc : TypeId × Value → H} (W : World) (base : Nat) (args : Array Value) (ds : List (DataW H)) (ps : List MemPlace) (hA : DataW.TrodAll enc Try.prog W 0 (fun _ => true) true [39] args.toList ds ps)
    (hval : ∀ (j : Nat) t v, #[39][j]? = some t → args[j]? = some v → Value.okWide Try.prog W .any base t v) :
    Calls Try.prog 5 args W fun e W' => e = .returned (.bool true) ∧ Below W.heap.size W W' := by
  obtain ⟨v0, d0, rfl, rfl, h0⟩ := trodAll_one hA
  obtain ⟨z0, q0, g0, a0, b0⟩ := R.open_arg (hval 0 39 v0 rfl rfl) h0
  obtain rfl := b0 (by kernel_rfl) _ rfl
  exact heapActs_any z0.A z0.n z0.c z0.L W g0.1 g0.2.1 fun a ha => ⟨bounds_i64 (g0.2.2.2 a ha).2.1, bounds_i64 (g0.2.2.2 a ha).2.2⟩
end Go.Proofs.Ytmmfndmfibbhcaa
