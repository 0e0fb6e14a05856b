/- The law of reckoning, for its row. -/
import Derived.Test.YtalaffabcnccgaaWide5
import Derived.Test.YtalaffabcnccgaaOpen
namespace Go.Proofs.Ytalaffabcnccgaa
open Go.ChangeShapes Go.WideShapes Go.ChangeAt Go.RowKit
open R (In64 InU64 lo64)
set_option maxRecDepth 100000 in
theorem walk_WideLaws {H : Type} {enc : TypeId × Value → H} (W : World) (base : Nat) (args : Array Value) (ds : List (DataW H)) (ps : List MemPlace) (hA : DataW.TrodAll enc Try.prog W 0 (fun _ => true) true [43, 43, 43] args.toList ds ps)
    (hval : ∀ (j : Nat) t v, #[43, 43, 43][j]? = some t → args[j]? = some v → Value.okWide Try.prog W .any base t v) :
    Calls Try.prog 6 args W fun e W' => e = .returned (.bool true) ∧ Below W.heap.size W W' := by
  obtain ⟨v0, v1, v2, d0, d1, d2, p0, p1, p2, rfl, rfl, rfl, h0, h1, h2⟩ := trodAll_three hA
  obtain ⟨a, ha, rfl⟩ := open_wide (hval 0 _ v0 rfl rfl) h0
  obtain ⟨b, hb, rfl⟩ := open_wide (hval 1 _ v1 rfl rfl) h1
  obtain ⟨c, hc, rfl⟩ := open_wide (hval 2 _ v2 rfl rfl) h2
  exact wideLaws_any a b c ha hb hc W
end Go.Proofs.Ytalaffabcnccgaa
