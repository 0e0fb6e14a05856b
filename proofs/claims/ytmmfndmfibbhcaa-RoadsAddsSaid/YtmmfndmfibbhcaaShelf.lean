/- The shelf's contracts of slices.Insert and slices.Delete at numbers, laid at this seat's numbers. -/
import Derived.Shelf.Spec.SlicesInsertGrow
import Derived.Shelf.Slices.Delete
import Derived.Test.YtmmfndmfibbhcaaProg
namespace Go.Proofs.Ytmmfndmfibbhcaa
open Go.Shelf
def ren_ins : Go.Shelf.Ren := ⟨fun | 21 => 88 | 27 => 117 | 28 => 118 | 35 => 132 | 39 => 134 | 23 => 92 | n => n, fun | 0 => 0 | 3 => 3 | 4 => 4 | 22 => 74 | n => n, fun | n => n⟩
theorem lay_ins : Go.Proofs.Lays2.n21 Try.prog ren_ins := {
  mixed := by kernel_rfl
  f21 := Try.func88.trans (congrArg some (by kernel_rfl))
  f27 := Try.func117.trans (congrArg some (by kernel_rfl))
  f28 := Try.func118.trans (congrArg some (by kernel_rfl))
  f35 := Try.func132.trans (congrArg some (by kernel_rfl))
  f39 := Try.func134.trans (congrArg some (by kernel_rfl))
  t0 := Try.underlying0
  a0 := Try.isAgg0
  z0 := Try.sizeOf0
  v0 := Try.zeroValue0
  t3 := Try.underlying3
  a3 := Try.isAgg3
  z3 := Try.sizeOf3
  v3 := Try.zeroValue3
  t4 := Try.underlying4
  a4 := Try.isAgg4
  z4 := Try.sizeOf4
  v4 := Try.zeroValue4
  t22 := Try.underlying74
  a22 := Try.isAgg74
  z22 := Try.sizeOf74
  v22 := Try.zeroValue74
  i3 := by kernel_rfl }
theorem lay_del : Go.Proofs.Lays2.n23 Try.prog ren_ins := {
  mixed := by kernel_rfl
  f23 := Try.func92.trans (congrArg some (by kernel_rfl))
  t0 := Try.underlying0
  a0 := Try.isAgg0
  z0 := Try.sizeOf0
  v0 := Try.zeroValue0
  t3 := Try.underlying3
  a3 := Try.isAgg3
  z3 := Try.sizeOf3
  v3 := Try.zeroValue3
  t4 := Try.underlying4
  a4 := Try.isAgg4
  z4 := Try.sizeOf4
  v4 := Try.zeroValue4
  t22 := Try.underlying74
  a22 := Try.isAgg74
  z22 := Try.sizeOf74
  v22 := Try.zeroValue74
  i3 := by kernel_rfl }
end Go.Proofs.Ytmmfndmfibbhcaa
