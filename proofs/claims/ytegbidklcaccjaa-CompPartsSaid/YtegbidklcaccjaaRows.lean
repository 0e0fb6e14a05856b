/-
  No cell of these rows narrows 'for every input' (looked for: loops, veiled, ifaces, maps, wideKeys, modest, calm, conditions, laid).
  DERIVED. THE GIVEN ROWS OF THIS SEAT. 8 by the template 'for every input the law returns true; each argument reads behind the call as it read before'; 0 by the template 'total and deterministic' (their statements: YtegbidklcaccjaaTotals.lean).
  GIVEN WITH THE SEED: the statements are not yours to turn. If you find one false, say at which input.
  Laid BY PROGRAM, IN A SANDBOX (cutbox-rows.mjs): the forced cells as the released guide's own fill.sh prints them over the translation 5a8c75f5009cf92b… (all of the seat's roots in one cut). By AI agents, Wed Nov 11 2026. No macro, syntax, notation, axiom, sorry.
-/
import Derived.Test.YtegbidklcaccjaaChecked
import GoSem.Claim
import GoSem.ClaimJoined
import GoSem.ClaimMapViews
import Derived.JoinedTies
import Derived.KernelRfl
namespace Go.Proofs.Ytegbidklcaccjaa
/- THE CELL 'sum', in the pinned program and in every row, IS THE sha256 OF THE DUMP (.gsa) THAT YtegbidklcaccjaaProg.lean LOADS. Nothing in Lean hashes anything: it is a label: what it is worth is what the hold of that sum in a sandbox is worth. -/
noncomputable def Try.pinned : Pinned := { name := "ytegbidklcaccjaa", sum := "5a8c75f5009cf92b17eed76e647659c2ad23939c00418caf063abca2ef4c9d17", checked := Try.checked }
namespace Rows
def none {H : Type} : Left H := { results := [], args := [] }

/-- 'snicketlaw43.CompParts': WHATEVER THE INPUT: true; the input reads as it did. -/
def compPartsSpec : ChangeSpec := { name := "compParts", fn := fun _ => fun
  | [d1, d2] => { results := [.lit (.bool true)], args := [d1, d2] }
  | _ => none }
def compPartsRow : OpenClaim := { program := "ytegbidklcaccjaa", sum := "5a8c75f5009cf92b17eed76e647659c2ad23939c00418caf063abca2ef4c9d17", func := "snicket/snicketlaw43.CompParts", spec := "compParts", apart := false }
def CompPartsSaid : Prop := compPartsRow.holds Try.pinned (OpenSpec.ofChange compPartsSpec)

/-- ITS FALSE NEIGHBOUR: 'it returns false'. Refute it at one input. -/
def compPartsWrong : ChangeSpec := { name := "compParts", fn := fun _ => fun
  | [d1, d2] => { results := [.lit (.bool false)], args := [d1, d2] }
  | _ => none }
def CompPartsWrongFalsely : Prop := compPartsRow.holds Try.pinned (OpenSpec.ofChange compPartsWrong)

/-- 'snicketlaw46.SavePuts': WHATEVER THE INPUT: true; the input reads as it did. -/
def savePutsSpec : ChangeSpec := { name := "savePuts", fn := fun _ => fun
  | [d] => { results := [.lit (.bool true)], args := [d] }
  | _ => none }
def savePutsRow : OpenClaim := { program := "ytegbidklcaccjaa", sum := "5a8c75f5009cf92b17eed76e647659c2ad23939c00418caf063abca2ef4c9d17", func := "snicket/snicketlaw46.SavePuts", spec := "savePuts", unfollowed := true, recurses := true, apart := false }
def SavePutsSaid : Prop := savePutsRow.holds Try.pinned (OpenSpec.ofChange savePutsSpec)

/-- ITS FALSE NEIGHBOUR: 'it returns false'. Refute it at one input. -/
def savePutsWrong : ChangeSpec := { name := "savePuts", fn := fun _ => fun
  | [d] => { results := [.lit (.bool false)], args := [d] }
  | _ => none }
def SavePutsWrongFalsely : Prop := savePutsRow.holds Try.pinned (OpenSpec.ofChange savePutsWrong)

/-- 'snicketlaw46.SaveGets': WHATEVER THE INPUT: true; the input reads as it did. -/
def saveGetsSpec : ChangeSpec := { name := "saveGets", fn := fun _ => fun
  | [d] => { results := [.lit (.bool true)], args := [d] }
  | _ => none }
def saveGetsRow : OpenClaim := { program := "ytegbidklcaccjaa", sum := "5a8c75f5009cf92b17eed76e647659c2ad23939c00418caf063abca2ef4c9d17", func := "snicket/snicketlaw46.SaveGets", spec := "saveGets", unfollowed := true, recurses := true, apart := false }
def SaveGetsSaid : Prop := saveGetsRow.holds Try.pinned (OpenSpec.ofChange saveGetsSpec)

/-- ITS FALSE NEIGHBOUR: 'it returns false'. Refute it at one input. -/
def saveGetsWrong : ChangeSpec := { name := "saveGets", fn := fun _ => fun
  | [d] => { results := [.lit (.bool false)], args := [d] }
  | _ => none }
def SaveGetsWrongFalsely : Prop := saveGetsRow.holds Try.pinned (OpenSpec.ofChange saveGetsWrong)

/-- 'snicketlaw21.DijkPath': WHATEVER THE INPUT: true; the input reads as it did. -/
def dijkPathSpec : ChangeSpec := { name := "dijkPath", fn := fun _ => fun
  | [d1, d2, d3] => { results := [.lit (.bool true)], args := [d1, d2, d3] }
  | _ => none }
def dijkPathRow : OpenClaim := { program := "ytegbidklcaccjaa", sum := "5a8c75f5009cf92b17eed76e647659c2ad23939c00418caf063abca2ef4c9d17", func := "snicket/snicketlaw21.DijkPath", spec := "dijkPath", unfollowed := true, recurses := true, apart := false }
def DijkPathSaid : Prop := dijkPathRow.holds Try.pinned (OpenSpec.ofChange dijkPathSpec)

/-- ITS FALSE NEIGHBOUR: 'it returns false'. Refute it at one input. -/
def dijkPathWrong : ChangeSpec := { name := "dijkPath", fn := fun _ => fun
  | [d1, d2, d3] => { results := [.lit (.bool false)], args := [d1, d2, d3] }
  | _ => none }
def DijkPathWrongFalsely : Prop := dijkPathRow.holds Try.pinned (OpenSpec.ofChange dijkPathWrong)

/-- 'snicketlaw22.WitTrue': WHATEVER THE INPUT: true; the input reads as it did. -/
def witTrueSpec : ChangeSpec := { name := "witTrue", fn := fun _ => fun
  | [d1, d2] => { results := [.lit (.bool true)], args := [d1, d2] }
  | _ => none }
def witTrueRow : OpenClaim := { program := "ytegbidklcaccjaa", sum := "5a8c75f5009cf92b17eed76e647659c2ad23939c00418caf063abca2ef4c9d17", func := "snicket/snicketlaw22.WitTrue", spec := "witTrue", unfollowed := true, recurses := true, apart := false }
def WitTrueSaid : Prop := witTrueRow.holds Try.pinned (OpenSpec.ofChange witTrueSpec)

/-- ITS FALSE NEIGHBOUR: 'it returns false'. Refute it at one input. -/
def witTrueWrong : ChangeSpec := { name := "witTrue", fn := fun _ => fun
  | [d1, d2] => { results := [.lit (.bool false)], args := [d1, d2] }
  | _ => none }
def WitTrueWrongFalsely : Prop := witTrueRow.holds Try.pinned (OpenSpec.ofChange witTrueWrong)

/-- 'snicketlaw21.DijkClosed': WHATEVER THE INPUT: true; the input reads as it did. -/
def dijkClosedSpec : ChangeSpec := { name := "dijkClosed", fn := fun _ => fun
  | [d1, d2, d3] => { results := [.lit (.bool true)], args := [d1, d2, d3] }
  | _ => none }
def dijkClosedRow : OpenClaim := { program := "ytegbidklcaccjaa", sum := "5a8c75f5009cf92b17eed76e647659c2ad23939c00418caf063abca2ef4c9d17", func := "snicket/snicketlaw21.DijkClosed", spec := "dijkClosed", unfollowed := true, recurses := true, apart := false }
def DijkClosedSaid : Prop := dijkClosedRow.holds Try.pinned (OpenSpec.ofChange dijkClosedSpec)

/-- ITS FALSE NEIGHBOUR: 'it returns false'. Refute it at one input. -/
def dijkClosedWrong : ChangeSpec := { name := "dijkClosed", fn := fun _ => fun
  | [d1, d2, d3] => { results := [.lit (.bool false)], args := [d1, d2, d3] }
  | _ => none }
def DijkClosedWrongFalsely : Prop := dijkClosedRow.holds Try.pinned (OpenSpec.ofChange dijkClosedWrong)

/-- 'snicketlaw21.DijkAll': WHATEVER THE INPUT: true; the input reads as it did. -/
def dijkAllSpec : ChangeSpec := { name := "dijkAll", fn := fun _ => fun
  | [d1, d2, d3] => { results := [.lit (.bool true)], args := [d1, d2, d3] }
  | _ => none }
def dijkAllRow : OpenClaim := { program := "ytegbidklcaccjaa", sum := "5a8c75f5009cf92b17eed76e647659c2ad23939c00418caf063abca2ef4c9d17", func := "snicket/snicketlaw21.DijkAll", spec := "dijkAll", unfollowed := true, recurses := true, apart := false }
def DijkAllSaid : Prop := dijkAllRow.holds Try.pinned (OpenSpec.ofChange dijkAllSpec)

/-- ITS FALSE NEIGHBOUR: 'it returns false'. Refute it at one input. -/
def dijkAllWrong : ChangeSpec := { name := "dijkAll", fn := fun _ => fun
  | [d1, d2, d3] => { results := [.lit (.bool false)], args := [d1, d2, d3] }
  | _ => none }
def DijkAllWrongFalsely : Prop := dijkAllRow.holds Try.pinned (OpenSpec.ofChange dijkAllWrong)

/-- 'snicketlaw43.CompOrder': WHATEVER THE INPUT: true; the input reads as it did. -/
def compOrderSpec : ChangeSpec := { name := "compOrder", fn := fun _ => fun
  | [d] => { results := [.lit (.bool true)], args := [d] }
  | _ => none }
def compOrderRow : OpenClaim := { program := "ytegbidklcaccjaa", sum := "5a8c75f5009cf92b17eed76e647659c2ad23939c00418caf063abca2ef4c9d17", func := "snicket/snicketlaw43.CompOrder", spec := "compOrder", apart := false }
def CompOrderSaid : Prop := compOrderRow.holds Try.pinned (OpenSpec.ofChange compOrderSpec)

/-- ITS FALSE NEIGHBOUR: 'it returns false'. Refute it at one input. -/
def compOrderWrong : ChangeSpec := { name := "compOrder", fn := fun _ => fun
  | [d] => { results := [.lit (.bool false)], args := [d] }
  | _ => none }
def CompOrderWrongFalsely : Prop := compOrderRow.holds Try.pinned (OpenSpec.ofChange compOrderWrong)

/- THE SECOND FORM. 'bulk': how many values and letters a reading holds, each counted each time it is reached (what is shared counts as often as it is met; a slice's spare places count too). A statement '..UptoSaid' is the law's where the arguments, and the package variables that the reading takes, are together of bulk at most 1048576: NARROWER than '..Said'. Prove '..Said' where nothing that the law and all that it calls make is longer than what came in: it says more and counts as full. Else prove '..UptoSaid'. A law counts once. -/
mutual
def uptoBulk {H : Type} : DataW H → Nat
  | .lit (.string bytes) => bytes.length + 1
  | .lit _ => 1
  | .nil => 1
  | .ptr d => uptoBulk d + 1
  | .slice elems spare => uptoBulkAll elems + uptoBulkAll spare + 1
  | .agg parts => uptoBulkAll parts + 1
  | .iface _ d => uptoBulk d + 1
  | .map entries => uptoBulkEntries entries + 1
  | .held _ => 1
def uptoBulkAll {H : Type} : List (DataW H) → Nat
  | [] => 0
  | d :: r => uptoBulk d + uptoBulkAll r
def uptoBulkEntries {H : Type} : List (Lit × DataW H) → Nat
  | [] => 0
  | x :: r => uptoBulkEntry x + uptoBulkEntries r
def uptoBulkEntry {H : Type} : Lit × DataW H → Nat
  | (.string bytes, d) => bytes.length + uptoBulk d + 1
  | (_, d) => uptoBulk d + 1
 end
def uptoSmall : (H : Type) → List (DataW H) → Bool := fun _ ds => decide (uptoBulkAll ds ≤ 1048576)
def OpenSpec.upto (s : _root_.Go.ChangeSpec) : _root_.Go.OpenSpec := { _root_.Go.OpenSpec.ofChange s with cond := some uptoSmall }

/-- 'snicketlaw43.CompParts', WHERE WHAT IT READS IS OF BULK AT MOST 1048576: true; the input reads as it did. -/
def compPartsUptoRow : OpenClaim := { program := "ytegbidklcaccjaa", sum := "5a8c75f5009cf92b17eed76e647659c2ad23939c00418caf063abca2ef4c9d17", func := "snicket/snicketlaw43.CompParts", spec := "compParts", apart := false, narrowed := true }
def CompPartsUptoSaid : Prop := compPartsUptoRow.holds Try.pinned (OpenSpec.upto compPartsSpec)

/-- 'snicketlaw46.SavePuts', WHERE WHAT IT READS IS OF BULK AT MOST 1048576: true; the input reads as it did. -/
def savePutsUptoRow : OpenClaim := { program := "ytegbidklcaccjaa", sum := "5a8c75f5009cf92b17eed76e647659c2ad23939c00418caf063abca2ef4c9d17", func := "snicket/snicketlaw46.SavePuts", spec := "savePuts", unfollowed := true, recurses := true, apart := false, narrowed := true }
def SavePutsUptoSaid : Prop := savePutsUptoRow.holds Try.pinned (OpenSpec.upto savePutsSpec)

/-- 'snicketlaw46.SaveGets', WHERE WHAT IT READS IS OF BULK AT MOST 1048576: true; the input reads as it did. -/
def saveGetsUptoRow : OpenClaim := { program := "ytegbidklcaccjaa", sum := "5a8c75f5009cf92b17eed76e647659c2ad23939c00418caf063abca2ef4c9d17", func := "snicket/snicketlaw46.SaveGets", spec := "saveGets", unfollowed := true, recurses := true, apart := false, narrowed := true }
def SaveGetsUptoSaid : Prop := saveGetsUptoRow.holds Try.pinned (OpenSpec.upto saveGetsSpec)

/-- 'snicketlaw21.DijkPath', WHERE WHAT IT READS IS OF BULK AT MOST 1048576: true; the input reads as it did. -/
def dijkPathUptoRow : OpenClaim := { program := "ytegbidklcaccjaa", sum := "5a8c75f5009cf92b17eed76e647659c2ad23939c00418caf063abca2ef4c9d17", func := "snicket/snicketlaw21.DijkPath", spec := "dijkPath", unfollowed := true, recurses := true, apart := false, narrowed := true }
def DijkPathUptoSaid : Prop := dijkPathUptoRow.holds Try.pinned (OpenSpec.upto dijkPathSpec)

/-- 'snicketlaw22.WitTrue', WHERE WHAT IT READS IS OF BULK AT MOST 1048576: true; the input reads as it did. -/
def witTrueUptoRow : OpenClaim := { program := "ytegbidklcaccjaa", sum := "5a8c75f5009cf92b17eed76e647659c2ad23939c00418caf063abca2ef4c9d17", func := "snicket/snicketlaw22.WitTrue", spec := "witTrue", unfollowed := true, recurses := true, apart := false, narrowed := true }
def WitTrueUptoSaid : Prop := witTrueUptoRow.holds Try.pinned (OpenSpec.upto witTrueSpec)

/-- 'snicketlaw21.DijkClosed', WHERE WHAT IT READS IS OF BULK AT MOST 1048576: true; the input reads as it did. -/
def dijkClosedUptoRow : OpenClaim := { program := "ytegbidklcaccjaa", sum := "5a8c75f5009cf92b17eed76e647659c2ad23939c00418caf063abca2ef4c9d17", func := "snicket/snicketlaw21.DijkClosed", spec := "dijkClosed", unfollowed := true, recurses := true, apart := false, narrowed := true }
def DijkClosedUptoSaid : Prop := dijkClosedUptoRow.holds Try.pinned (OpenSpec.upto dijkClosedSpec)

/-- 'snicketlaw21.DijkAll', WHERE WHAT IT READS IS OF BULK AT MOST 1048576: true; the input reads as it did. -/
def dijkAllUptoRow : OpenClaim := { program := "ytegbidklcaccjaa", sum := "5a8c75f5009cf92b17eed76e647659c2ad23939c00418caf063abca2ef4c9d17", func := "snicket/snicketlaw21.DijkAll", spec := "dijkAll", unfollowed := true, recurses := true, apart := false, narrowed := true }
def DijkAllUptoSaid : Prop := dijkAllUptoRow.holds Try.pinned (OpenSpec.upto dijkAllSpec)

/-- 'snicketlaw43.CompOrder', WHERE WHAT IT READS IS OF BULK AT MOST 1048576: true; the input reads as it did. -/
def compOrderUptoRow : OpenClaim := { program := "ytegbidklcaccjaa", sum := "5a8c75f5009cf92b17eed76e647659c2ad23939c00418caf063abca2ef4c9d17", func := "snicket/snicketlaw43.CompOrder", spec := "compOrder", apart := false, narrowed := true }
def CompOrderUptoSaid : Prop := compOrderUptoRow.holds Try.pinned (OpenSpec.upto compOrderSpec)

end Rows
end Go.Proofs.Ytegbidklcaccjaa
