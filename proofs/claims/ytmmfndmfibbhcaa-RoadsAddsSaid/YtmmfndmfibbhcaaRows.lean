/-
  No cell of these rows narrows 'for every input' (looked for: loops, veiled, ifaces, maps, wideKeys, modest, calm, conditions, laid).
  DERIVED. THE GIVEN ROWS OF THIS SEAT. 14 by the template 'for every input the law returns true; each argument reads behind the call as it read before'; 0 by the template 'total and deterministic' (their statements: YtmmfndmfibbhcaaTotals.lean).
  GIVEN WITH THE SEED: the statements are not yours to turn. If you find one false, say at which input.
  Laid BY PROGRAM, IN A SANDBOX (cutbox-rows.mjs): the forced cells as the released guide's own fill.sh prints them over the translation 18c7d7845bb8c062… (all of the seat's roots in one cut). By AI agents, Wed Nov 11 2026. No macro, syntax, notation, axiom, sorry.
-/
import Derived.Test.YtmmfndmfibbhcaaChecked
import GoSem.Claim
import GoSem.ClaimJoined
import GoSem.ClaimMapViews
import Derived.JoinedTies
import Derived.KernelRfl
namespace Go.Proofs.Ytmmfndmfibbhcaa
/- THE CELL 'sum', in the pinned program and in every row, IS THE sha256 OF THE DUMP (.gsa) THAT YtmmfndmfibbhcaaProg.lean LOADS. Nothing in Lean hashes anything: it is a label: what it is worth is what the hold of that sum in a sandbox is worth. -/
noncomputable def Try.pinned : Pinned := { name := "ytmmfndmfibbhcaa", sum := "18c7d7845bb8c06266e2a34f53c0ed4724bb17237ee2f2eb9974b69e2ea10479", checked := Try.checked }
namespace Rows
def none {H : Type} : Left H := { results := [], args := [] }

/-- 'snicketlaw23.RankNeeds': WHATEVER THE INPUT: true; the input reads as it did. -/
def rankNeedsSpec : ChangeSpec := { name := "rankNeeds", fn := fun _ => fun
  | [d1, d2, d3] => { results := [.lit (.bool true)], args := [d1, d2, d3] }
  | _ => none }
def rankNeedsRow : OpenClaim := { program := "ytmmfndmfibbhcaa", sum := "18c7d7845bb8c06266e2a34f53c0ed4724bb17237ee2f2eb9974b69e2ea10479", func := "snicket/snicketlaw23.RankNeeds", spec := "rankNeeds", unfollowed := true, recurses := true, apart := false }
def RankNeedsSaid : Prop := rankNeedsRow.holds Try.pinned (OpenSpec.ofChange rankNeedsSpec)

/-- ITS FALSE NEIGHBOUR: 'it returns false'. Refute it at one input. -/
def rankNeedsWrong : ChangeSpec := { name := "rankNeeds", fn := fun _ => fun
  | [d1, d2, d3] => { results := [.lit (.bool false)], args := [d1, d2, d3] }
  | _ => none }
def RankNeedsWrongFalsely : Prop := rankNeedsRow.holds Try.pinned (OpenSpec.ofChange rankNeedsWrong)

/-- 'snicketlaw23.RankCounts': WHATEVER THE INPUT: true; the input reads as it did. -/
def rankCountsSpec : ChangeSpec := { name := "rankCounts", fn := fun _ => fun
  | [d1, d2, d3] => { results := [.lit (.bool true)], args := [d1, d2, d3] }
  | _ => none }
def rankCountsRow : OpenClaim := { program := "ytmmfndmfibbhcaa", sum := "18c7d7845bb8c06266e2a34f53c0ed4724bb17237ee2f2eb9974b69e2ea10479", func := "snicket/snicketlaw23.RankCounts", spec := "rankCounts", unfollowed := true, recurses := true, apart := false }
def RankCountsSaid : Prop := rankCountsRow.holds Try.pinned (OpenSpec.ofChange rankCountsSpec)

/-- ITS FALSE NEIGHBOUR: 'it returns false'. Refute it at one input. -/
def rankCountsWrong : ChangeSpec := { name := "rankCounts", fn := fun _ => fun
  | [d1, d2, d3] => { results := [.lit (.bool false)], args := [d1, d2, d3] }
  | _ => none }
def RankCountsWrongFalsely : Prop := rankCountsRow.holds Try.pinned (OpenSpec.ofChange rankCountsWrong)

/-- 'snicketlaw20.HeapActs': WHATEVER THE INPUT: true; the input reads as it did. -/
def heapActsSpec : ChangeSpec := { name := "heapActs", fn := fun _ => fun
  | [d] => { results := [.lit (.bool true)], args := [d] }
  | _ => none }
def heapActsRow : OpenClaim := { program := "ytmmfndmfibbhcaa", sum := "18c7d7845bb8c06266e2a34f53c0ed4724bb17237ee2f2eb9974b69e2ea10479", func := "snicket/snicketlaw20.HeapActs", spec := "heapActs", apart := false }
def HeapActsSaid : Prop := heapActsRow.holds Try.pinned (OpenSpec.ofChange heapActsSpec)

/-- ITS FALSE NEIGHBOUR: 'it returns false'. Refute it at one input. -/
def heapActsWrong : ChangeSpec := { name := "heapActs", fn := fun _ => fun
  | [d] => { results := [.lit (.bool false)], args := [d] }
  | _ => none }
def HeapActsWrongFalsely : Prop := heapActsRow.holds Try.pinned (OpenSpec.ofChange heapActsWrong)

/-- 'snicketlaw20.HeapSorts': WHATEVER THE INPUT: true; the input reads as it did. -/
def heapSortsSpec : ChangeSpec := { name := "heapSorts", fn := fun _ => fun
  | [d] => { results := [.lit (.bool true)], args := [d] }
  | _ => none }
def heapSortsRow : OpenClaim := { program := "ytmmfndmfibbhcaa", sum := "18c7d7845bb8c06266e2a34f53c0ed4724bb17237ee2f2eb9974b69e2ea10479", func := "snicket/snicketlaw20.HeapSorts", spec := "heapSorts", apart := false }
def HeapSortsSaid : Prop := heapSortsRow.holds Try.pinned (OpenSpec.ofChange heapSortsSpec)

/-- ITS FALSE NEIGHBOUR: 'it returns false'. Refute it at one input. -/
def heapSortsWrong : ChangeSpec := { name := "heapSorts", fn := fun _ => fun
  | [d] => { results := [.lit (.bool false)], args := [d] }
  | _ => none }
def HeapSortsWrongFalsely : Prop := heapSortsRow.holds Try.pinned (OpenSpec.ofChange heapSortsWrong)

/-- 'snicketlaw46.SaveNums': WHATEVER THE INPUT: true; the input reads as it did. -/
def saveNumsSpec : ChangeSpec := { name := "saveNums", fn := fun _ => fun
  | [d1, d2] => { results := [.lit (.bool true)], args := [d1, d2] }
  | _ => none }
def saveNumsRow : OpenClaim := { program := "ytmmfndmfibbhcaa", sum := "18c7d7845bb8c06266e2a34f53c0ed4724bb17237ee2f2eb9974b69e2ea10479", func := "snicket/snicketlaw46.SaveNums", spec := "saveNums", unfollowed := true, recurses := true, apart := false }
def SaveNumsSaid : Prop := saveNumsRow.holds Try.pinned (OpenSpec.ofChange saveNumsSpec)

/-- ITS FALSE NEIGHBOUR: 'it returns false'. Refute it at one input. -/
def saveNumsWrong : ChangeSpec := { name := "saveNums", fn := fun _ => fun
  | [d1, d2] => { results := [.lit (.bool false)], args := [d1, d2] }
  | _ => none }
def SaveNumsWrongFalsely : Prop := saveNumsRow.holds Try.pinned (OpenSpec.ofChange saveNumsWrong)

/-- 'snicketlaw46.SavePuts': WHATEVER THE INPUT: true; the input reads as it did. -/
def savePutsSpec : ChangeSpec := { name := "savePuts", fn := fun _ => fun
  | [d] => { results := [.lit (.bool true)], args := [d] }
  | _ => none }
def savePutsRow : OpenClaim := { program := "ytmmfndmfibbhcaa", sum := "18c7d7845bb8c06266e2a34f53c0ed4724bb17237ee2f2eb9974b69e2ea10479", func := "snicket/snicketlaw46.SavePuts", spec := "savePuts", unfollowed := true, recurses := true, apart := false }
def SavePutsSaid : Prop := savePutsRow.holds Try.pinned (OpenSpec.ofChange savePutsSpec)

/-- ITS FALSE NEIGHBOUR: 'it returns false'. Refute it at one input. -/
def savePutsWrong : ChangeSpec := { name := "savePuts", fn := fun _ => fun
  | [d] => { results := [.lit (.bool false)], args := [d] }
  | _ => none }
def SavePutsWrongFalsely : Prop := savePutsRow.holds Try.pinned (OpenSpec.ofChange savePutsWrong)

/-- 'snicketlaw46.SaveGets': WHATEVER THE INPUT: true; the input reads as it did. -/
def saveGetsSpec : ChangeSpec := { name := "saveGets", fn := fun _ => fun
  | [d] => { results := [.lit (.bool true)], args := [d] }
  | _ => none }
def saveGetsRow : OpenClaim := { program := "ytmmfndmfibbhcaa", sum := "18c7d7845bb8c06266e2a34f53c0ed4724bb17237ee2f2eb9974b69e2ea10479", func := "snicket/snicketlaw46.SaveGets", spec := "saveGets", unfollowed := true, recurses := true, apart := false }
def SaveGetsSaid : Prop := saveGetsRow.holds Try.pinned (OpenSpec.ofChange saveGetsSpec)

/-- ITS FALSE NEIGHBOUR: 'it returns false'. Refute it at one input. -/
def saveGetsWrong : ChangeSpec := { name := "saveGets", fn := fun _ => fun
  | [d] => { results := [.lit (.bool false)], args := [d] }
  | _ => none }
def SaveGetsWrongFalsely : Prop := saveGetsRow.holds Try.pinned (OpenSpec.ofChange saveGetsWrong)

/-- 'snicketlaw28.ClosedOrder': WHATEVER THE INPUT: true; the input reads as it did. -/
def closedOrderSpec : ChangeSpec := { name := "closedOrder", fn := fun _ => fun
  | [d1, d2, d3] => { results := [.lit (.bool true)], args := [d1, d2, d3] }
  | _ => none }
def closedOrderRow : OpenClaim := { program := "ytmmfndmfibbhcaa", sum := "18c7d7845bb8c06266e2a34f53c0ed4724bb17237ee2f2eb9974b69e2ea10479", func := "snicket/snicketlaw28.ClosedOrder", spec := "closedOrder", inPlace := ["slices.overlaps[int]"], unfollowed := true, recurses := true, apart := false }
def ClosedOrderSaid : Prop := closedOrderRow.holds Try.pinned (OpenSpec.ofChange closedOrderSpec)

/-- ITS FALSE NEIGHBOUR: 'it returns false'. Refute it at one input. -/
def closedOrderWrong : ChangeSpec := { name := "closedOrder", fn := fun _ => fun
  | [d1, d2, d3] => { results := [.lit (.bool false)], args := [d1, d2, d3] }
  | _ => none }
def ClosedOrderWrongFalsely : Prop := closedOrderRow.holds Try.pinned (OpenSpec.ofChange closedOrderWrong)

/-- 'snicketlaw28.ClosedWays': WHATEVER THE INPUT: true; the input reads as it did. -/
def closedWaysSpec : ChangeSpec := { name := "closedWays", fn := fun _ => fun
  | [d1, d2, d3] => { results := [.lit (.bool true)], args := [d1, d2, d3] }
  | _ => none }
def closedWaysRow : OpenClaim := { program := "ytmmfndmfibbhcaa", sum := "18c7d7845bb8c06266e2a34f53c0ed4724bb17237ee2f2eb9974b69e2ea10479", func := "snicket/snicketlaw28.ClosedWays", spec := "closedWays", inPlace := ["slices.overlaps[int]"], unfollowed := true, recurses := true, apart := false }
def ClosedWaysSaid : Prop := closedWaysRow.holds Try.pinned (OpenSpec.ofChange closedWaysSpec)

/-- ITS FALSE NEIGHBOUR: 'it returns false'. Refute it at one input. -/
def closedWaysWrong : ChangeSpec := { name := "closedWays", fn := fun _ => fun
  | [d1, d2, d3] => { results := [.lit (.bool false)], args := [d1, d2, d3] }
  | _ => none }
def ClosedWaysWrongFalsely : Prop := closedWaysRow.holds Try.pinned (OpenSpec.ofChange closedWaysWrong)

/-- 'snicketlaw28.ClosedTurns': WHATEVER THE INPUT: true; the input reads as it did. -/
def closedTurnsSpec : ChangeSpec := { name := "closedTurns", fn := fun _ => fun
  | [d1, d2, d3] => { results := [.lit (.bool true)], args := [d1, d2, d3] }
  | _ => none }
def closedTurnsRow : OpenClaim := { program := "ytmmfndmfibbhcaa", sum := "18c7d7845bb8c06266e2a34f53c0ed4724bb17237ee2f2eb9974b69e2ea10479", func := "snicket/snicketlaw28.ClosedTurns", spec := "closedTurns", inPlace := ["slices.overlaps[int]"], unfollowed := true, recurses := true, apart := false }
def ClosedTurnsSaid : Prop := closedTurnsRow.holds Try.pinned (OpenSpec.ofChange closedTurnsSpec)

/-- ITS FALSE NEIGHBOUR: 'it returns false'. Refute it at one input. -/
def closedTurnsWrong : ChangeSpec := { name := "closedTurns", fn := fun _ => fun
  | [d1, d2, d3] => { results := [.lit (.bool false)], args := [d1, d2, d3] }
  | _ => none }
def ClosedTurnsWrongFalsely : Prop := closedTurnsRow.holds Try.pinned (OpenSpec.ofChange closedTurnsWrong)

/-- 'snicketlaw11.RoadsOrder': WHATEVER THE INPUT: true; the input reads as it did. -/
def roadsOrderSpec : ChangeSpec := { name := "roadsOrder", fn := fun _ => fun
  | [d1, d2, d3] => { results := [.lit (.bool true)], args := [d1, d2, d3] }
  | _ => none }
def roadsOrderRow : OpenClaim := { program := "ytmmfndmfibbhcaa", sum := "18c7d7845bb8c06266e2a34f53c0ed4724bb17237ee2f2eb9974b69e2ea10479", func := "snicket/snicketlaw11.RoadsOrder", spec := "roadsOrder", inPlace := ["slices.overlaps[snicket/api.Road]"], unfollowed := true, recurses := true, apart := false }
def RoadsOrderSaid : Prop := roadsOrderRow.holds Try.pinned (OpenSpec.ofChange roadsOrderSpec)

/-- ITS FALSE NEIGHBOUR: 'it returns false'. Refute it at one input. -/
def roadsOrderWrong : ChangeSpec := { name := "roadsOrder", fn := fun _ => fun
  | [d1, d2, d3] => { results := [.lit (.bool false)], args := [d1, d2, d3] }
  | _ => none }
def RoadsOrderWrongFalsely : Prop := roadsOrderRow.holds Try.pinned (OpenSpec.ofChange roadsOrderWrong)

/-- 'snicketlaw11.RoadsStrips': WHATEVER THE INPUT: true; the input reads as it did. -/
def roadsStripsSpec : ChangeSpec := { name := "roadsStrips", fn := fun _ => fun
  | [d1, d2] => { results := [.lit (.bool true)], args := [d1, d2] }
  | _ => none }
def roadsStripsRow : OpenClaim := { program := "ytmmfndmfibbhcaa", sum := "18c7d7845bb8c06266e2a34f53c0ed4724bb17237ee2f2eb9974b69e2ea10479", func := "snicket/snicketlaw11.RoadsStrips", spec := "roadsStrips", inPlace := ["slices.overlaps[snicket/api.Road]"], unfollowed := true, recurses := true, apart := false }
def RoadsStripsSaid : Prop := roadsStripsRow.holds Try.pinned (OpenSpec.ofChange roadsStripsSpec)

/-- ITS FALSE NEIGHBOUR: 'it returns false'. Refute it at one input. -/
def roadsStripsWrong : ChangeSpec := { name := "roadsStrips", fn := fun _ => fun
  | [d1, d2] => { results := [.lit (.bool false)], args := [d1, d2] }
  | _ => none }
def RoadsStripsWrongFalsely : Prop := roadsStripsRow.holds Try.pinned (OpenSpec.ofChange roadsStripsWrong)

/-- 'snicketlaw11.RoadsAdds': WHATEVER THE INPUT: true; the input reads as it did. -/
def roadsAddsSpec : ChangeSpec := { name := "roadsAdds", fn := fun _ => fun
  | [d1, d2, d3] => { results := [.lit (.bool true)], args := [d1, d2, d3] }
  | _ => none }
def roadsAddsRow : OpenClaim := { program := "ytmmfndmfibbhcaa", sum := "18c7d7845bb8c06266e2a34f53c0ed4724bb17237ee2f2eb9974b69e2ea10479", func := "snicket/snicketlaw11.RoadsAdds", spec := "roadsAdds", inPlace := ["slices.overlaps[snicket/api.Road]"], unfollowed := true, recurses := true, apart := false }
def RoadsAddsSaid : Prop := roadsAddsRow.holds Try.pinned (OpenSpec.ofChange roadsAddsSpec)

/-- ITS FALSE NEIGHBOUR: 'it returns false'. Refute it at one input. -/
def roadsAddsWrong : ChangeSpec := { name := "roadsAdds", fn := fun _ => fun
  | [d1, d2, d3] => { results := [.lit (.bool false)], args := [d1, d2, d3] }
  | _ => none }
def RoadsAddsWrongFalsely : Prop := roadsAddsRow.holds Try.pinned (OpenSpec.ofChange roadsAddsWrong)

/-- 'snicketlaw11.RoadsBack': WHATEVER THE INPUT: true; the input reads as it did. -/
def roadsBackSpec : ChangeSpec := { name := "roadsBack", fn := fun _ => fun
  | [d1, d2] => { results := [.lit (.bool true)], args := [d1, d2] }
  | _ => none }
def roadsBackRow : OpenClaim := { program := "ytmmfndmfibbhcaa", sum := "18c7d7845bb8c06266e2a34f53c0ed4724bb17237ee2f2eb9974b69e2ea10479", func := "snicket/snicketlaw11.RoadsBack", spec := "roadsBack", inPlace := ["slices.overlaps[snicket/api.Road]"], unfollowed := true, recurses := true, apart := false }
def RoadsBackSaid : Prop := roadsBackRow.holds Try.pinned (OpenSpec.ofChange roadsBackSpec)

/-- ITS FALSE NEIGHBOUR: 'it returns false'. Refute it at one input. -/
def roadsBackWrong : ChangeSpec := { name := "roadsBack", fn := fun _ => fun
  | [d1, d2] => { results := [.lit (.bool false)], args := [d1, d2] }
  | _ => none }
def RoadsBackWrongFalsely : Prop := roadsBackRow.holds Try.pinned (OpenSpec.ofChange roadsBackWrong)

/- THE SECOND FORM. 'bulk': how many values and letters a reading holds, each counted each time it is reached (what is shared counts as often as it is met; a slice's spare places count too). A statement '..UptoSaid' is the law's where the arguments, and the package variables that the reading takes, are together of bulk at most 1048576: NARROWER than '..Said'. Prove '..Said' where nothing that the law and all that it calls make is longer than what came in: it says more and counts as full. Else prove '..UptoSaid'. A law counts once. -/
mutual
def uptoBulk {H : Type} : DataW H → Nat
  | .lit (.string bytes) => bytes.length + 1
  | .lit _ => 1
  | .nil => 1
  | .ptr d => uptoBulk d + 1
  | .slice elems spare => uptoBulkAll elems + uptoBulkAll spare + 1
  | .agg parts => uptoBulkAll parts + 1
  | .iface _ d => uptoBulk d + 1
  | .map entries => uptoBulkEntries entries + 1
  | .held _ => 1
def uptoBulkAll {H : Type} : List (DataW H) → Nat
  | [] => 0
  | d :: r => uptoBulk d + uptoBulkAll r
def uptoBulkEntries {H : Type} : List (Lit × DataW H) → Nat
  | [] => 0
  | x :: r => uptoBulkEntry x + uptoBulkEntries r
def uptoBulkEntry {H : Type} : Lit × DataW H → Nat
  | (.string bytes, d) => bytes.length + uptoBulk d + 1
  | (_, d) => uptoBulk d + 1
 end
def uptoSmall : (H : Type) → List (DataW H) → Bool := fun _ ds => decide (uptoBulkAll ds ≤ 1048576)
def OpenSpec.upto (s : _root_.Go.ChangeSpec) : _root_.Go.OpenSpec := { _root_.Go.OpenSpec.ofChange s with cond := some uptoSmall }

/-- 'snicketlaw23.RankNeeds', WHERE WHAT IT READS IS OF BULK AT MOST 1048576: true; the input reads as it did. -/
def rankNeedsUptoRow : OpenClaim := { program := "ytmmfndmfibbhcaa", sum := "18c7d7845bb8c06266e2a34f53c0ed4724bb17237ee2f2eb9974b69e2ea10479", func := "snicket/snicketlaw23.RankNeeds", spec := "rankNeeds", unfollowed := true, recurses := true, apart := false, narrowed := true }
def RankNeedsUptoSaid : Prop := rankNeedsUptoRow.holds Try.pinned (OpenSpec.upto rankNeedsSpec)

/-- 'snicketlaw23.RankCounts', WHERE WHAT IT READS IS OF BULK AT MOST 1048576: true; the input reads as it did. -/
def rankCountsUptoRow : OpenClaim := { program := "ytmmfndmfibbhcaa", sum := "18c7d7845bb8c06266e2a34f53c0ed4724bb17237ee2f2eb9974b69e2ea10479", func := "snicket/snicketlaw23.RankCounts", spec := "rankCounts", unfollowed := true, recurses := true, apart := false, narrowed := true }
def RankCountsUptoSaid : Prop := rankCountsUptoRow.holds Try.pinned (OpenSpec.upto rankCountsSpec)

/-- 'snicketlaw20.HeapActs', WHERE WHAT IT READS IS OF BULK AT MOST 1048576: true; the input reads as it did. -/
def heapActsUptoRow : OpenClaim := { program := "ytmmfndmfibbhcaa", sum := "18c7d7845bb8c06266e2a34f53c0ed4724bb17237ee2f2eb9974b69e2ea10479", func := "snicket/snicketlaw20.HeapActs", spec := "heapActs", apart := false, narrowed := true }
def HeapActsUptoSaid : Prop := heapActsUptoRow.holds Try.pinned (OpenSpec.upto heapActsSpec)

/-- 'snicketlaw20.HeapSorts', WHERE WHAT IT READS IS OF BULK AT MOST 1048576: true; the input reads as it did. -/
def heapSortsUptoRow : OpenClaim := { program := "ytmmfndmfibbhcaa", sum := "18c7d7845bb8c06266e2a34f53c0ed4724bb17237ee2f2eb9974b69e2ea10479", func := "snicket/snicketlaw20.HeapSorts", spec := "heapSorts", apart := false, narrowed := true }
def HeapSortsUptoSaid : Prop := heapSortsUptoRow.holds Try.pinned (OpenSpec.upto heapSortsSpec)

/-- 'snicketlaw46.SaveNums', WHERE WHAT IT READS IS OF BULK AT MOST 1048576: true; the input reads as it did. -/
def saveNumsUptoRow : OpenClaim := { program := "ytmmfndmfibbhcaa", sum := "18c7d7845bb8c06266e2a34f53c0ed4724bb17237ee2f2eb9974b69e2ea10479", func := "snicket/snicketlaw46.SaveNums", spec := "saveNums", unfollowed := true, recurses := true, apart := false, narrowed := true }
def SaveNumsUptoSaid : Prop := saveNumsUptoRow.holds Try.pinned (OpenSpec.upto saveNumsSpec)

/-- 'snicketlaw46.SavePuts', WHERE WHAT IT READS IS OF BULK AT MOST 1048576: true; the input reads as it did. -/
def savePutsUptoRow : OpenClaim := { program := "ytmmfndmfibbhcaa", sum := "18c7d7845bb8c06266e2a34f53c0ed4724bb17237ee2f2eb9974b69e2ea10479", func := "snicket/snicketlaw46.SavePuts", spec := "savePuts", unfollowed := true, recurses := true, apart := false, narrowed := true }
def SavePutsUptoSaid : Prop := savePutsUptoRow.holds Try.pinned (OpenSpec.upto savePutsSpec)

/-- 'snicketlaw46.SaveGets', WHERE WHAT IT READS IS OF BULK AT MOST 1048576: true; the input reads as it did. -/
def saveGetsUptoRow : OpenClaim := { program := "ytmmfndmfibbhcaa", sum := "18c7d7845bb8c06266e2a34f53c0ed4724bb17237ee2f2eb9974b69e2ea10479", func := "snicket/snicketlaw46.SaveGets", spec := "saveGets", unfollowed := true, recurses := true, apart := false, narrowed := true }
def SaveGetsUptoSaid : Prop := saveGetsUptoRow.holds Try.pinned (OpenSpec.upto saveGetsSpec)

/-- 'snicketlaw28.ClosedOrder', WHERE WHAT IT READS IS OF BULK AT MOST 1048576: true; the input reads as it did. -/
def closedOrderUptoRow : OpenClaim := { program := "ytmmfndmfibbhcaa", sum := "18c7d7845bb8c06266e2a34f53c0ed4724bb17237ee2f2eb9974b69e2ea10479", func := "snicket/snicketlaw28.ClosedOrder", spec := "closedOrder", inPlace := ["slices.overlaps[int]"], unfollowed := true, recurses := true, apart := false, narrowed := true }
def ClosedOrderUptoSaid : Prop := closedOrderUptoRow.holds Try.pinned (OpenSpec.upto closedOrderSpec)

/-- 'snicketlaw28.ClosedWays', WHERE WHAT IT READS IS OF BULK AT MOST 1048576: true; the input reads as it did. -/
def closedWaysUptoRow : OpenClaim := { program := "ytmmfndmfibbhcaa", sum := "18c7d7845bb8c06266e2a34f53c0ed4724bb17237ee2f2eb9974b69e2ea10479", func := "snicket/snicketlaw28.ClosedWays", spec := "closedWays", inPlace := ["slices.overlaps[int]"], unfollowed := true, recurses := true, apart := false, narrowed := true }
def ClosedWaysUptoSaid : Prop := closedWaysUptoRow.holds Try.pinned (OpenSpec.upto closedWaysSpec)

/-- 'snicketlaw28.ClosedTurns', WHERE WHAT IT READS IS OF BULK AT MOST 1048576: true; the input reads as it did. -/
def closedTurnsUptoRow : OpenClaim := { program := "ytmmfndmfibbhcaa", sum := "18c7d7845bb8c06266e2a34f53c0ed4724bb17237ee2f2eb9974b69e2ea10479", func := "snicket/snicketlaw28.ClosedTurns", spec := "closedTurns", inPlace := ["slices.overlaps[int]"], unfollowed := true, recurses := true, apart := false, narrowed := true }
def ClosedTurnsUptoSaid : Prop := closedTurnsUptoRow.holds Try.pinned (OpenSpec.upto closedTurnsSpec)

/-- 'snicketlaw11.RoadsOrder', WHERE WHAT IT READS IS OF BULK AT MOST 1048576: true; the input reads as it did. -/
def roadsOrderUptoRow : OpenClaim := { program := "ytmmfndmfibbhcaa", sum := "18c7d7845bb8c06266e2a34f53c0ed4724bb17237ee2f2eb9974b69e2ea10479", func := "snicket/snicketlaw11.RoadsOrder", spec := "roadsOrder", inPlace := ["slices.overlaps[snicket/api.Road]"], unfollowed := true, recurses := true, apart := false, narrowed := true }
def RoadsOrderUptoSaid : Prop := roadsOrderUptoRow.holds Try.pinned (OpenSpec.upto roadsOrderSpec)

/-- 'snicketlaw11.RoadsStrips', WHERE WHAT IT READS IS OF BULK AT MOST 1048576: true; the input reads as it did. -/
def roadsStripsUptoRow : OpenClaim := { program := "ytmmfndmfibbhcaa", sum := "18c7d7845bb8c06266e2a34f53c0ed4724bb17237ee2f2eb9974b69e2ea10479", func := "snicket/snicketlaw11.RoadsStrips", spec := "roadsStrips", inPlace := ["slices.overlaps[snicket/api.Road]"], unfollowed := true, recurses := true, apart := false, narrowed := true }
def RoadsStripsUptoSaid : Prop := roadsStripsUptoRow.holds Try.pinned (OpenSpec.upto roadsStripsSpec)

/-- 'snicketlaw11.RoadsAdds', WHERE WHAT IT READS IS OF BULK AT MOST 1048576: true; the input reads as it did. -/
def roadsAddsUptoRow : OpenClaim := { program := "ytmmfndmfibbhcaa", sum := "18c7d7845bb8c06266e2a34f53c0ed4724bb17237ee2f2eb9974b69e2ea10479", func := "snicket/snicketlaw11.RoadsAdds", spec := "roadsAdds", inPlace := ["slices.overlaps[snicket/api.Road]"], unfollowed := true, recurses := true, apart := false, narrowed := true }
def RoadsAddsUptoSaid : Prop := roadsAddsUptoRow.holds Try.pinned (OpenSpec.upto roadsAddsSpec)

/-- 'snicketlaw11.RoadsBack', WHERE WHAT IT READS IS OF BULK AT MOST 1048576: true; the input reads as it did. -/
def roadsBackUptoRow : OpenClaim := { program := "ytmmfndmfibbhcaa", sum := "18c7d7845bb8c06266e2a34f53c0ed4724bb17237ee2f2eb9974b69e2ea10479", func := "snicket/snicketlaw11.RoadsBack", spec := "roadsBack", inPlace := ["slices.overlaps[snicket/api.Road]"], unfollowed := true, recurses := true, apart := false, narrowed := true }
def RoadsBackUptoSaid : Prop := roadsBackUptoRow.holds Try.pinned (OpenSpec.upto roadsBackSpec)

end Rows
end Go.Proofs.Ytmmfndmfibbhcaa
