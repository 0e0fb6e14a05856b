/-
  No cell of these rows narrows 'for every input' (looked for: loops, veiled, ifaces, maps, wideKeys, modest, calm, conditions, laid).
  DERIVED. THE GIVEN ROWS OF THIS SEAT. 13 by the template 'for every input the law returns true; each argument reads behind the call as it read before'; 0 by the template 'total and deterministic' (their statements: YtoainfnhmdcpoaaTotals.lean).
  GIVEN WITH THE SEED: the statements are not yours to turn. If you find one false, say at which input.
  Laid BY PROGRAM, IN A SANDBOX (cutbox-rows.mjs): the forced cells as the released guide's own fill.sh prints them over the translation 8237f31557ff7e67… (all of the seat's roots in one cut). By AI agents, Wed Nov 11 2026. No macro, syntax, notation, axiom, sorry.
-/
import Derived.Test.YtoainfnhmdcpoaaChecked
import GoSem.Claim
import GoSem.ClaimJoined
import GoSem.ClaimMapViews
import Derived.JoinedTies
import Derived.KernelRfl
namespace Go.Proofs.Ytoainfnhmdcpoaa
/- THE CELL 'sum', in the pinned program and in every row, IS THE sha256 OF THE DUMP (.gsa) THAT YtoainfnhmdcpoaaProg.lean LOADS. Nothing in Lean hashes anything: it is a label: what it is worth is what the hold of that sum in a sandbox is worth. -/
noncomputable def Try.pinned : Pinned := { name := "ytoainfnhmdcpoaa", sum := "8237f31557ff7e6728361163509be5227d3f9ddce912a22d5a45e5edf54eb0a1", checked := Try.checked }
namespace Rows
def none {H : Type} : Left H := { results := [], args := [] }

/-- 'snicketlaw14.WeighParts': WHATEVER THE INPUT: true; the input reads as it did. -/
def weighPartsSpec : ChangeSpec := { name := "weighParts", fn := fun _ => fun
  | [d1, d2] => { results := [.lit (.bool true)], args := [d1, d2] }
  | _ => none }
def weighPartsRow : OpenClaim := { program := "ytoainfnhmdcpoaa", sum := "8237f31557ff7e6728361163509be5227d3f9ddce912a22d5a45e5edf54eb0a1", func := "snicket/snicketlaw14.WeighParts", spec := "weighParts", named := ["math/bits.divideError", "math/bits.overflowError"], apart := false }
def WeighPartsSaid : Prop := weighPartsRow.holds Try.pinned (OpenSpec.ofChange weighPartsSpec)

/-- ITS FALSE NEIGHBOUR: 'it returns false'. Refute it at one input. -/
def weighPartsWrong : ChangeSpec := { name := "weighParts", fn := fun _ => fun
  | [d1, d2] => { results := [.lit (.bool false)], args := [d1, d2] }
  | _ => none }
def WeighPartsWrongFalsely : Prop := weighPartsRow.holds Try.pinned (OpenSpec.ofChange weighPartsWrong)

/-- 'snicketlaw14.WeighJoins': WHATEVER THE INPUT: true; the input reads as it did. -/
def weighJoinsSpec : ChangeSpec := { name := "weighJoins", fn := fun _ => fun
  | [d] => { results := [.lit (.bool true)], args := [d] }
  | _ => none }
def weighJoinsRow : OpenClaim := { program := "ytoainfnhmdcpoaa", sum := "8237f31557ff7e6728361163509be5227d3f9ddce912a22d5a45e5edf54eb0a1", func := "snicket/snicketlaw14.WeighJoins", spec := "weighJoins", named := ["math/bits.divideError", "math/bits.overflowError"], apart := false }
def WeighJoinsSaid : Prop := weighJoinsRow.holds Try.pinned (OpenSpec.ofChange weighJoinsSpec)

/-- ITS FALSE NEIGHBOUR: 'it returns false'. Refute it at one input. -/
def weighJoinsWrong : ChangeSpec := { name := "weighJoins", fn := fun _ => fun
  | [d] => { results := [.lit (.bool false)], args := [d] }
  | _ => none }
def WeighJoinsWrongFalsely : Prop := weighJoinsRow.holds Try.pinned (OpenSpec.ofChange weighJoinsWrong)

/-- 'snicketlaw34.PlaceDirect': WHATEVER THE INPUT: true; the input reads as it did. -/
def placeDirectSpec : ChangeSpec := { name := "placeDirect", fn := fun _ => fun
  | [d1, d2, d3] => { results := [.lit (.bool true)], args := [d1, d2, d3] }
  | _ => none }
def placeDirectRow : OpenClaim := { program := "ytoainfnhmdcpoaa", sum := "8237f31557ff7e6728361163509be5227d3f9ddce912a22d5a45e5edf54eb0a1", func := "snicket/snicketlaw34.PlaceDirect", spec := "placeDirect", inPlace := ["math/bits.Sub64", "math/bits.Add64"], unfollowed := true, recurses := true, named := ["math/bits.divideError", "math/bits.overflowError"], apart := false }
def PlaceDirectSaid : Prop := placeDirectRow.holds Try.pinned (OpenSpec.ofChange placeDirectSpec)

/-- ITS FALSE NEIGHBOUR: 'it returns false'. Refute it at one input. -/
def placeDirectWrong : ChangeSpec := { name := "placeDirect", fn := fun _ => fun
  | [d1, d2, d3] => { results := [.lit (.bool false)], args := [d1, d2, d3] }
  | _ => none }
def PlaceDirectWrongFalsely : Prop := placeDirectRow.holds Try.pinned (OpenSpec.ofChange placeDirectWrong)

/-- 'snicketlaw34.PlaceOthers': WHATEVER THE INPUT: true; the input reads as it did. -/
def placeOthersSpec : ChangeSpec := { name := "placeOthers", fn := fun _ => fun
  | [d1, d2] => { results := [.lit (.bool true)], args := [d1, d2] }
  | _ => none }
def placeOthersRow : OpenClaim := { program := "ytoainfnhmdcpoaa", sum := "8237f31557ff7e6728361163509be5227d3f9ddce912a22d5a45e5edf54eb0a1", func := "snicket/snicketlaw34.PlaceOthers", spec := "placeOthers", inPlace := ["math/bits.Sub64", "math/bits.Add64"], unfollowed := true, recurses := true, named := ["math/bits.divideError", "math/bits.overflowError"], apart := false }
def PlaceOthersSaid : Prop := placeOthersRow.holds Try.pinned (OpenSpec.ofChange placeOthersSpec)

/-- ITS FALSE NEIGHBOUR: 'it returns false'. Refute it at one input. -/
def placeOthersWrong : ChangeSpec := { name := "placeOthers", fn := fun _ => fun
  | [d1, d2] => { results := [.lit (.bool false)], args := [d1, d2] }
  | _ => none }
def PlaceOthersWrongFalsely : Prop := placeOthersRow.holds Try.pinned (OpenSpec.ofChange placeOthersWrong)

/-- 'snicketlaw34.PlaceCosts': WHATEVER THE INPUT: true; the input reads as it did. -/
def placeCostsSpec : ChangeSpec := { name := "placeCosts", fn := fun _ => fun
  | [d1, d2] => { results := [.lit (.bool true)], args := [d1, d2] }
  | _ => none }
def placeCostsRow : OpenClaim := { program := "ytoainfnhmdcpoaa", sum := "8237f31557ff7e6728361163509be5227d3f9ddce912a22d5a45e5edf54eb0a1", func := "snicket/snicketlaw34.PlaceCosts", spec := "placeCosts", inPlace := ["math/bits.Sub64", "math/bits.Add64"], unfollowed := true, recurses := true, named := ["math/bits.divideError", "math/bits.overflowError"], apart := false }
def PlaceCostsSaid : Prop := placeCostsRow.holds Try.pinned (OpenSpec.ofChange placeCostsSpec)

/-- ITS FALSE NEIGHBOUR: 'it returns false'. Refute it at one input. -/
def placeCostsWrong : ChangeSpec := { name := "placeCosts", fn := fun _ => fun
  | [d1, d2] => { results := [.lit (.bool false)], args := [d1, d2] }
  | _ => none }
def PlaceCostsWrongFalsely : Prop := placeCostsRow.holds Try.pinned (OpenSpec.ofChange placeCostsWrong)

/-- 'snicketlaw50.StatCounts': WHATEVER THE INPUT: true; the input reads as it did. -/
def statCountsSpec : ChangeSpec := { name := "statCounts", fn := fun _ => fun
  | [d] => { results := [.lit (.bool true)], args := [d] }
  | _ => none }
def statCountsRow : OpenClaim := { program := "ytoainfnhmdcpoaa", sum := "8237f31557ff7e6728361163509be5227d3f9ddce912a22d5a45e5edf54eb0a1", func := "snicket/snicketlaw50.StatCounts", spec := "statCounts", inPlace := ["math/bits.Sub64", "math/bits.Add64"], unfollowed := true, recurses := true, named := ["math/bits.divideError", "math/bits.overflowError"], apart := false }
def StatCountsSaid : Prop := statCountsRow.holds Try.pinned (OpenSpec.ofChange statCountsSpec)

/-- ITS FALSE NEIGHBOUR: 'it returns false'. Refute it at one input. -/
def statCountsWrong : ChangeSpec := { name := "statCounts", fn := fun _ => fun
  | [d] => { results := [.lit (.bool false)], args := [d] }
  | _ => none }
def StatCountsWrongFalsely : Prop := statCountsRow.holds Try.pinned (OpenSpec.ofChange statCountsWrong)

/-- 'snicketlaw30.FarTurned': WHATEVER THE INPUT: true; the input reads as it did. -/
def farTurnedSpec : ChangeSpec := { name := "farTurned", fn := fun _ => fun
  | [d1, d2, d3] => { results := [.lit (.bool true)], args := [d1, d2, d3] }
  | _ => none }
def farTurnedRow : OpenClaim := { program := "ytoainfnhmdcpoaa", sum := "8237f31557ff7e6728361163509be5227d3f9ddce912a22d5a45e5edf54eb0a1", func := "snicket/snicketlaw30.FarTurned", spec := "farTurned", inPlace := ["math/bits.Sub64", "math/bits.Add64"], named := ["math/bits.divideError", "math/bits.overflowError"], apart := false }
def FarTurnedSaid : Prop := farTurnedRow.holds Try.pinned (OpenSpec.ofChange farTurnedSpec)

/-- ITS FALSE NEIGHBOUR: 'it returns false'. Refute it at one input. -/
def farTurnedWrong : ChangeSpec := { name := "farTurned", fn := fun _ => fun
  | [d1, d2, d3] => { results := [.lit (.bool false)], args := [d1, d2, d3] }
  | _ => none }
def FarTurnedWrongFalsely : Prop := farTurnedRow.holds Try.pinned (OpenSpec.ofChange farTurnedWrong)

/-- 'snicketlaw50.StatParts': WHATEVER THE INPUT: true; the input reads as it did. -/
def statPartsSpec : ChangeSpec := { name := "statParts", fn := fun _ => fun
  | [d] => { results := [.lit (.bool true)], args := [d] }
  | _ => none }
def statPartsRow : OpenClaim := { program := "ytoainfnhmdcpoaa", sum := "8237f31557ff7e6728361163509be5227d3f9ddce912a22d5a45e5edf54eb0a1", func := "snicket/snicketlaw50.StatParts", spec := "statParts", inPlace := ["math/bits.Sub64", "math/bits.Add64"], unfollowed := true, recurses := true, named := ["math/bits.divideError", "math/bits.overflowError"], apart := false }
def StatPartsSaid : Prop := statPartsRow.holds Try.pinned (OpenSpec.ofChange statPartsSpec)

/-- ITS FALSE NEIGHBOUR: 'it returns false'. Refute it at one input. -/
def statPartsWrong : ChangeSpec := { name := "statParts", fn := fun _ => fun
  | [d] => { results := [.lit (.bool false)], args := [d] }
  | _ => none }
def StatPartsWrongFalsely : Prop := statPartsRow.holds Try.pinned (OpenSpec.ofChange statPartsWrong)

/-- 'snicketlaw30.FarAlong': WHATEVER THE INPUT: true; the input reads as it did. -/
def farAlongSpec : ChangeSpec := { name := "farAlong", fn := fun _ => fun
  | [d1, d2, d3] => { results := [.lit (.bool true)], args := [d1, d2, d3] }
  | _ => none }
def farAlongRow : OpenClaim := { program := "ytoainfnhmdcpoaa", sum := "8237f31557ff7e6728361163509be5227d3f9ddce912a22d5a45e5edf54eb0a1", func := "snicket/snicketlaw30.FarAlong", spec := "farAlong", inPlace := ["math/bits.Sub64", "math/bits.Add64"], named := ["math/bits.divideError", "math/bits.overflowError"], apart := false }
def FarAlongSaid : Prop := farAlongRow.holds Try.pinned (OpenSpec.ofChange farAlongSpec)

/-- ITS FALSE NEIGHBOUR: 'it returns false'. Refute it at one input. -/
def farAlongWrong : ChangeSpec := { name := "farAlong", fn := fun _ => fun
  | [d1, d2, d3] => { results := [.lit (.bool false)], args := [d1, d2, d3] }
  | _ => none }
def FarAlongWrongFalsely : Prop := farAlongRow.holds Try.pinned (OpenSpec.ofChange farAlongWrong)

/-- 'snicketlaw31.GridCells': WHATEVER THE INPUT: true; the input reads as it did. -/
def gridCellsSpec : ChangeSpec := { name := "gridCells", fn := fun _ => fun
  | [d1, d2, d3] => { results := [.lit (.bool true)], args := [d1, d2, d3] }
  | _ => none }
def gridCellsRow : OpenClaim := { program := "ytoainfnhmdcpoaa", sum := "8237f31557ff7e6728361163509be5227d3f9ddce912a22d5a45e5edf54eb0a1", func := "snicket/snicketlaw31.GridCells", spec := "gridCells", inPlace := ["math/bits.Sub64", "math/bits.Add64"], unfollowed := true, recurses := true, named := ["math/bits.divideError", "math/bits.overflowError"], apart := false }
def GridCellsSaid : Prop := gridCellsRow.holds Try.pinned (OpenSpec.ofChange gridCellsSpec)

/-- ITS FALSE NEIGHBOUR: 'it returns false'. Refute it at one input. -/
def gridCellsWrong : ChangeSpec := { name := "gridCells", fn := fun _ => fun
  | [d1, d2, d3] => { results := [.lit (.bool false)], args := [d1, d2, d3] }
  | _ => none }
def GridCellsWrongFalsely : Prop := gridCellsRow.holds Try.pinned (OpenSpec.ofChange gridCellsWrong)

/-- 'snicketlaw19.ArcsMay': WHATEVER THE INPUT: true; the input reads as it did. -/
def arcsMaySpec : ChangeSpec := { name := "arcsMay", fn := fun _ => fun
  | [d1, d2, d3] => { results := [.lit (.bool true)], args := [d1, d2, d3] }
  | _ => none }
def arcsMayRow : OpenClaim := { program := "ytoainfnhmdcpoaa", sum := "8237f31557ff7e6728361163509be5227d3f9ddce912a22d5a45e5edf54eb0a1", func := "snicket/snicketlaw19.ArcsMay", spec := "arcsMay", inPlace := ["math/bits.Sub64", "math/bits.Add64"], unfollowed := true, recurses := true, named := ["math/bits.divideError", "math/bits.overflowError"], apart := false }
def ArcsMaySaid : Prop := arcsMayRow.holds Try.pinned (OpenSpec.ofChange arcsMaySpec)

/-- ITS FALSE NEIGHBOUR: 'it returns false'. Refute it at one input. -/
def arcsMayWrong : ChangeSpec := { name := "arcsMay", fn := fun _ => fun
  | [d1, d2, d3] => { results := [.lit (.bool false)], args := [d1, d2, d3] }
  | _ => none }
def ArcsMayWrongFalsely : Prop := arcsMayRow.holds Try.pinned (OpenSpec.ofChange arcsMayWrong)

/-- 'snicketlaw19.ArcsBack': WHATEVER THE INPUT: true; the input reads as it did. -/
def arcsBackSpec : ChangeSpec := { name := "arcsBack", fn := fun _ => fun
  | [d] => { results := [.lit (.bool true)], args := [d] }
  | _ => none }
def arcsBackRow : OpenClaim := { program := "ytoainfnhmdcpoaa", sum := "8237f31557ff7e6728361163509be5227d3f9ddce912a22d5a45e5edf54eb0a1", func := "snicket/snicketlaw19.ArcsBack", spec := "arcsBack", inPlace := ["math/bits.Sub64", "math/bits.Add64"], unfollowed := true, recurses := true, named := ["math/bits.divideError", "math/bits.overflowError"], apart := false }
def ArcsBackSaid : Prop := arcsBackRow.holds Try.pinned (OpenSpec.ofChange arcsBackSpec)

/-- ITS FALSE NEIGHBOUR: 'it returns false'. Refute it at one input. -/
def arcsBackWrong : ChangeSpec := { name := "arcsBack", fn := fun _ => fun
  | [d] => { results := [.lit (.bool false)], args := [d] }
  | _ => none }
def ArcsBackWrongFalsely : Prop := arcsBackRow.holds Try.pinned (OpenSpec.ofChange arcsBackWrong)

/-- 'snicketlaw17.BansBack': WHATEVER THE INPUT: true; the input reads as it did. -/
def bansBackSpec : ChangeSpec := { name := "bansBack", fn := fun _ => fun
  | [d1, d2, d3] => { results := [.lit (.bool true)], args := [d1, d2, d3] }
  | _ => none }
def bansBackRow : OpenClaim := { program := "ytoainfnhmdcpoaa", sum := "8237f31557ff7e6728361163509be5227d3f9ddce912a22d5a45e5edf54eb0a1", func := "snicket/snicketlaw17.BansBack", spec := "bansBack", inPlace := ["math/bits.Sub64", "math/bits.Add64", "slices.overlaps[snicket/api.Ban]"], unfollowed := true, recurses := true, named := ["math/bits.divideError", "math/bits.overflowError"], apart := false }
def BansBackSaid : Prop := bansBackRow.holds Try.pinned (OpenSpec.ofChange bansBackSpec)

/-- ITS FALSE NEIGHBOUR: 'it returns false'. Refute it at one input. -/
def bansBackWrong : ChangeSpec := { name := "bansBack", fn := fun _ => fun
  | [d1, d2, d3] => { results := [.lit (.bool false)], args := [d1, d2, d3] }
  | _ => none }
def BansBackWrongFalsely : Prop := bansBackRow.holds Try.pinned (OpenSpec.ofChange bansBackWrong)

/- THE SECOND FORM. 'bulk': how many values and letters a reading holds, each counted each time it is reached (what is shared counts as often as it is met; a slice's spare places count too). A statement '..UptoSaid' is the law's where the arguments, and the package variables that the reading takes, are together of bulk at most 1048576: NARROWER than '..Said'. Prove '..Said' where nothing that the law and all that it calls make is longer than what came in: it says more and counts as full. Else prove '..UptoSaid'. A law counts once. -/
mutual
def uptoBulk {H : Type} : DataW H → Nat
  | .lit (.string bytes) => bytes.length + 1
  | .lit _ => 1
  | .nil => 1
  | .ptr d => uptoBulk d + 1
  | .slice elems spare => uptoBulkAll elems + uptoBulkAll spare + 1
  | .agg parts => uptoBulkAll parts + 1
  | .iface _ d => uptoBulk d + 1
  | .map entries => uptoBulkEntries entries + 1
  | .held _ => 1
def uptoBulkAll {H : Type} : List (DataW H) → Nat
  | [] => 0
  | d :: r => uptoBulk d + uptoBulkAll r
def uptoBulkEntries {H : Type} : List (Lit × DataW H) → Nat
  | [] => 0
  | x :: r => uptoBulkEntry x + uptoBulkEntries r
def uptoBulkEntry {H : Type} : Lit × DataW H → Nat
  | (.string bytes, d) => bytes.length + uptoBulk d + 1
  | (_, d) => uptoBulk d + 1
 end
def uptoSmall : (H : Type) → List (DataW H) → Bool := fun _ ds => decide (uptoBulkAll ds ≤ 1048576)
def OpenSpec.upto (s : _root_.Go.ChangeSpec) : _root_.Go.OpenSpec := { _root_.Go.OpenSpec.ofChange s with cond := some uptoSmall }

/-- 'snicketlaw14.WeighParts', WHERE WHAT IT READS IS OF BULK AT MOST 1048576: true; the input reads as it did. -/
def weighPartsUptoRow : OpenClaim := { program := "ytoainfnhmdcpoaa", sum := "8237f31557ff7e6728361163509be5227d3f9ddce912a22d5a45e5edf54eb0a1", func := "snicket/snicketlaw14.WeighParts", spec := "weighParts", named := ["math/bits.divideError", "math/bits.overflowError"], apart := false, narrowed := true }
def WeighPartsUptoSaid : Prop := weighPartsUptoRow.holds Try.pinned (OpenSpec.upto weighPartsSpec)

/-- 'snicketlaw14.WeighJoins', WHERE WHAT IT READS IS OF BULK AT MOST 1048576: true; the input reads as it did. -/
def weighJoinsUptoRow : OpenClaim := { program := "ytoainfnhmdcpoaa", sum := "8237f31557ff7e6728361163509be5227d3f9ddce912a22d5a45e5edf54eb0a1", func := "snicket/snicketlaw14.WeighJoins", spec := "weighJoins", named := ["math/bits.divideError", "math/bits.overflowError"], apart := false, narrowed := true }
def WeighJoinsUptoSaid : Prop := weighJoinsUptoRow.holds Try.pinned (OpenSpec.upto weighJoinsSpec)

/-- 'snicketlaw34.PlaceDirect', WHERE WHAT IT READS IS OF BULK AT MOST 1048576: true; the input reads as it did. -/
def placeDirectUptoRow : OpenClaim := { program := "ytoainfnhmdcpoaa", sum := "8237f31557ff7e6728361163509be5227d3f9ddce912a22d5a45e5edf54eb0a1", func := "snicket/snicketlaw34.PlaceDirect", spec := "placeDirect", inPlace := ["math/bits.Sub64", "math/bits.Add64"], unfollowed := true, recurses := true, named := ["math/bits.divideError", "math/bits.overflowError"], apart := false, narrowed := true }
def PlaceDirectUptoSaid : Prop := placeDirectUptoRow.holds Try.pinned (OpenSpec.upto placeDirectSpec)

/-- 'snicketlaw34.PlaceOthers', WHERE WHAT IT READS IS OF BULK AT MOST 1048576: true; the input reads as it did. -/
def placeOthersUptoRow : OpenClaim := { program := "ytoainfnhmdcpoaa", sum := "8237f31557ff7e6728361163509be5227d3f9ddce912a22d5a45e5edf54eb0a1", func := "snicket/snicketlaw34.PlaceOthers", spec := "placeOthers", inPlace := ["math/bits.Sub64", "math/bits.Add64"], unfollowed := true, recurses := true, named := ["math/bits.divideError", "math/bits.overflowError"], apart := false, narrowed := true }
def PlaceOthersUptoSaid : Prop := placeOthersUptoRow.holds Try.pinned (OpenSpec.upto placeOthersSpec)

/-- 'snicketlaw34.PlaceCosts', WHERE WHAT IT READS IS OF BULK AT MOST 1048576: true; the input reads as it did. -/
def placeCostsUptoRow : OpenClaim := { program := "ytoainfnhmdcpoaa", sum := "8237f31557ff7e6728361163509be5227d3f9ddce912a22d5a45e5edf54eb0a1", func := "snicket/snicketlaw34.PlaceCosts", spec := "placeCosts", inPlace := ["math/bits.Sub64", "math/bits.Add64"], unfollowed := true, recurses := true, named := ["math/bits.divideError", "math/bits.overflowError"], apart := false, narrowed := true }
def PlaceCostsUptoSaid : Prop := placeCostsUptoRow.holds Try.pinned (OpenSpec.upto placeCostsSpec)

/-- 'snicketlaw50.StatCounts', WHERE WHAT IT READS IS OF BULK AT MOST 1048576: true; the input reads as it did. -/
def statCountsUptoRow : OpenClaim := { program := "ytoainfnhmdcpoaa", sum := "8237f31557ff7e6728361163509be5227d3f9ddce912a22d5a45e5edf54eb0a1", func := "snicket/snicketlaw50.StatCounts", spec := "statCounts", inPlace := ["math/bits.Sub64", "math/bits.Add64"], unfollowed := true, recurses := true, named := ["math/bits.divideError", "math/bits.overflowError"], apart := false, narrowed := true }
def StatCountsUptoSaid : Prop := statCountsUptoRow.holds Try.pinned (OpenSpec.upto statCountsSpec)

/-- 'snicketlaw30.FarTurned', WHERE WHAT IT READS IS OF BULK AT MOST 1048576: true; the input reads as it did. -/
def farTurnedUptoRow : OpenClaim := { program := "ytoainfnhmdcpoaa", sum := "8237f31557ff7e6728361163509be5227d3f9ddce912a22d5a45e5edf54eb0a1", func := "snicket/snicketlaw30.FarTurned", spec := "farTurned", inPlace := ["math/bits.Sub64", "math/bits.Add64"], named := ["math/bits.divideError", "math/bits.overflowError"], apart := false, narrowed := true }
def FarTurnedUptoSaid : Prop := farTurnedUptoRow.holds Try.pinned (OpenSpec.upto farTurnedSpec)

/-- 'snicketlaw50.StatParts', WHERE WHAT IT READS IS OF BULK AT MOST 1048576: true; the input reads as it did. -/
def statPartsUptoRow : OpenClaim := { program := "ytoainfnhmdcpoaa", sum := "8237f31557ff7e6728361163509be5227d3f9ddce912a22d5a45e5edf54eb0a1", func := "snicket/snicketlaw50.StatParts", spec := "statParts", inPlace := ["math/bits.Sub64", "math/bits.Add64"], unfollowed := true, recurses := true, named := ["math/bits.divideError", "math/bits.overflowError"], apart := false, narrowed := true }
def StatPartsUptoSaid : Prop := statPartsUptoRow.holds Try.pinned (OpenSpec.upto statPartsSpec)

/-- 'snicketlaw30.FarAlong', WHERE WHAT IT READS IS OF BULK AT MOST 1048576: true; the input reads as it did. -/
def farAlongUptoRow : OpenClaim := { program := "ytoainfnhmdcpoaa", sum := "8237f31557ff7e6728361163509be5227d3f9ddce912a22d5a45e5edf54eb0a1", func := "snicket/snicketlaw30.FarAlong", spec := "farAlong", inPlace := ["math/bits.Sub64", "math/bits.Add64"], named := ["math/bits.divideError", "math/bits.overflowError"], apart := false, narrowed := true }
def FarAlongUptoSaid : Prop := farAlongUptoRow.holds Try.pinned (OpenSpec.upto farAlongSpec)

/-- 'snicketlaw31.GridCells', WHERE WHAT IT READS IS OF BULK AT MOST 1048576: true; the input reads as it did. -/
def gridCellsUptoRow : OpenClaim := { program := "ytoainfnhmdcpoaa", sum := "8237f31557ff7e6728361163509be5227d3f9ddce912a22d5a45e5edf54eb0a1", func := "snicket/snicketlaw31.GridCells", spec := "gridCells", inPlace := ["math/bits.Sub64", "math/bits.Add64"], unfollowed := true, recurses := true, named := ["math/bits.divideError", "math/bits.overflowError"], apart := false, narrowed := true }
def GridCellsUptoSaid : Prop := gridCellsUptoRow.holds Try.pinned (OpenSpec.upto gridCellsSpec)

/-- 'snicketlaw19.ArcsMay', WHERE WHAT IT READS IS OF BULK AT MOST 1048576: true; the input reads as it did. -/
def arcsMayUptoRow : OpenClaim := { program := "ytoainfnhmdcpoaa", sum := "8237f31557ff7e6728361163509be5227d3f9ddce912a22d5a45e5edf54eb0a1", func := "snicket/snicketlaw19.ArcsMay", spec := "arcsMay", inPlace := ["math/bits.Sub64", "math/bits.Add64"], unfollowed := true, recurses := true, named := ["math/bits.divideError", "math/bits.overflowError"], apart := false, narrowed := true }
def ArcsMayUptoSaid : Prop := arcsMayUptoRow.holds Try.pinned (OpenSpec.upto arcsMaySpec)

/-- 'snicketlaw19.ArcsBack', WHERE WHAT IT READS IS OF BULK AT MOST 1048576: true; the input reads as it did. -/
def arcsBackUptoRow : OpenClaim := { program := "ytoainfnhmdcpoaa", sum := "8237f31557ff7e6728361163509be5227d3f9ddce912a22d5a45e5edf54eb0a1", func := "snicket/snicketlaw19.ArcsBack", spec := "arcsBack", inPlace := ["math/bits.Sub64", "math/bits.Add64"], unfollowed := true, recurses := true, named := ["math/bits.divideError", "math/bits.overflowError"], apart := false, narrowed := true }
def ArcsBackUptoSaid : Prop := arcsBackUptoRow.holds Try.pinned (OpenSpec.upto arcsBackSpec)

/-- 'snicketlaw17.BansBack', WHERE WHAT IT READS IS OF BULK AT MOST 1048576: true; the input reads as it did. -/
def bansBackUptoRow : OpenClaim := { program := "ytoainfnhmdcpoaa", sum := "8237f31557ff7e6728361163509be5227d3f9ddce912a22d5a45e5edf54eb0a1", func := "snicket/snicketlaw17.BansBack", spec := "bansBack", inPlace := ["math/bits.Sub64", "math/bits.Add64", "slices.overlaps[snicket/api.Ban]"], unfollowed := true, recurses := true, named := ["math/bits.divideError", "math/bits.overflowError"], apart := false, narrowed := true }
def BansBackUptoSaid : Prop := bansBackUptoRow.holds Try.pinned (OpenSpec.upto bansBackSpec)

end Rows
end Go.Proofs.Ytoainfnhmdcpoaa
