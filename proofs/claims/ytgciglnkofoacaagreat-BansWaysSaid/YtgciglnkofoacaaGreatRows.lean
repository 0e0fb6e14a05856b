/-
  No cell of these rows narrows 'for every input' (looked for: loops, veiled, ifaces, maps, wideKeys, modest, calm, conditions, laid).
  DERIVED. THE GIVEN ROWS OF THIS SEAT. 5 by the template 'for every input the law returns true; each argument reads behind the call as it read before'; 0 by the template 'total and deterministic' (their statements: YtgciglnkofoacaaGreatTotals.lean).
  GIVEN WITH THE SEED: the statements are not yours to turn. If you find one false, say at which input.
  Laid BY PROGRAM, IN A SANDBOX (cutbox-rows.mjs): the forced cells as the released guide's own fill.sh prints them over the translation 98e1b268978538b9… (all of the seat's roots in one cut). By AI agents, Wed Nov 11 2026. No macro, syntax, notation, axiom, sorry.
-/
import Derived.Test.YtgciglnkofoacaaGreatChecked
import GoSem.Claim
import GoSem.ClaimJoined
import GoSem.ClaimMapViews
import Derived.JoinedTies
import Derived.KernelRfl
namespace Go.Proofs.YtgciglnkofoacaaGreat
/- THE CELL 'sum', in the pinned program and in every row, IS THE sha256 OF THE DUMP (.gsa) THAT YtgciglnkofoacaaGreatProg.lean LOADS. Nothing in Lean hashes anything: it is a label: what it is worth is what the hold of that sum in a sandbox is worth. -/
noncomputable def Tryz.pinned : Pinned := { name := "ytgciglnkofoacaagreat", sum := "98e1b268978538b920b49dd9f1020445a89f6200a91132a6c68618e21a2f4689", checked := Tryz.checked }
namespace Rows
def none {H : Type} : Left H := { results := [], args := [] }

/-- 'snicketlaw18.TurnsMay': WHATEVER THE INPUT: true; the input reads as it did. -/
def turnsMaySpec : ChangeSpec := { name := "turnsMay", fn := fun _ => fun
  | [d1, d2, d3] => { results := [.lit (.bool true)], args := [d1, d2, d3] }
  | _ => none }
def turnsMayRow : OpenClaim := { program := "ytgciglnkofoacaagreat", sum := "98e1b268978538b920b49dd9f1020445a89f6200a91132a6c68618e21a2f4689", func := "snicket/snicketlaw18.TurnsMay", spec := "turnsMay", inPlace := ["math/bits.Sub64", "math/bits.Add64"], unfollowed := true, recurses := true, named := ["math/bits.divideError", "math/bits.overflowError"], apart := false }
def TurnsMaySaid : Prop := turnsMayRow.holds Tryz.pinned (OpenSpec.ofChange turnsMaySpec)

/-- ITS FALSE NEIGHBOUR: 'it returns false'. Refute it at one input. -/
def turnsMayWrong : ChangeSpec := { name := "turnsMay", fn := fun _ => fun
  | [d1, d2, d3] => { results := [.lit (.bool false)], args := [d1, d2, d3] }
  | _ => none }
def TurnsMayWrongFalsely : Prop := turnsMayRow.holds Tryz.pinned (OpenSpec.ofChange turnsMayWrong)

/-- 'snicketlaw18.TurnsPath': WHATEVER THE INPUT: true; the input reads as it did. -/
def turnsPathSpec : ChangeSpec := { name := "turnsPath", fn := fun _ => fun
  | [d1, d2, d3] => { results := [.lit (.bool true)], args := [d1, d2, d3] }
  | _ => none }
def turnsPathRow : OpenClaim := { program := "ytgciglnkofoacaagreat", sum := "98e1b268978538b920b49dd9f1020445a89f6200a91132a6c68618e21a2f4689", func := "snicket/snicketlaw18.TurnsPath", spec := "turnsPath", inPlace := ["math/bits.Sub64", "math/bits.Add64"], unfollowed := true, recurses := true, named := ["math/bits.divideError", "math/bits.overflowError"], apart := false }
def TurnsPathSaid : Prop := turnsPathRow.holds Tryz.pinned (OpenSpec.ofChange turnsPathSpec)

/-- ITS FALSE NEIGHBOUR: 'it returns false'. Refute it at one input. -/
def turnsPathWrong : ChangeSpec := { name := "turnsPath", fn := fun _ => fun
  | [d1, d2, d3] => { results := [.lit (.bool false)], args := [d1, d2, d3] }
  | _ => none }
def TurnsPathWrongFalsely : Prop := turnsPathRow.holds Tryz.pinned (OpenSpec.ofChange turnsPathWrong)

/-- 'snicketlaw18.TurnsFrom': WHATEVER THE INPUT: true; the input reads as it did. -/
def turnsFromSpec : ChangeSpec := { name := "turnsFrom", fn := fun _ => fun
  | [d1, d2, d3] => { results := [.lit (.bool true)], args := [d1, d2, d3] }
  | _ => none }
def turnsFromRow : OpenClaim := { program := "ytgciglnkofoacaagreat", sum := "98e1b268978538b920b49dd9f1020445a89f6200a91132a6c68618e21a2f4689", func := "snicket/snicketlaw18.TurnsFrom", spec := "turnsFrom", inPlace := ["math/bits.Sub64", "math/bits.Add64"], unfollowed := true, recurses := true, named := ["math/bits.divideError", "math/bits.overflowError"], apart := false }
def TurnsFromSaid : Prop := turnsFromRow.holds Tryz.pinned (OpenSpec.ofChange turnsFromSpec)

/-- ITS FALSE NEIGHBOUR: 'it returns false'. Refute it at one input. -/
def turnsFromWrong : ChangeSpec := { name := "turnsFrom", fn := fun _ => fun
  | [d1, d2, d3] => { results := [.lit (.bool false)], args := [d1, d2, d3] }
  | _ => none }
def TurnsFromWrongFalsely : Prop := turnsFromRow.holds Tryz.pinned (OpenSpec.ofChange turnsFromWrong)

/-- 'snicketlaw17.BansWays': WHATEVER THE INPUT: true; the input reads as it did. -/
def bansWaysSpec : ChangeSpec := { name := "bansWays", fn := fun _ => fun
  | [d1, d2, d3] => { results := [.lit (.bool true)], args := [d1, d2, d3] }
  | _ => none }
def bansWaysRow : OpenClaim := { program := "ytgciglnkofoacaagreat", sum := "98e1b268978538b920b49dd9f1020445a89f6200a91132a6c68618e21a2f4689", func := "snicket/snicketlaw17.BansWays", spec := "bansWays", inPlace := ["math/bits.Sub64", "math/bits.Add64", "slices.overlaps[snicket/api.Ban]"], unfollowed := true, recurses := true, named := ["math/bits.divideError", "math/bits.overflowError"], apart := false }
def BansWaysSaid : Prop := bansWaysRow.holds Tryz.pinned (OpenSpec.ofChange bansWaysSpec)

/-- ITS FALSE NEIGHBOUR: 'it returns false'. Refute it at one input. -/
def bansWaysWrong : ChangeSpec := { name := "bansWays", fn := fun _ => fun
  | [d1, d2, d3] => { results := [.lit (.bool false)], args := [d1, d2, d3] }
  | _ => none }
def BansWaysWrongFalsely : Prop := bansWaysRow.holds Tryz.pinned (OpenSpec.ofChange bansWaysWrong)

/-- 'snicketlaw17.BansAdds': WHATEVER THE INPUT: true; the input reads as it did. -/
def bansAddsSpec : ChangeSpec := { name := "bansAdds", fn := fun _ => fun
  | [d1, d2, d3] => { results := [.lit (.bool true)], args := [d1, d2, d3] }
  | _ => none }
def bansAddsRow : OpenClaim := { program := "ytgciglnkofoacaagreat", sum := "98e1b268978538b920b49dd9f1020445a89f6200a91132a6c68618e21a2f4689", func := "snicket/snicketlaw17.BansAdds", spec := "bansAdds", inPlace := ["math/bits.Sub64", "math/bits.Add64", "slices.overlaps[snicket/api.Ban]"], unfollowed := true, recurses := true, named := ["math/bits.divideError", "math/bits.overflowError"], apart := false }
def BansAddsSaid : Prop := bansAddsRow.holds Tryz.pinned (OpenSpec.ofChange bansAddsSpec)

/-- ITS FALSE NEIGHBOUR: 'it returns false'. Refute it at one input. -/
def bansAddsWrong : ChangeSpec := { name := "bansAdds", fn := fun _ => fun
  | [d1, d2, d3] => { results := [.lit (.bool false)], args := [d1, d2, d3] }
  | _ => none }
def BansAddsWrongFalsely : Prop := bansAddsRow.holds Tryz.pinned (OpenSpec.ofChange bansAddsWrong)

/- THE SECOND FORM. 'bulk': how many values and letters a reading holds, each counted each time it is reached (what is shared counts as often as it is met; a slice's spare places count too). A statement '..UptoSaid' is the law's where the arguments, and the package variables that the reading takes, are together of bulk at most 1048576: NARROWER than '..Said'. Prove '..Said' where nothing that the law and all that it calls make is longer than what came in: it says more and counts as full. Else prove '..UptoSaid'. A law counts once. -/
mutual
def uptoBulk {H : Type} : DataW H → Nat
  | .lit (.string bytes) => bytes.length + 1
  | .lit _ => 1
  | .nil => 1
  | .ptr d => uptoBulk d + 1
  | .slice elems spare => uptoBulkAll elems + uptoBulkAll spare + 1
  | .agg parts => uptoBulkAll parts + 1
  | .iface _ d => uptoBulk d + 1
  | .map entries => uptoBulkEntries entries + 1
  | .held _ => 1
def uptoBulkAll {H : Type} : List (DataW H) → Nat
  | [] => 0
  | d :: r => uptoBulk d + uptoBulkAll r
def uptoBulkEntries {H : Type} : List (Lit × DataW H) → Nat
  | [] => 0
  | x :: r => uptoBulkEntry x + uptoBulkEntries r
def uptoBulkEntry {H : Type} : Lit × DataW H → Nat
  | (.string bytes, d) => bytes.length + uptoBulk d + 1
  | (_, d) => uptoBulk d + 1
 end
def uptoSmall : (H : Type) → List (DataW H) → Bool := fun _ ds => decide (uptoBulkAll ds ≤ 1048576)
def OpenSpec.upto (s : _root_.Go.ChangeSpec) : _root_.Go.OpenSpec := { _root_.Go.OpenSpec.ofChange s with cond := some uptoSmall }

/-- 'snicketlaw18.TurnsMay', WHERE WHAT IT READS IS OF BULK AT MOST 1048576: true; the input reads as it did. -/
def turnsMayUptoRow : OpenClaim := { program := "ytgciglnkofoacaagreat", sum := "98e1b268978538b920b49dd9f1020445a89f6200a91132a6c68618e21a2f4689", func := "snicket/snicketlaw18.TurnsMay", spec := "turnsMay", inPlace := ["math/bits.Sub64", "math/bits.Add64"], unfollowed := true, recurses := true, named := ["math/bits.divideError", "math/bits.overflowError"], apart := false, narrowed := true }
def TurnsMayUptoSaid : Prop := turnsMayUptoRow.holds Tryz.pinned (OpenSpec.upto turnsMaySpec)

/-- 'snicketlaw18.TurnsPath', WHERE WHAT IT READS IS OF BULK AT MOST 1048576: true; the input reads as it did. -/
def turnsPathUptoRow : OpenClaim := { program := "ytgciglnkofoacaagreat", sum := "98e1b268978538b920b49dd9f1020445a89f6200a91132a6c68618e21a2f4689", func := "snicket/snicketlaw18.TurnsPath", spec := "turnsPath", inPlace := ["math/bits.Sub64", "math/bits.Add64"], unfollowed := true, recurses := true, named := ["math/bits.divideError", "math/bits.overflowError"], apart := false, narrowed := true }
def TurnsPathUptoSaid : Prop := turnsPathUptoRow.holds Tryz.pinned (OpenSpec.upto turnsPathSpec)

/-- 'snicketlaw18.TurnsFrom', WHERE WHAT IT READS IS OF BULK AT MOST 1048576: true; the input reads as it did. -/
def turnsFromUptoRow : OpenClaim := { program := "ytgciglnkofoacaagreat", sum := "98e1b268978538b920b49dd9f1020445a89f6200a91132a6c68618e21a2f4689", func := "snicket/snicketlaw18.TurnsFrom", spec := "turnsFrom", inPlace := ["math/bits.Sub64", "math/bits.Add64"], unfollowed := true, recurses := true, named := ["math/bits.divideError", "math/bits.overflowError"], apart := false, narrowed := true }
def TurnsFromUptoSaid : Prop := turnsFromUptoRow.holds Tryz.pinned (OpenSpec.upto turnsFromSpec)

/-- 'snicketlaw17.BansWays', WHERE WHAT IT READS IS OF BULK AT MOST 1048576: true; the input reads as it did. -/
def bansWaysUptoRow : OpenClaim := { program := "ytgciglnkofoacaagreat", sum := "98e1b268978538b920b49dd9f1020445a89f6200a91132a6c68618e21a2f4689", func := "snicket/snicketlaw17.BansWays", spec := "bansWays", inPlace := ["math/bits.Sub64", "math/bits.Add64", "slices.overlaps[snicket/api.Ban]"], unfollowed := true, recurses := true, named := ["math/bits.divideError", "math/bits.overflowError"], apart := false, narrowed := true }
def BansWaysUptoSaid : Prop := bansWaysUptoRow.holds Tryz.pinned (OpenSpec.upto bansWaysSpec)

/-- 'snicketlaw17.BansAdds', WHERE WHAT IT READS IS OF BULK AT MOST 1048576: true; the input reads as it did. -/
def bansAddsUptoRow : OpenClaim := { program := "ytgciglnkofoacaagreat", sum := "98e1b268978538b920b49dd9f1020445a89f6200a91132a6c68618e21a2f4689", func := "snicket/snicketlaw17.BansAdds", spec := "bansAdds", inPlace := ["math/bits.Sub64", "math/bits.Add64", "slices.overlaps[snicket/api.Ban]"], unfollowed := true, recurses := true, named := ["math/bits.divideError", "math/bits.overflowError"], apart := false, narrowed := true }
def BansAddsUptoSaid : Prop := bansAddsUptoRow.holds Tryz.pinned (OpenSpec.upto bansAddsSpec)

end Rows
end Go.Proofs.YtgciglnkofoacaaGreat
