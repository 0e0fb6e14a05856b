/-
  No cell of these rows narrows 'for every input' (looked for: loops, veiled, ifaces, maps, wideKeys, modest, calm, conditions, laid).
  DERIVED. THE GIVEN ROWS OF THIS SEAT. 18 by the template 'for every input the law returns true; each argument reads behind the call as it read before'; 0 by the template 'total and deterministic' (their statements: YtalaffabcnccgaaTotals.lean).
  GIVEN WITH THE SEED: the statements are not yours to turn. If you find one false, say at which input.
  Laid BY PROGRAM, IN A SANDBOX (cutbox-rows.mjs): the forced cells as the released guide's own fill.sh prints them over the translation aa230e7a1cc91739… (all of the seat's roots in one cut). By AI agents, Wed Nov 11 2026. No macro, syntax, notation, axiom, sorry.
-/
import Derived.Test.YtalaffabcnccgaaChecked
import GoSem.Claim
import GoSem.ClaimJoined
import GoSem.ClaimMapViews
import Derived.JoinedTies
import Derived.KernelRfl
namespace Go.Proofs.Ytalaffabcnccgaa
/- THE CELL 'sum', in the pinned program and in every row, IS THE sha256 OF THE DUMP (.gsa) THAT YtalaffabcnccgaaProg.lean LOADS. Nothing in Lean hashes anything: it is a label: what it is worth is what the hold of that sum in a sandbox is worth. -/
noncomputable def Try.pinned : Pinned := { name := "ytalaffabcnccgaa", sum := "aa230e7a1cc91739960b06d0fd72fb6296ae05ccca6ca655ebd5cbce978603b7", checked := Try.checked }
namespace Rows
def none {H : Type} : Left H := { results := [], args := [] }

/-- 'snicketlaw02.WordTwos': WHATEVER THE INPUT: true; the input reads as it did. -/
def wordTwosSpec : ChangeSpec := { name := "wordTwos", fn := fun _ => fun
  | [d] => { results := [.lit (.bool true)], args := [d] }
  | _ => none }
def wordTwosRow : OpenClaim := { program := "ytalaffabcnccgaa", sum := "aa230e7a1cc91739960b06d0fd72fb6296ae05ccca6ca655ebd5cbce978603b7", func := "snicket/snicketlaw02.WordTwos", spec := "wordTwos", inPlace := ["math/bits.Add64"], apart := false }
def WordTwosSaid : Prop := wordTwosRow.holds Try.pinned (OpenSpec.ofChange wordTwosSpec)

/-- ITS FALSE NEIGHBOUR: 'it returns false'. Refute it at one input. -/
def wordTwosWrong : ChangeSpec := { name := "wordTwos", fn := fun _ => fun
  | [d] => { results := [.lit (.bool false)], args := [d] }
  | _ => none }
def WordTwosWrongFalsely : Prop := wordTwosRow.holds Try.pinned (OpenSpec.ofChange wordTwosWrong)

/-- 'snicketlaw02.WordAdds': WHATEVER THE INPUT: true; the input reads as it did. -/
def wordAddsSpec : ChangeSpec := { name := "wordAdds", fn := fun _ => fun
  | [d1, d2, d3] => { results := [.lit (.bool true)], args := [d1, d2, d3] }
  | _ => none }
def wordAddsRow : OpenClaim := { program := "ytalaffabcnccgaa", sum := "aa230e7a1cc91739960b06d0fd72fb6296ae05ccca6ca655ebd5cbce978603b7", func := "snicket/snicketlaw02.WordAdds", spec := "wordAdds", inPlace := ["math/bits.Add64", "math/bits.Sub64"], apart := false }
def WordAddsSaid : Prop := wordAddsRow.holds Try.pinned (OpenSpec.ofChange wordAddsSpec)

/-- ITS FALSE NEIGHBOUR: 'it returns false'. Refute it at one input. -/
def wordAddsWrong : ChangeSpec := { name := "wordAdds", fn := fun _ => fun
  | [d1, d2, d3] => { results := [.lit (.bool false)], args := [d1, d2, d3] }
  | _ => none }
def WordAddsWrongFalsely : Prop := wordAddsRow.holds Try.pinned (OpenSpec.ofChange wordAddsWrong)

/-- 'snicketlaw02.WordMuls': WHATEVER THE INPUT: true; the input reads as it did. -/
def wordMulsSpec : ChangeSpec := { name := "wordMuls", fn := fun _ => fun
  | [d1, d2, d3] => { results := [.lit (.bool true)], args := [d1, d2, d3] }
  | _ => none }
def wordMulsRow : OpenClaim := { program := "ytalaffabcnccgaa", sum := "aa230e7a1cc91739960b06d0fd72fb6296ae05ccca6ca655ebd5cbce978603b7", func := "snicket/snicketlaw02.WordMuls", spec := "wordMuls", inPlace := ["math/bits.Add64"], named := ["math/bits.divideError", "math/bits.overflowError"], apart := false }
def WordMulsSaid : Prop := wordMulsRow.holds Try.pinned (OpenSpec.ofChange wordMulsSpec)

/-- ITS FALSE NEIGHBOUR: 'it returns false'. Refute it at one input. -/
def wordMulsWrong : ChangeSpec := { name := "wordMuls", fn := fun _ => fun
  | [d1, d2, d3] => { results := [.lit (.bool false)], args := [d1, d2, d3] }
  | _ => none }
def WordMulsWrongFalsely : Prop := wordMulsRow.holds Try.pinned (OpenSpec.ofChange wordMulsWrong)

/-- 'snicketlaw03.WideLaws': WHATEVER THE INPUT: true; the input reads as it did. -/
def wideLawsSpec : ChangeSpec := { name := "wideLaws", fn := fun _ => fun
  | [d1, d2, d3] => { results := [.lit (.bool true)], args := [d1, d2, d3] }
  | _ => none }
def wideLawsRow : OpenClaim := { program := "ytalaffabcnccgaa", sum := "aa230e7a1cc91739960b06d0fd72fb6296ae05ccca6ca655ebd5cbce978603b7", func := "snicket/snicketlaw03.WideLaws", spec := "wideLaws", inPlace := ["math/bits.Add64", "math/bits.Sub64"], apart := false }
def WideLawsSaid : Prop := wideLawsRow.holds Try.pinned (OpenSpec.ofChange wideLawsSpec)

/-- ITS FALSE NEIGHBOUR: 'it returns false'. Refute it at one input. -/
def wideLawsWrong : ChangeSpec := { name := "wideLaws", fn := fun _ => fun
  | [d1, d2, d3] => { results := [.lit (.bool false)], args := [d1, d2, d3] }
  | _ => none }
def WideLawsWrongFalsely : Prop := wideLawsRow.holds Try.pinned (OpenSpec.ofChange wideLawsWrong)

/-- 'snicketlaw03.WideBack': WHATEVER THE INPUT: true; the input reads as it did. -/
def wideBackSpec : ChangeSpec := { name := "wideBack", fn := fun _ => fun
  | [d1, d2, d3] => { results := [.lit (.bool true)], args := [d1, d2, d3] }
  | _ => none }
def wideBackRow : OpenClaim := { program := "ytalaffabcnccgaa", sum := "aa230e7a1cc91739960b06d0fd72fb6296ae05ccca6ca655ebd5cbce978603b7", func := "snicket/snicketlaw03.WideBack", spec := "wideBack", inPlace := ["math/bits.Add64", "math/bits.Sub64"], apart := false }
def WideBackSaid : Prop := wideBackRow.holds Try.pinned (OpenSpec.ofChange wideBackSpec)

/-- ITS FALSE NEIGHBOUR: 'it returns false'. Refute it at one input. -/
def wideBackWrong : ChangeSpec := { name := "wideBack", fn := fun _ => fun
  | [d1, d2, d3] => { results := [.lit (.bool false)], args := [d1, d2, d3] }
  | _ => none }
def WideBackWrongFalsely : Prop := wideBackRow.holds Try.pinned (OpenSpec.ofChange wideBackWrong)

/-- 'snicketlaw03.WideShifts': WHATEVER THE INPUT: true; the input reads as it did. -/
def wideShiftsSpec : ChangeSpec := { name := "wideShifts", fn := fun _ => fun
  | [d1, d2, d3] => { results := [.lit (.bool true)], args := [d1, d2, d3] }
  | _ => none }
def wideShiftsRow : OpenClaim := { program := "ytalaffabcnccgaa", sum := "aa230e7a1cc91739960b06d0fd72fb6296ae05ccca6ca655ebd5cbce978603b7", func := "snicket/snicketlaw03.WideShifts", spec := "wideShifts", inPlace := ["math/bits.Add64", "math/bits.Sub64"], apart := false }
def WideShiftsSaid : Prop := wideShiftsRow.holds Try.pinned (OpenSpec.ofChange wideShiftsSpec)

/-- ITS FALSE NEIGHBOUR: 'it returns false'. Refute it at one input. -/
def wideShiftsWrong : ChangeSpec := { name := "wideShifts", fn := fun _ => fun
  | [d1, d2, d3] => { results := [.lit (.bool false)], args := [d1, d2, d3] }
  | _ => none }
def WideShiftsWrongFalsely : Prop := wideShiftsRow.holds Try.pinned (OpenSpec.ofChange wideShiftsWrong)

/-- 'snicketlaw03.WideAdds': WHATEVER THE INPUT: true; the input reads as it did. -/
def wideAddsSpec : ChangeSpec := { name := "wideAdds", fn := fun _ => fun
  | [d1, d2] => { results := [.lit (.bool true)], args := [d1, d2] }
  | _ => none }
def wideAddsRow : OpenClaim := { program := "ytalaffabcnccgaa", sum := "aa230e7a1cc91739960b06d0fd72fb6296ae05ccca6ca655ebd5cbce978603b7", func := "snicket/snicketlaw03.WideAdds", spec := "wideAdds", inPlace := ["math/bits.Add64", "math/bits.Sub64"], apart := false }
def WideAddsSaid : Prop := wideAddsRow.holds Try.pinned (OpenSpec.ofChange wideAddsSpec)

/-- ITS FALSE NEIGHBOUR: 'it returns false'. Refute it at one input. -/
def wideAddsWrong : ChangeSpec := { name := "wideAdds", fn := fun _ => fun
  | [d1, d2] => { results := [.lit (.bool false)], args := [d1, d2] }
  | _ => none }
def WideAddsWrongFalsely : Prop := wideAddsRow.holds Try.pinned (OpenSpec.ofChange wideAddsWrong)

/-- 'snicketlaw04.QuotGcd': WHATEVER THE INPUT: true; the input reads as it did. -/
def quotGcdSpec : ChangeSpec := { name := "quotGcd", fn := fun _ => fun
  | [d1, d2, d3] => { results := [.lit (.bool true)], args := [d1, d2, d3] }
  | _ => none }
def quotGcdRow : OpenClaim := { program := "ytalaffabcnccgaa", sum := "aa230e7a1cc91739960b06d0fd72fb6296ae05ccca6ca655ebd5cbce978603b7", func := "snicket/snicketlaw04.QuotGcd", spec := "quotGcd", inPlace := ["math/bits.Sub64", "math/bits.Add64"], named := ["math/bits.divideError", "math/bits.overflowError"], apart := false }
def QuotGcdSaid : Prop := quotGcdRow.holds Try.pinned (OpenSpec.ofChange quotGcdSpec)

/-- ITS FALSE NEIGHBOUR: 'it returns false'. Refute it at one input. -/
def quotGcdWrong : ChangeSpec := { name := "quotGcd", fn := fun _ => fun
  | [d1, d2, d3] => { results := [.lit (.bool false)], args := [d1, d2, d3] }
  | _ => none }
def QuotGcdWrongFalsely : Prop := quotGcdRow.holds Try.pinned (OpenSpec.ofChange quotGcdWrong)

/-- 'snicketlaw05.SignSmall': WHATEVER THE INPUT: true; the input reads as it did. -/
def signSmallSpec : ChangeSpec := { name := "signSmall", fn := fun _ => fun
  | [d1, d2] => { results := [.lit (.bool true)], args := [d1, d2] }
  | _ => none }
def signSmallRow : OpenClaim := { program := "ytalaffabcnccgaa", sum := "aa230e7a1cc91739960b06d0fd72fb6296ae05ccca6ca655ebd5cbce978603b7", func := "snicket/snicketlaw05.SignSmall", spec := "signSmall", inPlace := ["math/bits.Sub64", "math/bits.Add64"], named := ["math/bits.divideError", "math/bits.overflowError"], apart := false }
def SignSmallSaid : Prop := signSmallRow.holds Try.pinned (OpenSpec.ofChange signSmallSpec)

/-- ITS FALSE NEIGHBOUR: 'it returns false'. Refute it at one input. -/
def signSmallWrong : ChangeSpec := { name := "signSmall", fn := fun _ => fun
  | [d1, d2] => { results := [.lit (.bool false)], args := [d1, d2] }
  | _ => none }
def SignSmallWrongFalsely : Prop := signSmallRow.holds Try.pinned (OpenSpec.ofChange signSmallWrong)

/-- 'snicketlaw04.QuotOver': WHATEVER THE INPUT: true; the input reads as it did. -/
def quotOverSpec : ChangeSpec := { name := "quotOver", fn := fun _ => fun
  | [d1, d2] => { results := [.lit (.bool true)], args := [d1, d2] }
  | _ => none }
def quotOverRow : OpenClaim := { program := "ytalaffabcnccgaa", sum := "aa230e7a1cc91739960b06d0fd72fb6296ae05ccca6ca655ebd5cbce978603b7", func := "snicket/snicketlaw04.QuotOver", spec := "quotOver", inPlace := ["math/bits.Sub64", "math/bits.Add64"], named := ["math/bits.divideError", "math/bits.overflowError"], apart := false }
def QuotOverSaid : Prop := quotOverRow.holds Try.pinned (OpenSpec.ofChange quotOverSpec)

/-- ITS FALSE NEIGHBOUR: 'it returns false'. Refute it at one input. -/
def quotOverWrong : ChangeSpec := { name := "quotOver", fn := fun _ => fun
  | [d1, d2] => { results := [.lit (.bool false)], args := [d1, d2] }
  | _ => none }
def QuotOverWrongFalsely : Prop := quotOverRow.holds Try.pinned (OpenSpec.ofChange quotOverWrong)

/-- 'snicketlaw04.QuotRoot': WHATEVER THE INPUT: true; the input reads as it did. -/
def quotRootSpec : ChangeSpec := { name := "quotRoot", fn := fun _ => fun
  | [d] => { results := [.lit (.bool true)], args := [d] }
  | _ => none }
def quotRootRow : OpenClaim := { program := "ytalaffabcnccgaa", sum := "aa230e7a1cc91739960b06d0fd72fb6296ae05ccca6ca655ebd5cbce978603b7", func := "snicket/snicketlaw04.QuotRoot", spec := "quotRoot", inPlace := ["math/bits.Add64", "math/bits.Sub64"], named := ["math/bits.divideError", "math/bits.overflowError"], apart := false }
def QuotRootSaid : Prop := quotRootRow.holds Try.pinned (OpenSpec.ofChange quotRootSpec)

/-- ITS FALSE NEIGHBOUR: 'it returns false'. Refute it at one input. -/
def quotRootWrong : ChangeSpec := { name := "quotRoot", fn := fun _ => fun
  | [d] => { results := [.lit (.bool false)], args := [d] }
  | _ => none }
def QuotRootWrongFalsely : Prop := quotRootRow.holds Try.pinned (OpenSpec.ofChange quotRootWrong)

/-- 'snicketlaw06.RatioParts': WHATEVER THE INPUT: true; the input reads as it did. -/
def ratioPartsSpec : ChangeSpec := { name := "ratioParts", fn := fun _ => fun
  | [d] => { results := [.lit (.bool true)], args := [d] }
  | _ => none }
def ratioPartsRow : OpenClaim := { program := "ytalaffabcnccgaa", sum := "aa230e7a1cc91739960b06d0fd72fb6296ae05ccca6ca655ebd5cbce978603b7", func := "snicket/snicketlaw06.RatioParts", spec := "ratioParts", inPlace := ["math/bits.Sub64", "math/bits.Add64"], named := ["math/bits.divideError", "math/bits.overflowError"], apart := false }
def RatioPartsSaid : Prop := ratioPartsRow.holds Try.pinned (OpenSpec.ofChange ratioPartsSpec)

/-- ITS FALSE NEIGHBOUR: 'it returns false'. Refute it at one input. -/
def ratioPartsWrong : ChangeSpec := { name := "ratioParts", fn := fun _ => fun
  | [d] => { results := [.lit (.bool false)], args := [d] }
  | _ => none }
def RatioPartsWrongFalsely : Prop := ratioPartsRow.holds Try.pinned (OpenSpec.ofChange ratioPartsWrong)

/-- 'snicketlaw06.RatioOf': WHATEVER THE INPUT: true; the input reads as it did. -/
def ratioOfSpec : ChangeSpec := { name := "ratioOf", fn := fun _ => fun
  | [d1, d2, d3] => { results := [.lit (.bool true)], args := [d1, d2, d3] }
  | _ => none }
def ratioOfRow : OpenClaim := { program := "ytalaffabcnccgaa", sum := "aa230e7a1cc91739960b06d0fd72fb6296ae05ccca6ca655ebd5cbce978603b7", func := "snicket/snicketlaw06.RatioOf", spec := "ratioOf", inPlace := ["math/bits.Sub64", "math/bits.Add64"], named := ["math/bits.divideError", "math/bits.overflowError"], apart := false }
def RatioOfSaid : Prop := ratioOfRow.holds Try.pinned (OpenSpec.ofChange ratioOfSpec)

/-- ITS FALSE NEIGHBOUR: 'it returns false'. Refute it at one input. -/
def ratioOfWrong : ChangeSpec := { name := "ratioOf", fn := fun _ => fun
  | [d1, d2, d3] => { results := [.lit (.bool false)], args := [d1, d2, d3] }
  | _ => none }
def RatioOfWrongFalsely : Prop := ratioOfRow.holds Try.pinned (OpenSpec.ofChange ratioOfWrong)

/-- 'snicketlaw05.SignLaws': WHATEVER THE INPUT: true; the input reads as it did. -/
def signLawsSpec : ChangeSpec := { name := "signLaws", fn := fun _ => fun
  | [d1, d2, d3] => { results := [.lit (.bool true)], args := [d1, d2, d3] }
  | _ => none }
def signLawsRow : OpenClaim := { program := "ytalaffabcnccgaa", sum := "aa230e7a1cc91739960b06d0fd72fb6296ae05ccca6ca655ebd5cbce978603b7", func := "snicket/snicketlaw05.SignLaws", spec := "signLaws", inPlace := ["math/bits.Add64", "math/bits.Sub64"], named := ["math/bits.divideError", "math/bits.overflowError"], apart := false }
def SignLawsSaid : Prop := signLawsRow.holds Try.pinned (OpenSpec.ofChange signLawsSpec)

/-- ITS FALSE NEIGHBOUR: 'it returns false'. Refute it at one input. -/
def signLawsWrong : ChangeSpec := { name := "signLaws", fn := fun _ => fun
  | [d1, d2, d3] => { results := [.lit (.bool false)], args := [d1, d2, d3] }
  | _ => none }
def SignLawsWrongFalsely : Prop := signLawsRow.holds Try.pinned (OpenSpec.ofChange signLawsWrong)

/-- 'snicketlaw05.SignAdds': WHATEVER THE INPUT: true; the input reads as it did. -/
def signAddsSpec : ChangeSpec := { name := "signAdds", fn := fun _ => fun
  | [d1, d2] => { results := [.lit (.bool true)], args := [d1, d2] }
  | _ => none }
def signAddsRow : OpenClaim := { program := "ytalaffabcnccgaa", sum := "aa230e7a1cc91739960b06d0fd72fb6296ae05ccca6ca655ebd5cbce978603b7", func := "snicket/snicketlaw05.SignAdds", spec := "signAdds", inPlace := ["math/bits.Add64", "math/bits.Sub64"], named := ["math/bits.divideError", "math/bits.overflowError"], apart := false }
def SignAddsSaid : Prop := signAddsRow.holds Try.pinned (OpenSpec.ofChange signAddsSpec)

/-- ITS FALSE NEIGHBOUR: 'it returns false'. Refute it at one input. -/
def signAddsWrong : ChangeSpec := { name := "signAdds", fn := fun _ => fun
  | [d1, d2] => { results := [.lit (.bool false)], args := [d1, d2] }
  | _ => none }
def SignAddsWrongFalsely : Prop := signAddsRow.holds Try.pinned (OpenSpec.ofChange signAddsWrong)

/-- 'snicketlaw05.SignOver': WHATEVER THE INPUT: true; the input reads as it did. -/
def signOverSpec : ChangeSpec := { name := "signOver", fn := fun _ => fun
  | [d1, d2] => { results := [.lit (.bool true)], args := [d1, d2] }
  | _ => none }
def signOverRow : OpenClaim := { program := "ytalaffabcnccgaa", sum := "aa230e7a1cc91739960b06d0fd72fb6296ae05ccca6ca655ebd5cbce978603b7", func := "snicket/snicketlaw05.SignOver", spec := "signOver", inPlace := ["math/bits.Sub64", "math/bits.Add64"], named := ["math/bits.divideError", "math/bits.overflowError"], apart := false }
def SignOverSaid : Prop := signOverRow.holds Try.pinned (OpenSpec.ofChange signOverSpec)

/-- ITS FALSE NEIGHBOUR: 'it returns false'. Refute it at one input. -/
def signOverWrong : ChangeSpec := { name := "signOver", fn := fun _ => fun
  | [d1, d2] => { results := [.lit (.bool false)], args := [d1, d2] }
  | _ => none }
def SignOverWrongFalsely : Prop := signOverRow.holds Try.pinned (OpenSpec.ofChange signOverWrong)

/-- 'snicketlaw06.RatioOrder': WHATEVER THE INPUT: true; the input reads as it did. -/
def ratioOrderSpec : ChangeSpec := { name := "ratioOrder", fn := fun _ => fun
  | [d] => { results := [.lit (.bool true)], args := [d] }
  | _ => none }
def ratioOrderRow : OpenClaim := { program := "ytalaffabcnccgaa", sum := "aa230e7a1cc91739960b06d0fd72fb6296ae05ccca6ca655ebd5cbce978603b7", func := "snicket/snicketlaw06.RatioOrder", spec := "ratioOrder", inPlace := ["math/bits.Sub64", "math/bits.Add64"], named := ["math/bits.divideError", "math/bits.overflowError"], apart := false }
def RatioOrderSaid : Prop := ratioOrderRow.holds Try.pinned (OpenSpec.ofChange ratioOrderSpec)

/-- ITS FALSE NEIGHBOUR: 'it returns false'. Refute it at one input. -/
def ratioOrderWrong : ChangeSpec := { name := "ratioOrder", fn := fun _ => fun
  | [d] => { results := [.lit (.bool false)], args := [d] }
  | _ => none }
def RatioOrderWrongFalsely : Prop := ratioOrderRow.holds Try.pinned (OpenSpec.ofChange ratioOrderWrong)

/-- 'snicketlaw06.RatioAdds': WHATEVER THE INPUT: true; the input reads as it did. -/
def ratioAddsSpec : ChangeSpec := { name := "ratioAdds", fn := fun _ => fun
  | [d1, d2] => { results := [.lit (.bool true)], args := [d1, d2] }
  | _ => none }
def ratioAddsRow : OpenClaim := { program := "ytalaffabcnccgaa", sum := "aa230e7a1cc91739960b06d0fd72fb6296ae05ccca6ca655ebd5cbce978603b7", func := "snicket/snicketlaw06.RatioAdds", spec := "ratioAdds", inPlace := ["math/bits.Sub64", "math/bits.Add64"], named := ["math/bits.divideError", "math/bits.overflowError"], apart := false }
def RatioAddsSaid : Prop := ratioAddsRow.holds Try.pinned (OpenSpec.ofChange ratioAddsSpec)

/-- ITS FALSE NEIGHBOUR: 'it returns false'. Refute it at one input. -/
def ratioAddsWrong : ChangeSpec := { name := "ratioAdds", fn := fun _ => fun
  | [d1, d2] => { results := [.lit (.bool false)], args := [d1, d2] }
  | _ => none }
def RatioAddsWrongFalsely : Prop := ratioAddsRow.holds Try.pinned (OpenSpec.ofChange ratioAddsWrong)

/- THE SECOND FORM. 'bulk': how many values and letters a reading holds, each counted each time it is reached (what is shared counts as often as it is met; a slice's spare places count too). A statement '..UptoSaid' is the law's where the arguments, and the package variables that the reading takes, are together of bulk at most 1048576: NARROWER than '..Said'. Prove '..Said' where nothing that the law and all that it calls make is longer than what came in: it says more and counts as full. Else prove '..UptoSaid'. A law counts once. -/
mutual
def uptoBulk {H : Type} : DataW H → Nat
  | .lit (.string bytes) => bytes.length + 1
  | .lit _ => 1
  | .nil => 1
  | .ptr d => uptoBulk d + 1
  | .slice elems spare => uptoBulkAll elems + uptoBulkAll spare + 1
  | .agg parts => uptoBulkAll parts + 1
  | .iface _ d => uptoBulk d + 1
  | .map entries => uptoBulkEntries entries + 1
  | .held _ => 1
def uptoBulkAll {H : Type} : List (DataW H) → Nat
  | [] => 0
  | d :: r => uptoBulk d + uptoBulkAll r
def uptoBulkEntries {H : Type} : List (Lit × DataW H) → Nat
  | [] => 0
  | x :: r => uptoBulkEntry x + uptoBulkEntries r
def uptoBulkEntry {H : Type} : Lit × DataW H → Nat
  | (.string bytes, d) => bytes.length + uptoBulk d + 1
  | (_, d) => uptoBulk d + 1
 end
def uptoSmall : (H : Type) → List (DataW H) → Bool := fun _ ds => decide (uptoBulkAll ds ≤ 1048576)
def OpenSpec.upto (s : _root_.Go.ChangeSpec) : _root_.Go.OpenSpec := { _root_.Go.OpenSpec.ofChange s with cond := some uptoSmall }

/-- 'snicketlaw02.WordTwos', WHERE WHAT IT READS IS OF BULK AT MOST 1048576: true; the input reads as it did. -/
def wordTwosUptoRow : OpenClaim := { program := "ytalaffabcnccgaa", sum := "aa230e7a1cc91739960b06d0fd72fb6296ae05ccca6ca655ebd5cbce978603b7", func := "snicket/snicketlaw02.WordTwos", spec := "wordTwos", inPlace := ["math/bits.Add64"], apart := false, narrowed := true }
def WordTwosUptoSaid : Prop := wordTwosUptoRow.holds Try.pinned (OpenSpec.upto wordTwosSpec)

/-- 'snicketlaw02.WordAdds', WHERE WHAT IT READS IS OF BULK AT MOST 1048576: true; the input reads as it did. -/
def wordAddsUptoRow : OpenClaim := { program := "ytalaffabcnccgaa", sum := "aa230e7a1cc91739960b06d0fd72fb6296ae05ccca6ca655ebd5cbce978603b7", func := "snicket/snicketlaw02.WordAdds", spec := "wordAdds", inPlace := ["math/bits.Add64", "math/bits.Sub64"], apart := false, narrowed := true }
def WordAddsUptoSaid : Prop := wordAddsUptoRow.holds Try.pinned (OpenSpec.upto wordAddsSpec)

/-- 'snicketlaw02.WordMuls', WHERE WHAT IT READS IS OF BULK AT MOST 1048576: true; the input reads as it did. -/
def wordMulsUptoRow : OpenClaim := { program := "ytalaffabcnccgaa", sum := "aa230e7a1cc91739960b06d0fd72fb6296ae05ccca6ca655ebd5cbce978603b7", func := "snicket/snicketlaw02.WordMuls", spec := "wordMuls", inPlace := ["math/bits.Add64"], named := ["math/bits.divideError", "math/bits.overflowError"], apart := false, narrowed := true }
def WordMulsUptoSaid : Prop := wordMulsUptoRow.holds Try.pinned (OpenSpec.upto wordMulsSpec)

/-- 'snicketlaw03.WideLaws', WHERE WHAT IT READS IS OF BULK AT MOST 1048576: true; the input reads as it did. -/
def wideLawsUptoRow : OpenClaim := { program := "ytalaffabcnccgaa", sum := "aa230e7a1cc91739960b06d0fd72fb6296ae05ccca6ca655ebd5cbce978603b7", func := "snicket/snicketlaw03.WideLaws", spec := "wideLaws", inPlace := ["math/bits.Add64", "math/bits.Sub64"], apart := false, narrowed := true }
def WideLawsUptoSaid : Prop := wideLawsUptoRow.holds Try.pinned (OpenSpec.upto wideLawsSpec)

/-- 'snicketlaw03.WideBack', WHERE WHAT IT READS IS OF BULK AT MOST 1048576: true; the input reads as it did. -/
def wideBackUptoRow : OpenClaim := { program := "ytalaffabcnccgaa", sum := "aa230e7a1cc91739960b06d0fd72fb6296ae05ccca6ca655ebd5cbce978603b7", func := "snicket/snicketlaw03.WideBack", spec := "wideBack", inPlace := ["math/bits.Add64", "math/bits.Sub64"], apart := false, narrowed := true }
def WideBackUptoSaid : Prop := wideBackUptoRow.holds Try.pinned (OpenSpec.upto wideBackSpec)

/-- 'snicketlaw03.WideShifts', WHERE WHAT IT READS IS OF BULK AT MOST 1048576: true; the input reads as it did. -/
def wideShiftsUptoRow : OpenClaim := { program := "ytalaffabcnccgaa", sum := "aa230e7a1cc91739960b06d0fd72fb6296ae05ccca6ca655ebd5cbce978603b7", func := "snicket/snicketlaw03.WideShifts", spec := "wideShifts", inPlace := ["math/bits.Add64", "math/bits.Sub64"], apart := false, narrowed := true }
def WideShiftsUptoSaid : Prop := wideShiftsUptoRow.holds Try.pinned (OpenSpec.upto wideShiftsSpec)

/-- 'snicketlaw03.WideAdds', WHERE WHAT IT READS IS OF BULK AT MOST 1048576: true; the input reads as it did. -/
def wideAddsUptoRow : OpenClaim := { program := "ytalaffabcnccgaa", sum := "aa230e7a1cc91739960b06d0fd72fb6296ae05ccca6ca655ebd5cbce978603b7", func := "snicket/snicketlaw03.WideAdds", spec := "wideAdds", inPlace := ["math/bits.Add64", "math/bits.Sub64"], apart := false, narrowed := true }
def WideAddsUptoSaid : Prop := wideAddsUptoRow.holds Try.pinned (OpenSpec.upto wideAddsSpec)

/-- 'snicketlaw04.QuotGcd', WHERE WHAT IT READS IS OF BULK AT MOST 1048576: true; the input reads as it did. -/
def quotGcdUptoRow : OpenClaim := { program := "ytalaffabcnccgaa", sum := "aa230e7a1cc91739960b06d0fd72fb6296ae05ccca6ca655ebd5cbce978603b7", func := "snicket/snicketlaw04.QuotGcd", spec := "quotGcd", inPlace := ["math/bits.Sub64", "math/bits.Add64"], named := ["math/bits.divideError", "math/bits.overflowError"], apart := false, narrowed := true }
def QuotGcdUptoSaid : Prop := quotGcdUptoRow.holds Try.pinned (OpenSpec.upto quotGcdSpec)

/-- 'snicketlaw05.SignSmall', WHERE WHAT IT READS IS OF BULK AT MOST 1048576: true; the input reads as it did. -/
def signSmallUptoRow : OpenClaim := { program := "ytalaffabcnccgaa", sum := "aa230e7a1cc91739960b06d0fd72fb6296ae05ccca6ca655ebd5cbce978603b7", func := "snicket/snicketlaw05.SignSmall", spec := "signSmall", inPlace := ["math/bits.Sub64", "math/bits.Add64"], named := ["math/bits.divideError", "math/bits.overflowError"], apart := false, narrowed := true }
def SignSmallUptoSaid : Prop := signSmallUptoRow.holds Try.pinned (OpenSpec.upto signSmallSpec)

/-- 'snicketlaw04.QuotOver', WHERE WHAT IT READS IS OF BULK AT MOST 1048576: true; the input reads as it did. -/
def quotOverUptoRow : OpenClaim := { program := "ytalaffabcnccgaa", sum := "aa230e7a1cc91739960b06d0fd72fb6296ae05ccca6ca655ebd5cbce978603b7", func := "snicket/snicketlaw04.QuotOver", spec := "quotOver", inPlace := ["math/bits.Sub64", "math/bits.Add64"], named := ["math/bits.divideError", "math/bits.overflowError"], apart := false, narrowed := true }
def QuotOverUptoSaid : Prop := quotOverUptoRow.holds Try.pinned (OpenSpec.upto quotOverSpec)

/-- 'snicketlaw04.QuotRoot', WHERE WHAT IT READS IS OF BULK AT MOST 1048576: true; the input reads as it did. -/
def quotRootUptoRow : OpenClaim := { program := "ytalaffabcnccgaa", sum := "aa230e7a1cc91739960b06d0fd72fb6296ae05ccca6ca655ebd5cbce978603b7", func := "snicket/snicketlaw04.QuotRoot", spec := "quotRoot", inPlace := ["math/bits.Add64", "math/bits.Sub64"], named := ["math/bits.divideError", "math/bits.overflowError"], apart := false, narrowed := true }
def QuotRootUptoSaid : Prop := quotRootUptoRow.holds Try.pinned (OpenSpec.upto quotRootSpec)

/-- 'snicketlaw06.RatioParts', WHERE WHAT IT READS IS OF BULK AT MOST 1048576: true; the input reads as it did. -/
def ratioPartsUptoRow : OpenClaim := { program := "ytalaffabcnccgaa", sum := "aa230e7a1cc91739960b06d0fd72fb6296ae05ccca6ca655ebd5cbce978603b7", func := "snicket/snicketlaw06.RatioParts", spec := "ratioParts", inPlace := ["math/bits.Sub64", "math/bits.Add64"], named := ["math/bits.divideError", "math/bits.overflowError"], apart := false, narrowed := true }
def RatioPartsUptoSaid : Prop := ratioPartsUptoRow.holds Try.pinned (OpenSpec.upto ratioPartsSpec)

/-- 'snicketlaw06.RatioOf', WHERE WHAT IT READS IS OF BULK AT MOST 1048576: true; the input reads as it did. -/
def ratioOfUptoRow : OpenClaim := { program := "ytalaffabcnccgaa", sum := "aa230e7a1cc91739960b06d0fd72fb6296ae05ccca6ca655ebd5cbce978603b7", func := "snicket/snicketlaw06.RatioOf", spec := "ratioOf", inPlace := ["math/bits.Sub64", "math/bits.Add64"], named := ["math/bits.divideError", "math/bits.overflowError"], apart := false, narrowed := true }
def RatioOfUptoSaid : Prop := ratioOfUptoRow.holds Try.pinned (OpenSpec.upto ratioOfSpec)

/-- 'snicketlaw05.SignLaws', WHERE WHAT IT READS IS OF BULK AT MOST 1048576: true; the input reads as it did. -/
def signLawsUptoRow : OpenClaim := { program := "ytalaffabcnccgaa", sum := "aa230e7a1cc91739960b06d0fd72fb6296ae05ccca6ca655ebd5cbce978603b7", func := "snicket/snicketlaw05.SignLaws", spec := "signLaws", inPlace := ["math/bits.Add64", "math/bits.Sub64"], named := ["math/bits.divideError", "math/bits.overflowError"], apart := false, narrowed := true }
def SignLawsUptoSaid : Prop := signLawsUptoRow.holds Try.pinned (OpenSpec.upto signLawsSpec)

/-- 'snicketlaw05.SignAdds', WHERE WHAT IT READS IS OF BULK AT MOST 1048576: true; the input reads as it did. -/
def signAddsUptoRow : OpenClaim := { program := "ytalaffabcnccgaa", sum := "aa230e7a1cc91739960b06d0fd72fb6296ae05ccca6ca655ebd5cbce978603b7", func := "snicket/snicketlaw05.SignAdds", spec := "signAdds", inPlace := ["math/bits.Add64", "math/bits.Sub64"], named := ["math/bits.divideError", "math/bits.overflowError"], apart := false, narrowed := true }
def SignAddsUptoSaid : Prop := signAddsUptoRow.holds Try.pinned (OpenSpec.upto signAddsSpec)

/-- 'snicketlaw05.SignOver', WHERE WHAT IT READS IS OF BULK AT MOST 1048576: true; the input reads as it did. -/
def signOverUptoRow : OpenClaim := { program := "ytalaffabcnccgaa", sum := "aa230e7a1cc91739960b06d0fd72fb6296ae05ccca6ca655ebd5cbce978603b7", func := "snicket/snicketlaw05.SignOver", spec := "signOver", inPlace := ["math/bits.Sub64", "math/bits.Add64"], named := ["math/bits.divideError", "math/bits.overflowError"], apart := false, narrowed := true }
def SignOverUptoSaid : Prop := signOverUptoRow.holds Try.pinned (OpenSpec.upto signOverSpec)

/-- 'snicketlaw06.RatioOrder', WHERE WHAT IT READS IS OF BULK AT MOST 1048576: true; the input reads as it did. -/
def ratioOrderUptoRow : OpenClaim := { program := "ytalaffabcnccgaa", sum := "aa230e7a1cc91739960b06d0fd72fb6296ae05ccca6ca655ebd5cbce978603b7", func := "snicket/snicketlaw06.RatioOrder", spec := "ratioOrder", inPlace := ["math/bits.Sub64", "math/bits.Add64"], named := ["math/bits.divideError", "math/bits.overflowError"], apart := false, narrowed := true }
def RatioOrderUptoSaid : Prop := ratioOrderUptoRow.holds Try.pinned (OpenSpec.upto ratioOrderSpec)

/-- 'snicketlaw06.RatioAdds', WHERE WHAT IT READS IS OF BULK AT MOST 1048576: true; the input reads as it did. -/
def ratioAddsUptoRow : OpenClaim := { program := "ytalaffabcnccgaa", sum := "aa230e7a1cc91739960b06d0fd72fb6296ae05ccca6ca655ebd5cbce978603b7", func := "snicket/snicketlaw06.RatioAdds", spec := "ratioAdds", inPlace := ["math/bits.Sub64", "math/bits.Add64"], named := ["math/bits.divideError", "math/bits.overflowError"], apart := false, narrowed := true }
def RatioAddsUptoSaid : Prop := ratioAddsUptoRow.holds Try.pinned (OpenSpec.upto ratioAddsSpec)

end Rows
end Go.Proofs.Ytalaffabcnccgaa
