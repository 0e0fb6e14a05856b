/- Which elements the slices of the program have. Printed by program (facts.py). -/
import Derived.Test.YtalaffabcnccgaaOwn3
import Derived.Test.YtalaffabcnccgaaFacts
namespace Go.Proofs.Ytalaffabcnccgaa.R
instance en5 : EncT Try.prog 5 Int cY 1 := {}
instance en22 : EncT Try.prog 22 Int cU 1 := {}
instance fv65_0 : FieldV Try.prog 65 0 0 false 1 := ⟨by kernel_rfl⟩
instance st65 : StrT Try.prog 65 [(0, 1), (1, 8)] [.bool false, .int .u64 0, .int .u64 0, .int .u64 0, .int .u64 0, .int .u64 0, .int .u64 0, .int .u64 0, .int .u64 0] := strT_struct (by kernel_rfl)
instance st83 : StrT Try.prog 83 [(0, 9), (9, 8)] [.bool false, .int .u64 0, .int .u64 0, .int .u64 0, .int .u64 0, .int .u64 0, .int .u64 0, .int .u64 0, .int .u64 0, .int .u64 0, .int .u64 0, .int .u64 0, .int .u64 0, .int .u64 0, .int .u64 0, .int .u64 0, .int .u64 0] := strT_struct (by kernel_rfl)
end Go.Proofs.Ytalaffabcnccgaa.R
