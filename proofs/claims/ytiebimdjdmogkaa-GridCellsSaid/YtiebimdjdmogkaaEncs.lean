/- Which elements the slices of the program have. Printed by program (facts.py). -/
import Derived.Test.YtiebimdjdmogkaaOwn3
import Derived.Test.YtiebimdjdmogkaaFacts
namespace Go.Proofs.Ytiebimdjdmogkaa.R
instance en3 : EncT Try.prog 3 Int cI 1 := {}
instance st23 : StrT Try.prog 23 [(0, 1), (1, 1)] [.int .i64 0, .int .i64 0] := strT_struct (by kernel_rfl)
instance st26 : StrT Try.prog 26 [(0, 2), (2, 1), (3, 1), (4, 1), (5, 1)] [.int .i64 0, .int .i64 0, .int .i64 0, .int .i64 0, .int .i64 0, .slice none 0 0] := strT_struct (by kernel_rfl)
instance st43 : StrT Try.prog 43 [(0, 1), (1, 1), (2, 1)] [.slice none 0 0, .slice none 0 0, .slice none 0 0] := strT_struct (by kernel_rfl)
instance st50 : StrT Try.prog 50 [(0, 2), (2, 2)] [.int .i64 0, .int .i64 0, .int .i64 0, .int .i64 0] := strT_struct (by kernel_rfl)
instance st59 : StrT Try.prog 59 [(0, 1), (1, 8)] [.bool false, .int .u64 0, .int .u64 0, .int .u64 0, .int .u64 0, .int .u64 0, .int .u64 0, .int .u64 0, .int .u64 0] := strT_struct (by kernel_rfl)
instance st61 : StrT Try.prog 61 [(0, 9), (9, 9), (18, 8)] [.bool false, .int .u64 0, .int .u64 0, .int .u64 0, .int .u64 0, .int .u64 0, .int .u64 0, .int .u64 0, .int .u64 0, .bool false, .int .u64 0, .int .u64 0, .int .u64 0, .int .u64 0, .int .u64 0, .int .u64 0, .int .u64 0, .int .u64 0, .int .u64 0, .int .u64 0, .int .u64 0, .int .u64 0, .int .u64 0, .int .u64 0, .int .u64 0, .int .u64 0] := strT_struct (by kernel_rfl)
instance st64 : StrT Try.prog 64 [(0, 1), (1, 1), (2, 1), (3, 1), (4, 1)] [.int .i64 0, .int .i64 0, .int .i64 0, .bool false, .bool false] := strT_struct (by kernel_rfl)
instance st73 : StrT Try.prog 73 [(0, 1), (1, 1)] [.int .i64 0, .int .i64 0] := strT_struct (by kernel_rfl)
end Go.Proofs.Ytiebimdjdmogkaa.R
