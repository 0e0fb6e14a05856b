/- Which elements the slices of the program have. Printed by program (facts.py). -/
import Derived.Test.YtebgjcginmgoaaaOwn3
import Derived.Test.YtebgjcginmgoaaaFacts
namespace Go.Proofs.Ytebgjcginmgoaaa.R
instance en29 : EncT Try.prog 29 Int cU 1 := {}
instance st23 : StrT Try.prog 23 [(0, 1), (1, 1)] [.int .i64 0, .int .i64 0] := strT_struct (by kernel_rfl)
instance st33 : StrT Try.prog 33 [(0, 1), (1, 8)] [.bool false, .int .u64 0, .int .u64 0, .int .u64 0, .int .u64 0, .int .u64 0, .int .u64 0, .int .u64 0, .int .u64 0] := strT_struct (by kernel_rfl)
instance st35 : StrT Try.prog 35 [(0, 9), (9, 9), (18, 8)] [.bool false, .int .u64 0, .int .u64 0, .int .u64 0, .int .u64 0, .int .u64 0, .int .u64 0, .int .u64 0, .int .u64 0, .bool false, .int .u64 0, .int .u64 0, .int .u64 0, .int .u64 0, .int .u64 0, .int .u64 0, .int .u64 0, .int .u64 0, .int .u64 0, .int .u64 0, .int .u64 0, .int .u64 0, .int .u64 0, .int .u64 0, .int .u64 0, .int .u64 0] := strT_struct (by kernel_rfl)
instance st39 : StrT Try.prog 39 [(0, 9), (9, 8)] [.bool false, .int .u64 0, .int .u64 0, .int .u64 0, .int .u64 0, .int .u64 0, .int .u64 0, .int .u64 0, .int .u64 0, .int .u64 0, .int .u64 0, .int .u64 0, .int .u64 0, .int .u64 0, .int .u64 0, .int .u64 0, .int .u64 0] := strT_struct (by kernel_rfl)
instance st51 : StrT Try.prog 51 [(0, 1), (1, 1)] [.bool false, .slice none 0 0] := strT_struct (by kernel_rfl)
instance st54 : StrT Try.prog 54 [(0, 2), (2, 2)] [.bool false, .slice none 0 0, .bool false, .slice none 0 0] := strT_struct (by kernel_rfl)
instance st90 : StrT Try.prog 90 [(0, 9), (9, 9)] [.bool false, .int .u64 0, .int .u64 0, .int .u64 0, .int .u64 0, .int .u64 0, .int .u64 0, .int .u64 0, .int .u64 0, .bool false, .int .u64 0, .int .u64 0, .int .u64 0, .int .u64 0, .int .u64 0, .int .u64 0, .int .u64 0, .int .u64 0] := strT_struct (by kernel_rfl)
end Go.Proofs.Ytebgjcginmgoaaa.R
