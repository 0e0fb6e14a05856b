/- Which elements the slices of the program have. Printed by program (facts.py). -/
import Derived.Test.YtebgjcginmgoaaaGreatOwn3
import Derived.Test.YtebgjcginmgoaaaGreatFacts
namespace Go.Proofs.YtebgjcginmgoaaaGreat.R
instance en22 : EncT Tryz.prog 22 Int cU 1 := {}
instance st26 : StrT Tryz.prog 26 [(0, 1), (1, 8)] [.bool false, .int .u64 0, .int .u64 0, .int .u64 0, .int .u64 0, .int .u64 0, .int .u64 0, .int .u64 0, .int .u64 0] := strT_struct (by kernel_rfl)
instance st28 : StrT Tryz.prog 28 [(0, 9), (9, 9), (18, 8)] [.bool false, .int .u64 0, .int .u64 0, .int .u64 0, .int .u64 0, .int .u64 0, .int .u64 0, .int .u64 0, .int .u64 0, .bool false, .int .u64 0, .int .u64 0, .int .u64 0, .int .u64 0, .int .u64 0, .int .u64 0, .int .u64 0, .int .u64 0, .int .u64 0, .int .u64 0, .int .u64 0, .int .u64 0, .int .u64 0, .int .u64 0, .int .u64 0, .int .u64 0] := strT_struct (by kernel_rfl)
instance st30 : StrT Tryz.prog 30 [(0, 1), (1, 1)] [.int .i64 0, .int .i64 0] := strT_struct (by kernel_rfl)
instance st32 : StrT Tryz.prog 32 [(0, 9), (9, 8)] [.bool false, .int .u64 0, .int .u64 0, .int .u64 0, .int .u64 0, .int .u64 0, .int .u64 0, .int .u64 0, .int .u64 0, .int .u64 0, .int .u64 0, .int .u64 0, .int .u64 0, .int .u64 0, .int .u64 0, .int .u64 0, .int .u64 0] := strT_struct (by kernel_rfl)
instance st43 : StrT Tryz.prog 43 [(0, 1), (1, 1)] [.bool false, .slice none 0 0] := strT_struct (by kernel_rfl)
instance st45 : StrT Tryz.prog 45 [(0, 2), (2, 2)] [.bool false, .slice none 0 0, .bool false, .slice none 0 0] := strT_struct (by kernel_rfl)
instance st72 : StrT Tryz.prog 72 [(0, 9), (9, 9)] [.bool false, .int .u64 0, .int .u64 0, .int .u64 0, .int .u64 0, .int .u64 0, .int .u64 0, .int .u64 0, .int .u64 0, .bool false, .int .u64 0, .int .u64 0, .int .u64 0, .int .u64 0, .int .u64 0, .int .u64 0, .int .u64 0, .int .u64 0] := strT_struct (by kernel_rfl)
end Go.Proofs.YtebgjcginmgoaaaGreat.R
