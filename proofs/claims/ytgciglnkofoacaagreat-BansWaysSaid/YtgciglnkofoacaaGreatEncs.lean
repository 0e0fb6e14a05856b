/- Which elements the slices of the program have. Printed by program (facts.py). -/
import Derived.Test.YtgciglnkofoacaaGreatOwn3
import Derived.Test.YtgciglnkofoacaaGreatFacts
namespace Go.Proofs.YtgciglnkofoacaaGreat.R
instance en3 : EncT Tryz.prog 3 Int cI 1 := {}
instance en59 : EncT Tryz.prog 59 Int cU 1 := {}
instance st26 : StrT Tryz.prog 26 [(0, 1), (1, 1), (2, 1)] [.slice none 0 0, .slice none 0 0, .slice none 0 0] := strT_struct (by kernel_rfl)
instance st29 : StrT Tryz.prog 29 [(0, 1), (1, 1)] [.slice none 0 0, .int .i64 0] := strT_struct (by kernel_rfl)
instance st50 : StrT Tryz.prog 50 [(0, 1), (1, 1), (2, 1)] [.int .i64 0, .int .i64 0, .bool false] := strT_struct (by kernel_rfl)
instance st63 : StrT Tryz.prog 63 [(0, 1), (1, 8)] [.bool false, .int .u64 0, .int .u64 0, .int .u64 0, .int .u64 0, .int .u64 0, .int .u64 0, .int .u64 0, .int .u64 0] := strT_struct (by kernel_rfl)
instance st65 : StrT Tryz.prog 65 [(0, 9), (9, 9), (18, 8)] [.bool false, .int .u64 0, .int .u64 0, .int .u64 0, .int .u64 0, .int .u64 0, .int .u64 0, .int .u64 0, .int .u64 0, .bool false, .int .u64 0, .int .u64 0, .int .u64 0, .int .u64 0, .int .u64 0, .int .u64 0, .int .u64 0, .int .u64 0, .int .u64 0, .int .u64 0, .int .u64 0, .int .u64 0, .int .u64 0, .int .u64 0, .int .u64 0, .int .u64 0] := strT_struct (by kernel_rfl)
instance st68 : StrT Tryz.prog 68 [(0, 1), (1, 1), (2, 1), (3, 1), (4, 1)] [.int .i64 0, .int .i64 0, .int .i64 0, .bool false, .bool false] := strT_struct (by kernel_rfl)
instance st83 : StrT Tryz.prog 83 [(0, 1), (1, 1)] [.int .i64 0, .int .i64 0] := strT_struct (by kernel_rfl)
instance st92 : StrT Tryz.prog 92 [(0, 1), (1, 1)] [.int .i64 0, .int .i64 0] := strT_struct (by kernel_rfl)
end Go.Proofs.YtgciglnkofoacaaGreat.R
