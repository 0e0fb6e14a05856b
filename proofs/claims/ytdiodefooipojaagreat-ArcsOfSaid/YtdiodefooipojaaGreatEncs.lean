/- Which elements the slices of the program have. Printed by program (facts.py). -/
import Derived.Test.YtdiodefooipojaaGreatOwn3
import Derived.Test.YtdiodefooipojaaGreatFacts
namespace Go.Proofs.YtdiodefooipojaaGreat.R
instance en3 : EncT Tryz.prog 3 Int cI 1 := {}
instance en4 : EncT Tryz.prog 4 Bool cB 1 := {}
instance en74 : EncT Tryz.prog 74 Int cU 1 := {}
instance st26 : StrT Tryz.prog 26 [(0, 1), (1, 1), (2, 1)] [.slice none 0 0, .slice none 0 0, .slice none 0 0] := strT_struct (by kernel_rfl)
instance st29 : StrT Tryz.prog 29 [(0, 1), (1, 1)] [.slice none 0 0, .int .i64 0] := strT_struct (by kernel_rfl)
instance st34 : StrT Tryz.prog 34 [(0, 1), (1, 1), (2, 1)] [.slice none 0 0, .slice none 0 0, .slice none 0 0] := strT_struct (by kernel_rfl)
instance st55 : StrT Tryz.prog 55 [(0, 1), (1, 1), (2, 1), (3, 1), (4, 1)] [.int .i64 0, .int .i64 0, .int .i64 0, .bool false, .bool false] := strT_struct (by kernel_rfl)
instance st58 : StrT Tryz.prog 58 [(0, 1), (1, 1)] [.map none, .map none] := strT_struct (by kernel_rfl)
instance st61 : StrT Tryz.prog 61 [(0, 1), (1, 1)] [.int .i64 0, .int .i64 0] := strT_struct (by kernel_rfl)
instance st78 : StrT Tryz.prog 78 [(0, 1), (1, 8)] [.bool false, .int .u64 0, .int .u64 0, .int .u64 0, .int .u64 0, .int .u64 0, .int .u64 0, .int .u64 0, .int .u64 0] := strT_struct (by kernel_rfl)
instance st80 : StrT Tryz.prog 80 [(0, 9), (9, 9), (18, 8)] [.bool false, .int .u64 0, .int .u64 0, .int .u64 0, .int .u64 0, .int .u64 0, .int .u64 0, .int .u64 0, .int .u64 0, .bool false, .int .u64 0, .int .u64 0, .int .u64 0, .int .u64 0, .int .u64 0, .int .u64 0, .int .u64 0, .int .u64 0, .int .u64 0, .int .u64 0, .int .u64 0, .int .u64 0, .int .u64 0, .int .u64 0, .int .u64 0, .int .u64 0] := strT_struct (by kernel_rfl)
instance st83 : StrT Tryz.prog 83 [(0, 1), (1, 1)] [.int .i64 0, .int .i64 0] := strT_struct (by kernel_rfl)
instance st99 : StrT Tryz.prog 99 [(0, 1), (1, 1)] [.int .i64 0, .int .i64 0] := strT_struct (by kernel_rfl)
end Go.Proofs.YtdiodefooipojaaGreat.R
