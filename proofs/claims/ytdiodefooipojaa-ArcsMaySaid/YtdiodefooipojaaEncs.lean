/- Which elements the slices of the program have. Printed by program (facts.py). -/
import Derived.Test.YtdiodefooipojaaOwn3
import Derived.Test.YtdiodefooipojaaFacts
namespace Go.Proofs.Ytdiodefooipojaa.R
instance en3 : EncT Try.prog 3 Int cI 1 := {}
instance en4 : EncT Try.prog 4 Bool cB 1 := {}
instance st24 : StrT Try.prog 24 [(0, 1), (1, 1), (2, 1)] [.slice none 0 0, .slice none 0 0, .slice none 0 0] := strT_struct (by kernel_rfl)
instance st35 : StrT Try.prog 35 [(0, 1), (1, 1)] [.int .i64 0, .int .i64 0] := strT_struct (by kernel_rfl)
instance st47 : StrT Try.prog 47 [(0, 1), (1, 1), (2, 1)] [.slice none 0 0, .slice none 0 0, .slice none 0 0] := strT_struct (by kernel_rfl)
instance st51 : StrT Try.prog 51 [(0, 1), (1, 1)] [.slice none 0 0, .int .i64 0] := strT_struct (by kernel_rfl)
instance st67 : StrT Try.prog 67 [(0, 1), (1, 1), (2, 1), (3, 1), (4, 1)] [.int .i64 0, .int .i64 0, .int .i64 0, .bool false, .bool false] := strT_struct (by kernel_rfl)
instance st70 : StrT Try.prog 70 [(0, 1), (1, 1)] [.map none, .map none] := strT_struct (by kernel_rfl)
instance st76 : StrT Try.prog 76 [(0, 1), (1, 8)] [.bool false, .int .u64 0, .int .u64 0, .int .u64 0, .int .u64 0, .int .u64 0, .int .u64 0, .int .u64 0, .int .u64 0] := strT_struct (by kernel_rfl)
instance st78 : StrT Try.prog 78 [(0, 9), (9, 9), (18, 8)] [.bool false, .int .u64 0, .int .u64 0, .int .u64 0, .int .u64 0, .int .u64 0, .int .u64 0, .int .u64 0, .int .u64 0, .bool false, .int .u64 0, .int .u64 0, .int .u64 0, .int .u64 0, .int .u64 0, .int .u64 0, .int .u64 0, .int .u64 0, .int .u64 0, .int .u64 0, .int .u64 0, .int .u64 0, .int .u64 0, .int .u64 0, .int .u64 0, .int .u64 0] := strT_struct (by kernel_rfl)
instance st81 : StrT Try.prog 81 [(0, 1), (1, 1)] [.int .i64 0, .int .i64 0] := strT_struct (by kernel_rfl)
instance st96 : StrT Try.prog 96 [(0, 1), (1, 1)] [.int .i64 0, .int .i64 0] := strT_struct (by kernel_rfl)
end Go.Proofs.Ytdiodefooipojaa.R
