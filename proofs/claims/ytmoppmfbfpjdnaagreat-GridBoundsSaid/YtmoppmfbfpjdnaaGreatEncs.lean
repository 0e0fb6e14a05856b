/- Which elements the slices of the program have. Printed by program (facts.py). -/
import Derived.Test.YtmoppmfbfpjdnaaGreatOwn3
import Derived.Test.YtmoppmfbfpjdnaaGreatFacts
namespace Go.Proofs.YtmoppmfbfpjdnaaGreat.R
instance en3 : EncT Tryz.prog 3 Int cI 1 := {}
instance en42 : EncT Tryz.prog 42 Int cU 1 := {}
instance st26 : StrT Tryz.prog 26 [(0, 1), (1, 1), (2, 1)] [.slice none 0 0, .slice none 0 0, .slice none 0 0] := strT_struct (by kernel_rfl)
instance st28 : StrT Tryz.prog 28 [(0, 1), (1, 1)] [.int .i64 0, .int .i64 0] := strT_struct (by kernel_rfl)
instance st32 : StrT Tryz.prog 32 [(0, 1), (1, 1)] [.slice none 0 0, .int .i64 0] := strT_struct (by kernel_rfl)
instance st36 : StrT Tryz.prog 36 [(0, 2), (2, 1), (3, 1), (4, 1), (5, 1)] [.int .i64 0, .int .i64 0, .int .i64 0, .int .i64 0, .int .i64 0, .slice none 0 0] := strT_struct (by kernel_rfl)
instance st46 : StrT Tryz.prog 46 [(0, 1), (1, 8)] [.bool false, .int .u64 0, .int .u64 0, .int .u64 0, .int .u64 0, .int .u64 0, .int .u64 0, .int .u64 0, .int .u64 0] := strT_struct (by kernel_rfl)
instance st48 : StrT Tryz.prog 48 [(0, 9), (9, 8)] [.bool false, .int .u64 0, .int .u64 0, .int .u64 0, .int .u64 0, .int .u64 0, .int .u64 0, .int .u64 0, .int .u64 0, .int .u64 0, .int .u64 0, .int .u64 0, .int .u64 0, .int .u64 0, .int .u64 0, .int .u64 0, .int .u64 0] := strT_struct (by kernel_rfl)
instance st52 : StrT Tryz.prog 52 [(0, 9), (9, 9), (18, 8)] [.bool false, .int .u64 0, .int .u64 0, .int .u64 0, .int .u64 0, .int .u64 0, .int .u64 0, .int .u64 0, .int .u64 0, .bool false, .int .u64 0, .int .u64 0, .int .u64 0, .int .u64 0, .int .u64 0, .int .u64 0, .int .u64 0, .int .u64 0, .int .u64 0, .int .u64 0, .int .u64 0, .int .u64 0, .int .u64 0, .int .u64 0, .int .u64 0, .int .u64 0] := strT_struct (by kernel_rfl)
instance st54 : StrT Tryz.prog 54 [(0, 1), (1, 1), (2, 1), (3, 1), (4, 1)] [.int .i64 0, .int .i64 0, .int .i64 0, .bool false, .bool false] := strT_struct (by kernel_rfl)
instance st57 : StrT Tryz.prog 57 [(0, 1), (1, 1)] [.bool false, .slice none 0 0] := strT_struct (by kernel_rfl)
instance st60 : StrT Tryz.prog 60 [(0, 2), (2, 2)] [.bool false, .slice none 0 0, .bool false, .slice none 0 0] := strT_struct (by kernel_rfl)
instance st71 : StrT Tryz.prog 71 [(0, 2), (2, 2)] [.int .i64 0, .int .i64 0, .int .i64 0, .int .i64 0] := strT_struct (by kernel_rfl)
instance st100 : StrT Tryz.prog 100 [(0, 9), (9, 9)] [.bool false, .int .u64 0, .int .u64 0, .int .u64 0, .int .u64 0, .int .u64 0, .int .u64 0, .int .u64 0, .int .u64 0, .bool false, .int .u64 0, .int .u64 0, .int .u64 0, .int .u64 0, .int .u64 0, .int .u64 0, .int .u64 0, .int .u64 0] := strT_struct (by kernel_rfl)
instance st117 : StrT Tryz.prog 117 [(0, 1), (1, 1)] [.int .i64 0, .int .i64 0] := strT_struct (by kernel_rfl)
end Go.Proofs.YtmoppmfbfpjdnaaGreat.R
