/- Which elements the slices of the program have. Printed by program (facts.py). -/
import Derived.Test.YtoainfnhmdcpoaaOwn3
import Derived.Test.YtoainfnhmdcpoaaFacts
namespace Go.Proofs.Ytoainfnhmdcpoaa.R
instance en3 : EncT Try.prog 3 Int cI 1 := {}
instance en4 : EncT Try.prog 4 Bool cB 1 := {}
instance en79 : EncT Try.prog 79 Int cU 1 := {}
instance st44 : StrT Try.prog 44 [(0, 1), (1, 1), (2, 1)] [.slice none 0 0, .slice none 0 0, .slice none 0 0] := strT_struct (by kernel_rfl)
instance st46 : StrT Try.prog 46 [(0, 1), (1, 1)] [.int .i64 0, .int .i64 0] := strT_struct (by kernel_rfl)
instance st50 : StrT Try.prog 50 [(0, 1), (1, 1)] [.slice none 0 0, .int .i64 0] := strT_struct (by kernel_rfl)
instance st52 : StrT Try.prog 52 [(0, 1), (1, 1)] [.int .i64 0, .slice none 0 0] := strT_struct (by kernel_rfl)
instance st63 : StrT Try.prog 63 [(0, 1), (1, 1)] [.int .i64 0, .int .i64 0] := strT_struct (by kernel_rfl)
instance st66 : StrT Try.prog 66 [(0, 1), (1, 1), (2, 1), (3, 1), (4, 1)] [.int .i64 0, .int .i64 0, .int .i64 0, .bool false, .bool false] := strT_struct (by kernel_rfl)
instance st74 : StrT Try.prog 74 [(0, 1), (1, 1)] [.int .i64 0, .int .i64 0] := strT_struct (by kernel_rfl)
instance st76 : StrT Try.prog 76 [(0, 2), (2, 2)] [.int .i64 0, .int .i64 0, .int .i64 0, .int .i64 0] := strT_struct (by kernel_rfl)
instance st83 : StrT Try.prog 83 [(0, 1), (1, 8)] [.bool false, .int .u64 0, .int .u64 0, .int .u64 0, .int .u64 0, .int .u64 0, .int .u64 0, .int .u64 0, .int .u64 0] := strT_struct (by kernel_rfl)
instance st85 : StrT Try.prog 85 [(0, 9), (9, 9), (18, 8)] [.bool false, .int .u64 0, .int .u64 0, .int .u64 0, .int .u64 0, .int .u64 0, .int .u64 0, .int .u64 0, .int .u64 0, .bool false, .int .u64 0, .int .u64 0, .int .u64 0, .int .u64 0, .int .u64 0, .int .u64 0, .int .u64 0, .int .u64 0, .int .u64 0, .int .u64 0, .int .u64 0, .int .u64 0, .int .u64 0, .int .u64 0, .int .u64 0, .int .u64 0] := strT_struct (by kernel_rfl)
instance st89 : StrT Try.prog 89 [(0, 9), (9, 8)] [.bool false, .int .u64 0, .int .u64 0, .int .u64 0, .int .u64 0, .int .u64 0, .int .u64 0, .int .u64 0, .int .u64 0, .int .u64 0, .int .u64 0, .int .u64 0, .int .u64 0, .int .u64 0, .int .u64 0, .int .u64 0, .int .u64 0] := strT_struct (by kernel_rfl)
instance st99 : StrT Try.prog 99 [(0, 1), (1, 1)] [.bool false, .slice none 0 0] := strT_struct (by kernel_rfl)
instance st102 : StrT Try.prog 102 [(0, 2), (2, 2)] [.bool false, .slice none 0 0, .bool false, .slice none 0 0] := strT_struct (by kernel_rfl)
instance st112 : StrT Try.prog 112 [(0, 2), (2, 1), (3, 1), (4, 1), (5, 1)] [.int .i64 0, .int .i64 0, .int .i64 0, .int .i64 0, .int .i64 0, .slice none 0 0] := strT_struct (by kernel_rfl)
instance st118 : StrT Try.prog 118 [(0, 1), (1, 1), (2, 1)] [.slice none 0 0, .slice none 0 0, .slice none 0 0] := strT_struct (by kernel_rfl)
instance st130 : StrT Try.prog 130 [(0, 1), (1, 1), (2, 1)] [.int .i64 0, .int .i64 0, .bool false] := strT_struct (by kernel_rfl)
instance st203 : StrT Try.prog 203 [(0, 1), (1, 1)] [.int .i64 0, .int .i64 0] := strT_struct (by kernel_rfl)
instance st212 : StrT Try.prog 212 [(0, 9), (9, 9)] [.bool false, .int .u64 0, .int .u64 0, .int .u64 0, .int .u64 0, .int .u64 0, .int .u64 0, .int .u64 0, .int .u64 0, .bool false, .int .u64 0, .int .u64 0, .int .u64 0, .int .u64 0, .int .u64 0, .int .u64 0, .int .u64 0, .int .u64 0] := strT_struct (by kernel_rfl)
instance st241 : StrT Try.prog 241 [(0, 1), (1, 1)] [.map none, .map none] := strT_struct (by kernel_rfl)
end Go.Proofs.Ytoainfnhmdcpoaa.R
