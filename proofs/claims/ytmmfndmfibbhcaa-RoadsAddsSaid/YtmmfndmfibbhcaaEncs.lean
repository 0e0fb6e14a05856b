/- Which elements the slices of the program have. Printed by program (facts.py). -/
import Derived.Test.YtmmfndmfibbhcaaOwn3
import Derived.Test.YtmmfndmfibbhcaaFacts
namespace Go.Proofs.Ytmmfndmfibbhcaa.R
instance en3 : EncT Try.prog 3 Int cI 1 := {}
instance en4 : EncT Try.prog 4 Bool cB 1 := {}
instance en5 : EncT Try.prog 5 Int cY 1 := {}
instance en62 : EncT Try.prog 62 Int cI 1 := {}
instance nt31 : FuncT Try.prog 31 := ⟨by kernel_rfl⟩
instance nt40 : PtrT Try.prog 40 := ⟨by kernel_rfl⟩
instance nt57 : MapT Try.prog 57 := ⟨by kernel_rfl⟩
instance st30 : StrT Try.prog 30 [(0, 1), (1, 1), (2, 1), (3, 1)] [.int .i64 0, .int .i64 0, .int .i64 0, .int .i64 0] := strT_struct (by kernel_rfl)
instance st43 : StrT Try.prog 43 [(0, 1), (1, 1)] [.int .i64 0, .int .i64 0] := strT_struct (by kernel_rfl)
instance st59 : StrT Try.prog 59 [(0, 1), (1, 1)] [.slice none 0 0, .map none] := strT_struct (by kernel_rfl)
instance st76 : StrT Try.prog 76 [(0, 1), (1, 1), (2, 2), (4, 1)] [.int .i64 0, .slice none 0 0, .slice none 0 0, .int .i64 0, .slice none 0 0] := strT_struct (by kernel_rfl)
instance st101 : StrT Try.prog 101 [(0, 1), (1, 1), (2, 1), (3, 1)] [.int .i64 0, .slice none 0 0, .slice none 0 0, .bool false] := strT_struct (by kernel_rfl)
instance st112 : StrT Try.prog 112 [(0, 1), (1, 1)] [.int .i64 0, .int .i64 0] := strT_struct (by kernel_rfl)
instance st114 : StrT Try.prog 114 [(0, 2), (2, 2)] [.int .i64 0, .int .i64 0, .int .i64 0, .int .i64 0] := strT_struct (by kernel_rfl)
instance st116 : StrT Try.prog 116 [(0, 1), (1, 1), (2, 4), (6, 1), (7, 1)] [.int .i64 0, .int .i64 0, .int .i64 0, .int .i64 0, .int .i64 0, .int .i64 0, .int .i64 0, .bool false] := strT_struct (by kernel_rfl)
instance st131 : StrT Try.prog 131 [(0, 1), (1, 1)] [.slice none 0 0, .bool false] := strT_struct (by kernel_rfl)
instance st135 : StrT Try.prog 135 [(0, 1), (1, 1), (2, 1)] [.int .i64 0, .int .i64 0, .bool false] := strT_struct (by kernel_rfl)
end Go.Proofs.Ytmmfndmfibbhcaa.R
