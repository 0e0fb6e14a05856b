/- Which elements the slices of the program have. Printed by program (facts.py). -/
import Derived.Test.YtegbidklcaccjaaOwn3
import Derived.Test.YtegbidklcaccjaaFacts
namespace Go.Proofs.Ytegbidklcaccjaa.R
instance en3 : EncT Try.prog 3 Int cI 1 := {}
instance en4 : EncT Try.prog 4 Bool cB 1 := {}
instance en5 : EncT Try.prog 5 Int cY 1 := {}
instance nt70 : FuncT Try.prog 70 := ⟨by kernel_rfl⟩
instance nt113 : PtrT Try.prog 113 := ⟨by kernel_rfl⟩
instance nt138 : MapT Try.prog 138 := ⟨by kernel_rfl⟩
instance fv131_1 : FieldV Try.prog 131 1 1 false 1 := ⟨by kernel_rfl⟩
instance st24 : StrT Try.prog 24 [(0, 1), (1, 1), (2, 1)] [.slice none 0 0, .slice none 0 0, .slice none 0 0] := strT_struct (by kernel_rfl)
instance st44 : StrT Try.prog 44 [(0, 1), (1, 1), (2, 2), (4, 1)] [.int .i64 0, .slice none 0 0, .slice none 0 0, .int .i64 0, .slice none 0 0] := strT_struct (by kernel_rfl)
instance st67 : StrT Try.prog 67 [(0, 1), (1, 1), (2, 1), (3, 1), (4, 1)] [.int .i64 0, .int .i64 0, .int .i64 0, .int .i64 0, .int .i64 0] := strT_struct (by kernel_rfl)
instance st72 : StrT Try.prog 72 [(0, 1), (1, 1)] [.int .i64 0, .int .i64 0] := strT_struct (by kernel_rfl)
instance st93 : StrT Try.prog 93 [(0, 1), (1, 1), (2, 1), (3, 1)] [.int .i64 0, .slice none 0 0, .slice none 0 0, .bool false] := strT_struct (by kernel_rfl)
instance st101 : StrT Try.prog 101 [(0, 1), (1, 1)] [.slice none 0 0, .bool false] := strT_struct (by kernel_rfl)
instance st106 : StrT Try.prog 106 [(0, 1), (1, 1), (2, 1)] [.int .i64 0, .int .i64 0, .bool false] := strT_struct (by kernel_rfl)
instance st115 : StrT Try.prog 115 [(0, 3), (3, 1), (4, 1), (5, 1), (6, 1), (7, 1)] [.slice none 0 0, .slice none 0 0, .slice none 0 0, .slice none 0 0, .pointer none, .slice none 0 0, .slice none 0 0, .int .i64 0] := strT_struct (by kernel_rfl)
instance st126 : StrT Try.prog 126 [(0, 5), (5, 1), (6, 1)] [.int .i64 0, .int .i64 0, .int .i64 0, .int .i64 0, .int .i64 0, .pointer none, .map none] := strT_struct (by kernel_rfl)
instance st131 : StrT Try.prog 131 [(0, 1), (1, 1)] [.int .i64 0, .int .i64 0] := strT_struct (by kernel_rfl)
instance st135 : StrT Try.prog 135 [(0, 1), (1, 1)] [.int .i64 0, .int .i64 0] := strT_struct (by kernel_rfl)
instance st145 : StrT Try.prog 145 [(0, 1), (1, 1)] [.int .i64 0, .int .i64 0] := strT_struct (by kernel_rfl)
instance st151 : StrT Try.prog 151 [(0, 1), (1, 1)] [.slice none 0 0, .map none] := strT_struct (by kernel_rfl)
end Go.Proofs.Ytegbidklcaccjaa.R
