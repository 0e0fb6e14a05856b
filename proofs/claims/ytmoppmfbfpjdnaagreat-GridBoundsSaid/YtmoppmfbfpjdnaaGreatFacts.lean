/- What the engine's rules ask of the program's tables: an instance each. Printed by program (facts.py). -/
import Derived.Test.YtmoppmfbfpjdnaaGreatMem
import Derived.Test.YtmoppmfbfpjdnaaGreatChecked
namespace Go.Proofs.YtmoppmfbfpjdnaaGreat.R

instance kt3 : KindT Tryz.prog 3 false := ⟨by kernel_rfl⟩
instance sz3 : SzT Tryz.prog 3 1 := ⟨by kernel_rfl⟩
instance kt4 : KindT Tryz.prog 4 false := ⟨by kernel_rfl⟩
instance sz4 : SzT Tryz.prog 4 1 := ⟨by kernel_rfl⟩
instance kt22 : KindT Tryz.prog 22 false := ⟨by kernel_rfl⟩
instance sz22 : SzT Tryz.prog 22 1 := ⟨by kernel_rfl⟩
instance kt23 : KindT Tryz.prog 23 false := ⟨by kernel_rfl⟩
instance sz23 : SzT Tryz.prog 23 1 := ⟨by kernel_rfl⟩
instance kt24 : KindT Tryz.prog 24 false := ⟨by kernel_rfl⟩
instance sz24 : SzT Tryz.prog 24 1 := ⟨by kernel_rfl⟩
instance kt26 : KindT Tryz.prog 26 true := ⟨by kernel_rfl⟩
instance sz26 : SzT Tryz.prog 26 3 := ⟨by kernel_rfl⟩
instance kt28 : KindT Tryz.prog 28 true := ⟨by kernel_rfl⟩
instance sz28 : SzT Tryz.prog 28 2 := ⟨by kernel_rfl⟩
instance kt30 : KindT Tryz.prog 30 false := ⟨by kernel_rfl⟩
instance sz30 : SzT Tryz.prog 30 1 := ⟨by kernel_rfl⟩
instance kt34 : KindT Tryz.prog 34 false := ⟨by kernel_rfl⟩
instance sz34 : SzT Tryz.prog 34 1 := ⟨by kernel_rfl⟩
instance kt36 : KindT Tryz.prog 36 true := ⟨by kernel_rfl⟩
instance sz36 : SzT Tryz.prog 36 6 := ⟨by kernel_rfl⟩
instance kt40 : KindT Tryz.prog 40 false := ⟨by kernel_rfl⟩
instance sz40 : SzT Tryz.prog 40 1 := ⟨by kernel_rfl⟩
instance kt42 : KindT Tryz.prog 42 false := ⟨by kernel_rfl⟩
instance sz42 : SzT Tryz.prog 42 1 := ⟨by kernel_rfl⟩
instance kt44 : KindT Tryz.prog 44 true := ⟨by kernel_rfl⟩
instance sz44 : SzT Tryz.prog 44 8 := ⟨by kernel_rfl⟩
instance kt46 : KindT Tryz.prog 46 true := ⟨by kernel_rfl⟩
instance sz46 : SzT Tryz.prog 46 9 := ⟨by kernel_rfl⟩
instance kt48 : KindT Tryz.prog 48 true := ⟨by kernel_rfl⟩
instance sz48 : SzT Tryz.prog 48 17 := ⟨by kernel_rfl⟩
instance kt52 : KindT Tryz.prog 52 true := ⟨by kernel_rfl⟩
instance sz52 : SzT Tryz.prog 52 26 := ⟨by kernel_rfl⟩
instance kt54 : KindT Tryz.prog 54 true := ⟨by kernel_rfl⟩
instance sz54 : SzT Tryz.prog 54 5 := ⟨by kernel_rfl⟩
instance kt55 : KindT Tryz.prog 55 false := ⟨by kernel_rfl⟩
instance sz55 : SzT Tryz.prog 55 1 := ⟨by kernel_rfl⟩
instance kt57 : KindT Tryz.prog 57 true := ⟨by kernel_rfl⟩
instance sz57 : SzT Tryz.prog 57 2 := ⟨by kernel_rfl⟩
instance kt60 : KindT Tryz.prog 60 true := ⟨by kernel_rfl⟩
instance sz60 : SzT Tryz.prog 60 4 := ⟨by kernel_rfl⟩
instance kt71 : KindT Tryz.prog 71 true := ⟨by kernel_rfl⟩
instance sz71 : SzT Tryz.prog 71 4 := ⟨by kernel_rfl⟩
instance kt100 : KindT Tryz.prog 100 true := ⟨by kernel_rfl⟩
instance sz100 : SzT Tryz.prog 100 18 := ⟨by kernel_rfl⟩
instance kt117 : KindT Tryz.prog 117 true := ⟨by kernel_rfl⟩
instance sz117 : SzT Tryz.prog 117 2 := ⟨by kernel_rfl⟩
instance kt120 : KindT Tryz.prog 120 false := ⟨by kernel_rfl⟩
instance sz120 : SzT Tryz.prog 120 1 := ⟨by kernel_rfl⟩
instance kt123 : KindT Tryz.prog 123 true := ⟨by kernel_rfl⟩
instance sz123 : SzT Tryz.prog 123 3 := ⟨by kernel_rfl⟩
instance kt167 : KindT Tryz.prog 167 false := ⟨by kernel_rfl⟩
instance sz167 : SzT Tryz.prog 167 1 := ⟨by kernel_rfl⟩
instance sl22 : SliceT Tryz.prog 22 52 26 := ⟨by kernel_rfl, by kernel_rfl⟩
instance sl23 : SliceT Tryz.prog 23 54 5 := ⟨by kernel_rfl, by kernel_rfl⟩
instance sl24 : SliceT Tryz.prog 24 120 1 := ⟨by kernel_rfl, by kernel_rfl⟩
instance sl30 : SliceT Tryz.prog 30 186 3 := ⟨by kernel_rfl, by kernel_rfl⟩
instance sl34 : SliceT Tryz.prog 34 40 1 := ⟨by kernel_rfl, by kernel_rfl⟩
instance sl40 : SliceT Tryz.prog 40 3 1 := ⟨by kernel_rfl, by kernel_rfl⟩
instance ar44 : ArrT Tryz.prog 44 8 42 1 := ⟨by kernel_rfl, by kernel_rfl⟩
instance sl55 : SliceT Tryz.prog 55 42 1 := ⟨by kernel_rfl, by kernel_rfl⟩
instance sl120 : SliceT Tryz.prog 120 123 3 := ⟨by kernel_rfl, by kernel_rfl⟩
instance sl141 : SliceT Tryz.prog 141 44 8 := ⟨by kernel_rfl, by kernel_rfl⟩
instance ty0 : TyV Tryz.prog 0 .t := ⟨trivial⟩
instance ty3 : TyV Tryz.prog 3 .i := ⟨trivial⟩
instance ty4 : TyV Tryz.prog 4 .b := ⟨trivial⟩
instance ty5 : TyV Tryz.prog 5 .i := ⟨trivial⟩
instance ty22 : TyV Tryz.prog 22 .s := ⟨trivial⟩
instance ty23 : TyV Tryz.prog 23 .s := ⟨trivial⟩
instance ty24 : TyV Tryz.prog 24 .s := ⟨trivial⟩
instance ty26 : TyV Tryz.prog 26 .a := ⟨trivial⟩
instance ty28 : TyV Tryz.prog 28 .a := ⟨trivial⟩
instance ty30 : TyV Tryz.prog 30 .s := ⟨trivial⟩
instance ty32 : TyV Tryz.prog 32 .a := ⟨trivial⟩
instance ty34 : TyV Tryz.prog 34 .s := ⟨trivial⟩
instance ty36 : TyV Tryz.prog 36 .a := ⟨trivial⟩
instance ty37 : TyV Tryz.prog 37 .i := ⟨trivial⟩
instance ty38 : TyV Tryz.prog 38 .t := ⟨trivial⟩
instance ty40 : TyV Tryz.prog 40 .s := ⟨trivial⟩
instance ty42 : TyV Tryz.prog 42 .i := ⟨trivial⟩
instance ty44 : TyV Tryz.prog 44 .a := ⟨trivial⟩
instance ty46 : TyV Tryz.prog 46 .a := ⟨trivial⟩
instance ty48 : TyV Tryz.prog 48 .a := ⟨trivial⟩
instance ty49 : TyV Tryz.prog 49 .t := ⟨trivial⟩
instance ty52 : TyV Tryz.prog 52 .a := ⟨trivial⟩
instance ty54 : TyV Tryz.prog 54 .a := ⟨trivial⟩
instance ty55 : TyV Tryz.prog 55 .s := ⟨trivial⟩
instance ty57 : TyV Tryz.prog 57 .a := ⟨trivial⟩
instance ty60 : TyV Tryz.prog 60 .a := ⟨trivial⟩
instance ty67 : TyV Tryz.prog 67 .t := ⟨trivial⟩
instance ty71 : TyV Tryz.prog 71 .a := ⟨trivial⟩
instance ty76 : TyV Tryz.prog 76 .p := ⟨trivial⟩
instance ty89 : TyV Tryz.prog 89 .t := ⟨trivial⟩
instance ty93 : TyV Tryz.prog 93 .t := ⟨trivial⟩
instance ty95 : TyV Tryz.prog 95 .f := ⟨trivial⟩
instance ty97 : TyV Tryz.prog 97 .t := ⟨trivial⟩
instance ty100 : TyV Tryz.prog 100 .a := ⟨trivial⟩
instance ty112 : TyV Tryz.prog 112 .t := ⟨trivial⟩
instance ty117 : TyV Tryz.prog 117 .a := ⟨trivial⟩
instance ty120 : TyV Tryz.prog 120 .s := ⟨trivial⟩
instance ty123 : TyV Tryz.prog 123 .a := ⟨trivial⟩
instance ty124 : TyV Tryz.prog 124 .f := ⟨trivial⟩
instance ty125 : TyV Tryz.prog 125 .f := ⟨trivial⟩
instance ty132 : TyV Tryz.prog 132 .i := ⟨trivial⟩
instance ty138 : TyV Tryz.prog 138 .t := ⟨trivial⟩
instance ty141 : TyV Tryz.prog 141 .s := ⟨trivial⟩
instance ty144 : TyV Tryz.prog 144 .t := ⟨trivial⟩
instance ty148 : TyV Tryz.prog 148 .t := ⟨trivial⟩
instance ty152 : TyV Tryz.prog 152 .t := ⟨trivial⟩
instance ty156 : TyV Tryz.prog 156 .t := ⟨trivial⟩
instance ty159 : TyV Tryz.prog 159 .t := ⟨trivial⟩
instance ty162 : TyV Tryz.prog 162 .t := ⟨trivial⟩
instance el3 : ElemT Tryz.prog 3 (.int .i64 0) 1 8 := ⟨by kernel_rfl, by kernel_rfl, by decide⟩
instance el40 : ElemT Tryz.prog 40 (.slice none 0 0) 1 24 := ⟨by kernel_rfl, by kernel_rfl, by decide⟩
instance el42 : ElemT Tryz.prog 42 (.int .u64 0) 1 8 := ⟨by kernel_rfl, by kernel_rfl, by decide⟩
instance el44 : ElemT Tryz.prog 44 (.agg #[.int .u64 0, .int .u64 0, .int .u64 0, .int .u64 0, .int .u64 0, .int .u64 0, .int .u64 0, .int .u64 0]) 8 64 := ⟨by kernel_rfl, by kernel_rfl, by decide⟩
instance el52 : ElemT Tryz.prog 52 (.agg #[.bool false, .int .u64 0, .int .u64 0, .int .u64 0, .int .u64 0, .int .u64 0, .int .u64 0, .int .u64 0, .int .u64 0, .bool false, .int .u64 0, .int .u64 0, .int .u64 0, .int .u64 0, .int .u64 0, .int .u64 0, .int .u64 0, .int .u64 0, .int .u64 0, .int .u64 0, .int .u64 0, .int .u64 0, .int .u64 0, .int .u64 0, .int .u64 0, .int .u64 0]) 26 208 := ⟨by kernel_rfl, by kernel_rfl, by decide⟩
instance el54 : ElemT Tryz.prog 54 (.agg #[.int .i64 0, .int .i64 0, .int .i64 0, .bool false, .bool false]) 5 32 := ⟨by kernel_rfl, by kernel_rfl, by decide⟩
instance el120 : ElemT Tryz.prog 120 (.slice none 0 0) 1 24 := ⟨by kernel_rfl, by kernel_rfl, by decide⟩
instance el123 : ElemT Tryz.prog 123 (.agg #[.int .i64 0, .bool false, .int .i64 0]) 3 24 := ⟨by kernel_rfl, by kernel_rfl, by decide⟩
instance el186 : ElemT Tryz.prog 186 (.agg #[.int .i64 0, .int .i64 0, .bool false]) 3 24 := ⟨by kernel_rfl, by kernel_rfl, by decide⟩
instance de3 : DescT Tryz.prog 3 (.int .i64) := ⟨by kernel_rfl⟩
instance de4 : DescT Tryz.prog 4 .bool := ⟨by kernel_rfl⟩
instance de5 : DescT Tryz.prog 5 (.int .u8) := ⟨by kernel_rfl⟩
instance de37 : DescT Tryz.prog 37 (.int .i64) := ⟨by kernel_rfl⟩
instance de42 : DescT Tryz.prog 42 (.int .u64) := ⟨by kernel_rfl⟩
instance de44 : DescT Tryz.prog 44 (.array 8 42) := ⟨by kernel_rfl⟩
instance de132 : DescT Tryz.prog 132 (.int .u64) := ⟨by kernel_rfl⟩
instance ze26 : ZeroT Tryz.prog 26 (.agg #[.slice none 0 0, .slice none 0 0, .slice none 0 0]) := ⟨fun _ => by kernel_rfl⟩
instance ze28 : ZeroT Tryz.prog 28 (.agg #[.int .i64 0, .int .i64 0]) := ⟨fun _ => by kernel_rfl⟩
instance ze36 : ZeroT Tryz.prog 36 (.agg #[.int .i64 0, .int .i64 0, .int .i64 0, .int .i64 0, .int .i64 0, .slice none 0 0]) := ⟨fun _ => by kernel_rfl⟩
instance ze44 : ZeroT Tryz.prog 44 (.agg #[.int .u64 0, .int .u64 0, .int .u64 0, .int .u64 0, .int .u64 0, .int .u64 0, .int .u64 0, .int .u64 0]) := ⟨fun _ => by kernel_rfl⟩
instance ze46 : ZeroT Tryz.prog 46 (.agg #[.bool false, .int .u64 0, .int .u64 0, .int .u64 0, .int .u64 0, .int .u64 0, .int .u64 0, .int .u64 0, .int .u64 0]) := ⟨fun _ => by kernel_rfl⟩
instance ze48 : ZeroT Tryz.prog 48 (.agg #[.bool false, .int .u64 0, .int .u64 0, .int .u64 0, .int .u64 0, .int .u64 0, .int .u64 0, .int .u64 0, .int .u64 0, .int .u64 0, .int .u64 0, .int .u64 0, .int .u64 0, .int .u64 0, .int .u64 0, .int .u64 0, .int .u64 0]) := ⟨fun _ => by kernel_rfl⟩
instance ze52 : ZeroT Tryz.prog 52 (.agg #[.bool false, .int .u64 0, .int .u64 0, .int .u64 0, .int .u64 0, .int .u64 0, .int .u64 0, .int .u64 0, .int .u64 0, .bool false, .int .u64 0, .int .u64 0, .int .u64 0, .int .u64 0, .int .u64 0, .int .u64 0, .int .u64 0, .int .u64 0, .int .u64 0, .int .u64 0, .int .u64 0, .int .u64 0, .int .u64 0, .int .u64 0, .int .u64 0, .int .u64 0]) := ⟨fun _ => by kernel_rfl⟩
instance ze54 : ZeroT Tryz.prog 54 (.agg #[.int .i64 0, .int .i64 0, .int .i64 0, .bool false, .bool false]) := ⟨fun _ => by kernel_rfl⟩
instance ze57 : ZeroT Tryz.prog 57 (.agg #[.bool false, .slice none 0 0]) := ⟨fun _ => by kernel_rfl⟩
instance ze60 : ZeroT Tryz.prog 60 (.agg #[.bool false, .slice none 0 0, .bool false, .slice none 0 0]) := ⟨fun _ => by kernel_rfl⟩
instance ze71 : ZeroT Tryz.prog 71 (.agg #[.int .i64 0, .int .i64 0, .int .i64 0, .int .i64 0]) := ⟨fun _ => by kernel_rfl⟩
instance ze100 : ZeroT Tryz.prog 100 (.agg #[.bool false, .int .u64 0, .int .u64 0, .int .u64 0, .int .u64 0, .int .u64 0, .int .u64 0, .int .u64 0, .int .u64 0, .bool false, .int .u64 0, .int .u64 0, .int .u64 0, .int .u64 0, .int .u64 0, .int .u64 0, .int .u64 0, .int .u64 0]) := ⟨fun _ => by kernel_rfl⟩
instance ze117 : ZeroT Tryz.prog 117 (.agg #[.int .i64 0, .int .i64 0]) := ⟨fun _ => by kernel_rfl⟩
instance ze3 : ZeroT Tryz.prog 3 (.int .i64 0) := ⟨fun _ => by kernel_rfl⟩
instance ze40 : ZeroT Tryz.prog 40 (.slice none 0 0) := ⟨fun _ => by kernel_rfl⟩
instance ze42 : ZeroT Tryz.prog 42 (.int .u64 0) := ⟨fun _ => by kernel_rfl⟩
instance ze120 : ZeroT Tryz.prog 120 (.slice none 0 0) := ⟨fun _ => by kernel_rfl⟩
instance ze123 : ZeroT Tryz.prog 123 (.agg #[.int .i64 0, .bool false, .int .i64 0]) := ⟨fun _ => by kernel_rfl⟩
instance ze186 : ZeroT Tryz.prog 186 (.agg #[.int .i64 0, .int .i64 0, .bool false]) := ⟨fun _ => by kernel_rfl⟩
instance fi26_0 : FieldT Tryz.prog 26 0 0 := ⟨fun _ _ => by kernel_rfl⟩
instance fi26_1 : FieldT Tryz.prog 26 1 1 := ⟨fun _ _ => by kernel_rfl⟩
instance fi26_2 : FieldT Tryz.prog 26 2 2 := ⟨fun _ _ => by kernel_rfl⟩
instance fi28_0 : FieldT Tryz.prog 28 0 0 := ⟨fun _ _ => by kernel_rfl⟩
instance fi28_1 : FieldT Tryz.prog 28 1 1 := ⟨fun _ _ => by kernel_rfl⟩
instance fi32_0 : FieldT Tryz.prog 32 0 0 := ⟨fun _ _ => by kernel_rfl⟩
instance fi36_0 : FieldT Tryz.prog 36 0 0 := ⟨fun _ _ => by kernel_rfl⟩
instance fi36_1 : FieldT Tryz.prog 36 1 2 := ⟨fun _ _ => by kernel_rfl⟩
instance fi36_2 : FieldT Tryz.prog 36 2 3 := ⟨fun _ _ => by kernel_rfl⟩
instance fi36_3 : FieldT Tryz.prog 36 3 4 := ⟨fun _ _ => by kernel_rfl⟩
instance fi36_4 : FieldT Tryz.prog 36 4 5 := ⟨fun _ _ => by kernel_rfl⟩
instance fi46_0 : FieldT Tryz.prog 46 0 0 := ⟨fun _ _ => by kernel_rfl⟩
instance fi46_1 : FieldT Tryz.prog 46 1 1 := ⟨fun _ _ => by kernel_rfl⟩
instance fi48_0 : FieldT Tryz.prog 48 0 0 := ⟨fun _ _ => by kernel_rfl⟩
instance fi48_1 : FieldT Tryz.prog 48 1 9 := ⟨fun _ _ => by kernel_rfl⟩
instance fi52_0 : FieldT Tryz.prog 52 0 0 := ⟨fun _ _ => by kernel_rfl⟩
instance fi52_1 : FieldT Tryz.prog 52 1 9 := ⟨fun _ _ => by kernel_rfl⟩
instance fi52_2 : FieldT Tryz.prog 52 2 18 := ⟨fun _ _ => by kernel_rfl⟩
instance fi54_0 : FieldT Tryz.prog 54 0 0 := ⟨fun _ _ => by kernel_rfl⟩
instance fi54_1 : FieldT Tryz.prog 54 1 1 := ⟨fun _ _ => by kernel_rfl⟩
instance fi54_2 : FieldT Tryz.prog 54 2 2 := ⟨fun _ _ => by kernel_rfl⟩
instance fi54_3 : FieldT Tryz.prog 54 3 3 := ⟨fun _ _ => by kernel_rfl⟩
instance fi54_4 : FieldT Tryz.prog 54 4 4 := ⟨fun _ _ => by kernel_rfl⟩
instance fi57_0 : FieldT Tryz.prog 57 0 0 := ⟨fun _ _ => by kernel_rfl⟩
instance fi57_1 : FieldT Tryz.prog 57 1 1 := ⟨fun _ _ => by kernel_rfl⟩
instance fi60_0 : FieldT Tryz.prog 60 0 0 := ⟨fun _ _ => by kernel_rfl⟩
instance fi60_1 : FieldT Tryz.prog 60 1 2 := ⟨fun _ _ => by kernel_rfl⟩
instance fi71_0 : FieldT Tryz.prog 71 0 0 := ⟨fun _ _ => by kernel_rfl⟩
instance fi71_1 : FieldT Tryz.prog 71 1 2 := ⟨fun _ _ => by kernel_rfl⟩
instance fi100_0 : FieldT Tryz.prog 100 0 0 := ⟨fun _ _ => by kernel_rfl⟩
instance fi100_1 : FieldT Tryz.prog 100 1 9 := ⟨fun _ _ => by kernel_rfl⟩
instance fi117_0 : FieldT Tryz.prog 117 0 0 := ⟨fun _ _ => by kernel_rfl⟩
instance fi117_1 : FieldT Tryz.prog 117 1 1 := ⟨fun _ _ => by kernel_rfl⟩
instance fi123_0 : FieldT Tryz.prog 123 0 0 := ⟨fun _ _ => by kernel_rfl⟩
instance fi123_2 : FieldT Tryz.prog 123 2 2 := ⟨fun _ _ => by kernel_rfl⟩
instance hb4 : HasBody Tryz.prog 4 := ⟨_, Tryz.func4, by kernel_rfl, by kernel_rfl⟩
instance hb5 : HasBody Tryz.prog 5 := ⟨_, Tryz.func5, by kernel_rfl, by kernel_rfl⟩
instance hb6 : HasBody Tryz.prog 6 := ⟨_, Tryz.func6, by kernel_rfl, by kernel_rfl⟩
instance hb7 : HasBody Tryz.prog 7 := ⟨_, Tryz.func7, by kernel_rfl, by kernel_rfl⟩
instance hb8 : HasBody Tryz.prog 8 := ⟨_, Tryz.func8, by kernel_rfl, by kernel_rfl⟩
instance hb9 : HasBody Tryz.prog 9 := ⟨_, Tryz.func9, by kernel_rfl, by kernel_rfl⟩
instance hb10 : HasBody Tryz.prog 10 := ⟨_, Tryz.func10, by kernel_rfl, by kernel_rfl⟩
instance hb11 : HasBody Tryz.prog 11 := ⟨_, Tryz.func11, by kernel_rfl, by kernel_rfl⟩
instance hb12 : HasBody Tryz.prog 12 := ⟨_, Tryz.func12, by kernel_rfl, by kernel_rfl⟩
instance hb13 : HasBody Tryz.prog 13 := ⟨_, Tryz.func13, by kernel_rfl, by kernel_rfl⟩
instance hb14 : HasBody Tryz.prog 14 := ⟨_, Tryz.func14, by kernel_rfl, by kernel_rfl⟩
instance hb15 : HasBody Tryz.prog 15 := ⟨_, Tryz.func15, by kernel_rfl, by kernel_rfl⟩
instance hb16 : HasBody Tryz.prog 16 := ⟨_, Tryz.func16, by kernel_rfl, by kernel_rfl⟩
instance hb17 : HasBody Tryz.prog 17 := ⟨_, Tryz.func17, by kernel_rfl, by kernel_rfl⟩
instance hb18 : HasBody Tryz.prog 18 := ⟨_, Tryz.func18, by kernel_rfl, by kernel_rfl⟩
instance hb19 : HasBody Tryz.prog 19 := ⟨_, Tryz.func19, by kernel_rfl, by kernel_rfl⟩
instance hb20 : HasBody Tryz.prog 20 := ⟨_, Tryz.func20, by kernel_rfl, by kernel_rfl⟩
instance hb21 : HasBody Tryz.prog 21 := ⟨_, Tryz.func21, by kernel_rfl, by kernel_rfl⟩
instance hb22 : HasBody Tryz.prog 22 := ⟨_, Tryz.func22, by kernel_rfl, by kernel_rfl⟩
instance hb23 : HasBody Tryz.prog 23 := ⟨_, Tryz.func23, by kernel_rfl, by kernel_rfl⟩
instance hb24 : HasBody Tryz.prog 24 := ⟨_, Tryz.func24, by kernel_rfl, by kernel_rfl⟩
instance hb25 : HasBody Tryz.prog 25 := ⟨_, Tryz.func25, by kernel_rfl, by kernel_rfl⟩
instance hb26 : HasBody Tryz.prog 26 := ⟨_, Tryz.func26, by kernel_rfl, by kernel_rfl⟩
instance hb27 : HasBody Tryz.prog 27 := ⟨_, Tryz.func27, by kernel_rfl, by kernel_rfl⟩
instance hb28 : HasBody Tryz.prog 28 := ⟨_, Tryz.func28, by kernel_rfl, by kernel_rfl⟩
instance hb29 : HasBody Tryz.prog 29 := ⟨_, Tryz.func29, by kernel_rfl, by kernel_rfl⟩
instance hb30 : HasBody Tryz.prog 30 := ⟨_, Tryz.func30, by kernel_rfl, by kernel_rfl⟩
instance hb31 : HasBody Tryz.prog 31 := ⟨_, Tryz.func31, by kernel_rfl, by kernel_rfl⟩
instance hb32 : HasBody Tryz.prog 32 := ⟨_, Tryz.func32, by kernel_rfl, by kernel_rfl⟩
instance hb33 : HasBody Tryz.prog 33 := ⟨_, Tryz.func33, by kernel_rfl, by kernel_rfl⟩
instance hb34 : HasBody Tryz.prog 34 := ⟨_, Tryz.func34, by kernel_rfl, by kernel_rfl⟩
instance hb35 : HasBody Tryz.prog 35 := ⟨_, Tryz.func35, by kernel_rfl, by kernel_rfl⟩
instance hb36 : HasBody Tryz.prog 36 := ⟨_, Tryz.func36, by kernel_rfl, by kernel_rfl⟩
instance hb37 : HasBody Tryz.prog 37 := ⟨_, Tryz.func37, by kernel_rfl, by kernel_rfl⟩
instance hb38 : HasBody Tryz.prog 38 := ⟨_, Tryz.func38, by kernel_rfl, by kernel_rfl⟩
instance hb39 : HasBody Tryz.prog 39 := ⟨_, Tryz.func39, by kernel_rfl, by kernel_rfl⟩
instance hb40 : HasBody Tryz.prog 40 := ⟨_, Tryz.func40, by kernel_rfl, by kernel_rfl⟩
instance hb41 : HasBody Tryz.prog 41 := ⟨_, Tryz.func41, by kernel_rfl, by kernel_rfl⟩
instance hb42 : HasBody Tryz.prog 42 := ⟨_, Tryz.func42, by kernel_rfl, by kernel_rfl⟩
instance hb43 : HasBody Tryz.prog 43 := ⟨_, Tryz.func43, by kernel_rfl, by kernel_rfl⟩
instance hb44 : HasBody Tryz.prog 44 := ⟨_, Tryz.func44, by kernel_rfl, by kernel_rfl⟩
instance hb45 : HasBody Tryz.prog 45 := ⟨_, Tryz.func45, by kernel_rfl, by kernel_rfl⟩
instance hb46 : HasBody Tryz.prog 46 := ⟨_, Tryz.func46, by kernel_rfl, by kernel_rfl⟩
instance hb47 : HasBody Tryz.prog 47 := ⟨_, Tryz.func47, by kernel_rfl, by kernel_rfl⟩
instance hb48 : HasBody Tryz.prog 48 := ⟨_, Tryz.func48, by kernel_rfl, by kernel_rfl⟩
instance hb49 : HasBody Tryz.prog 49 := ⟨_, Tryz.func49, by kernel_rfl, by kernel_rfl⟩
instance hb50 : HasBody Tryz.prog 50 := ⟨_, Tryz.func50, by kernel_rfl, by kernel_rfl⟩
instance hb51 : HasBody Tryz.prog 51 := ⟨_, Tryz.func51, by kernel_rfl, by kernel_rfl⟩
instance hb52 : HasBody Tryz.prog 52 := ⟨_, Tryz.func52, by kernel_rfl, by kernel_rfl⟩
instance hb53 : HasBody Tryz.prog 53 := ⟨_, Tryz.func53, by kernel_rfl, by kernel_rfl⟩
instance hb54 : HasBody Tryz.prog 54 := ⟨_, Tryz.func54, by kernel_rfl, by kernel_rfl⟩
instance hb55 : HasBody Tryz.prog 55 := ⟨_, Tryz.func55, by kernel_rfl, by kernel_rfl⟩
instance hb56 : HasBody Tryz.prog 56 := ⟨_, Tryz.func56, by kernel_rfl, by kernel_rfl⟩
instance hb57 : HasBody Tryz.prog 57 := ⟨_, Tryz.func57, by kernel_rfl, by kernel_rfl⟩
instance hb58 : HasBody Tryz.prog 58 := ⟨_, Tryz.func58, by kernel_rfl, by kernel_rfl⟩
instance hb59 : HasBody Tryz.prog 59 := ⟨_, Tryz.func59, by kernel_rfl, by kernel_rfl⟩
instance hb60 : HasBody Tryz.prog 60 := ⟨_, Tryz.func60, by kernel_rfl, by kernel_rfl⟩
instance hb61 : HasBody Tryz.prog 61 := ⟨_, Tryz.func61, by kernel_rfl, by kernel_rfl⟩
instance hb62 : HasBody Tryz.prog 62 := ⟨_, Tryz.func62, by kernel_rfl, by kernel_rfl⟩
instance hb63 : HasBody Tryz.prog 63 := ⟨_, Tryz.func63, by kernel_rfl, by kernel_rfl⟩
instance hb64 : HasBody Tryz.prog 64 := ⟨_, Tryz.func64, by kernel_rfl, by kernel_rfl⟩
instance hb65 : HasBody Tryz.prog 65 := ⟨_, Tryz.func65, by kernel_rfl, by kernel_rfl⟩
instance hb66 : HasBody Tryz.prog 66 := ⟨_, Tryz.func66, by kernel_rfl, by kernel_rfl⟩
instance hb67 : HasBody Tryz.prog 67 := ⟨_, Tryz.func67, by kernel_rfl, by kernel_rfl⟩
instance hb68 : HasBody Tryz.prog 68 := ⟨_, Tryz.func68, by kernel_rfl, by kernel_rfl⟩
instance hb69 : HasBody Tryz.prog 69 := ⟨_, Tryz.func69, by kernel_rfl, by kernel_rfl⟩
instance hb70 : HasBody Tryz.prog 70 := ⟨_, Tryz.func70, by kernel_rfl, by kernel_rfl⟩
instance hb71 : HasBody Tryz.prog 71 := ⟨_, Tryz.func71, by kernel_rfl, by kernel_rfl⟩
instance hb72 : HasBody Tryz.prog 72 := ⟨_, Tryz.func72, by kernel_rfl, by kernel_rfl⟩
instance hb73 : HasBody Tryz.prog 73 := ⟨_, Tryz.func73, by kernel_rfl, by kernel_rfl⟩
instance hb74 : HasBody Tryz.prog 74 := ⟨_, Tryz.func74, by kernel_rfl, by kernel_rfl⟩
instance hb75 : HasBody Tryz.prog 75 := ⟨_, Tryz.func75, by kernel_rfl, by kernel_rfl⟩
instance hb76 : HasBody Tryz.prog 76 := ⟨_, Tryz.func76, by kernel_rfl, by kernel_rfl⟩
instance hb77 : HasBody Tryz.prog 77 := ⟨_, Tryz.func77, by kernel_rfl, by kernel_rfl⟩
instance hb78 : HasBody Tryz.prog 78 := ⟨_, Tryz.func78, by kernel_rfl, by kernel_rfl⟩
instance hb79 : HasBody Tryz.prog 79 := ⟨_, Tryz.func79, by kernel_rfl, by kernel_rfl⟩
instance hb80 : HasBody Tryz.prog 80 := ⟨_, Tryz.func80, by kernel_rfl, by kernel_rfl⟩
instance hb81 : HasBody Tryz.prog 81 := ⟨_, Tryz.func81, by kernel_rfl, by kernel_rfl⟩
instance hb82 : HasBody Tryz.prog 82 := ⟨_, Tryz.func82, by kernel_rfl, by kernel_rfl⟩
instance hb83 : HasBody Tryz.prog 83 := ⟨_, Tryz.func83, by kernel_rfl, by kernel_rfl⟩
instance hb84 : HasBody Tryz.prog 84 := ⟨_, Tryz.func84, by kernel_rfl, by kernel_rfl⟩
instance hb85 : HasBody Tryz.prog 85 := ⟨_, Tryz.func85, by kernel_rfl, by kernel_rfl⟩
instance hb86 : HasBody Tryz.prog 86 := ⟨_, Tryz.func86, by kernel_rfl, by kernel_rfl⟩
instance hb87 : HasBody Tryz.prog 87 := ⟨_, Tryz.func87, by kernel_rfl, by kernel_rfl⟩
instance hb88 : HasBody Tryz.prog 88 := ⟨_, Tryz.func88, by kernel_rfl, by kernel_rfl⟩
instance hb89 : HasBody Tryz.prog 89 := ⟨_, Tryz.func89, by kernel_rfl, by kernel_rfl⟩
instance hb90 : HasBody Tryz.prog 90 := ⟨_, Tryz.func90, by kernel_rfl, by kernel_rfl⟩
instance hb91 : HasBody Tryz.prog 91 := ⟨_, Tryz.func91, by kernel_rfl, by kernel_rfl⟩
instance hb92 : HasBody Tryz.prog 92 := ⟨_, Tryz.func92, by kernel_rfl, by kernel_rfl⟩
instance hb93 : HasBody Tryz.prog 93 := ⟨_, Tryz.func93, by kernel_rfl, by kernel_rfl⟩
instance hb94 : HasBody Tryz.prog 94 := ⟨_, Tryz.func94, by kernel_rfl, by kernel_rfl⟩
instance hb95 : HasBody Tryz.prog 95 := ⟨_, Tryz.func95, by kernel_rfl, by kernel_rfl⟩
instance hb96 : HasBody Tryz.prog 96 := ⟨_, Tryz.func96, by kernel_rfl, by kernel_rfl⟩
instance hb97 : HasBody Tryz.prog 97 := ⟨_, Tryz.func97, by kernel_rfl, by kernel_rfl⟩
instance hb98 : HasBody Tryz.prog 98 := ⟨_, Tryz.func98, by kernel_rfl, by kernel_rfl⟩
instance hb99 : HasBody Tryz.prog 99 := ⟨_, Tryz.func99, by kernel_rfl, by kernel_rfl⟩
instance hb100 : HasBody Tryz.prog 100 := ⟨_, Tryz.func100, by kernel_rfl, by kernel_rfl⟩
instance hb101 : HasBody Tryz.prog 101 := ⟨_, Tryz.func101, by kernel_rfl, by kernel_rfl⟩
instance hb102 : HasBody Tryz.prog 102 := ⟨_, Tryz.func102, by kernel_rfl, by kernel_rfl⟩
instance hb103 : HasBody Tryz.prog 103 := ⟨_, Tryz.func103, by kernel_rfl, by kernel_rfl⟩
instance hb104 : HasBody Tryz.prog 104 := ⟨_, Tryz.func104, by kernel_rfl, by kernel_rfl⟩
instance hb105 : HasBody Tryz.prog 105 := ⟨_, Tryz.func105, by kernel_rfl, by kernel_rfl⟩
instance hb106 : HasBody Tryz.prog 106 := ⟨_, Tryz.func106, by kernel_rfl, by kernel_rfl⟩
instance hb107 : HasBody Tryz.prog 107 := ⟨_, Tryz.func107, by kernel_rfl, by kernel_rfl⟩
instance hb108 : HasBody Tryz.prog 108 := ⟨_, Tryz.func108, by kernel_rfl, by kernel_rfl⟩
instance hb109 : HasBody Tryz.prog 109 := ⟨_, Tryz.func109, by kernel_rfl, by kernel_rfl⟩
instance hb110 : HasBody Tryz.prog 110 := ⟨_, Tryz.func110, by kernel_rfl, by kernel_rfl⟩
instance hb111 : HasBody Tryz.prog 111 := ⟨_, Tryz.func111, by kernel_rfl, by kernel_rfl⟩
instance hb112 : HasBody Tryz.prog 112 := ⟨_, Tryz.func112, by kernel_rfl, by kernel_rfl⟩
instance hb113 : HasBody Tryz.prog 113 := ⟨_, Tryz.func113, by kernel_rfl, by kernel_rfl⟩
instance hb114 : HasBody Tryz.prog 114 := ⟨_, Tryz.func114, by kernel_rfl, by kernel_rfl⟩
instance hb115 : HasBody Tryz.prog 115 := ⟨_, Tryz.func115, by kernel_rfl, by kernel_rfl⟩
instance hb116 : HasBody Tryz.prog 116 := ⟨_, Tryz.func116, by kernel_rfl, by kernel_rfl⟩
instance hb117 : HasBody Tryz.prog 117 := ⟨_, Tryz.func117, by kernel_rfl, by kernel_rfl⟩
instance hb118 : HasBody Tryz.prog 118 := ⟨_, Tryz.func118, by kernel_rfl, by kernel_rfl⟩
instance hb119 : HasBody Tryz.prog 119 := ⟨_, Tryz.func119, by kernel_rfl, by kernel_rfl⟩
instance hb120 : HasBody Tryz.prog 120 := ⟨_, Tryz.func120, by kernel_rfl, by kernel_rfl⟩
instance hb121 : HasBody Tryz.prog 121 := ⟨_, Tryz.func121, by kernel_rfl, by kernel_rfl⟩
instance hb122 : HasBody Tryz.prog 122 := ⟨_, Tryz.func122, by kernel_rfl, by kernel_rfl⟩
instance hb123 : HasBody Tryz.prog 123 := ⟨_, Tryz.func123, by kernel_rfl, by kernel_rfl⟩
instance hb126 : HasBody Tryz.prog 126 := ⟨_, Tryz.func126, by kernel_rfl, by kernel_rfl⟩
instance hb127 : HasBody Tryz.prog 127 := ⟨_, Tryz.func127, by kernel_rfl, by kernel_rfl⟩
instance hb128 : HasBody Tryz.prog 128 := ⟨_, Tryz.func128, by kernel_rfl, by kernel_rfl⟩
theorem mixed : Tryz.prog.follows .mixedOrders = true := by kernel_rfl
end Go.Proofs.YtmoppmfbfpjdnaaGreat.R
