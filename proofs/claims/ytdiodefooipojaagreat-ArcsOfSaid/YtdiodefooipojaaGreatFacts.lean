/- What the engine's rules ask of the program's tables: an instance each. Printed by program (facts.py). -/
import Derived.Test.YtdiodefooipojaaGreatMem
import Derived.Test.YtdiodefooipojaaGreatChecked
namespace Go.Proofs.YtdiodefooipojaaGreat.R

instance kt3 : KindT Tryz.prog 3 false := ⟨by kernel_rfl⟩
instance sz3 : SzT Tryz.prog 3 1 := ⟨by kernel_rfl⟩
instance kt4 : KindT Tryz.prog 4 false := ⟨by kernel_rfl⟩
instance sz4 : SzT Tryz.prog 4 1 := ⟨by kernel_rfl⟩
instance kt22 : KindT Tryz.prog 22 false := ⟨by kernel_rfl⟩
instance sz22 : SzT Tryz.prog 22 1 := ⟨by kernel_rfl⟩
instance kt23 : KindT Tryz.prog 23 false := ⟨by kernel_rfl⟩
instance sz23 : SzT Tryz.prog 23 1 := ⟨by kernel_rfl⟩
instance kt24 : KindT Tryz.prog 24 false := ⟨by kernel_rfl⟩
instance sz24 : SzT Tryz.prog 24 1 := ⟨by kernel_rfl⟩
instance kt26 : KindT Tryz.prog 26 true := ⟨by kernel_rfl⟩
instance sz26 : SzT Tryz.prog 26 3 := ⟨by kernel_rfl⟩
instance kt27 : KindT Tryz.prog 27 false := ⟨by kernel_rfl⟩
instance sz27 : SzT Tryz.prog 27 1 := ⟨by kernel_rfl⟩
instance kt29 : KindT Tryz.prog 29 true := ⟨by kernel_rfl⟩
instance sz29 : SzT Tryz.prog 29 2 := ⟨by kernel_rfl⟩
instance kt32 : KindT Tryz.prog 32 false := ⟨by kernel_rfl⟩
instance sz32 : SzT Tryz.prog 32 1 := ⟨by kernel_rfl⟩
instance kt34 : KindT Tryz.prog 34 true := ⟨by kernel_rfl⟩
instance sz34 : SzT Tryz.prog 34 3 := ⟨by kernel_rfl⟩
instance kt55 : KindT Tryz.prog 55 true := ⟨by kernel_rfl⟩
instance sz55 : SzT Tryz.prog 55 5 := ⟨by kernel_rfl⟩
instance kt56 : KindT Tryz.prog 56 false := ⟨by kernel_rfl⟩
instance sz56 : SzT Tryz.prog 56 1 := ⟨by kernel_rfl⟩
instance kt58 : KindT Tryz.prog 58 true := ⟨by kernel_rfl⟩
instance sz58 : SzT Tryz.prog 58 2 := ⟨by kernel_rfl⟩
instance kt61 : KindT Tryz.prog 61 true := ⟨by kernel_rfl⟩
instance sz61 : SzT Tryz.prog 61 2 := ⟨by kernel_rfl⟩
instance kt67 : KindT Tryz.prog 67 true := ⟨by kernel_rfl⟩
instance sz67 : SzT Tryz.prog 67 3 := ⟨by kernel_rfl⟩
instance kt74 : KindT Tryz.prog 74 false := ⟨by kernel_rfl⟩
instance sz74 : SzT Tryz.prog 74 1 := ⟨by kernel_rfl⟩
instance kt76 : KindT Tryz.prog 76 true := ⟨by kernel_rfl⟩
instance sz76 : SzT Tryz.prog 76 8 := ⟨by kernel_rfl⟩
instance kt78 : KindT Tryz.prog 78 true := ⟨by kernel_rfl⟩
instance sz78 : SzT Tryz.prog 78 9 := ⟨by kernel_rfl⟩
instance kt80 : KindT Tryz.prog 80 true := ⟨by kernel_rfl⟩
instance sz80 : SzT Tryz.prog 80 26 := ⟨by kernel_rfl⟩
instance kt88 : KindT Tryz.prog 88 false := ⟨by kernel_rfl⟩
instance sz88 : SzT Tryz.prog 88 1 := ⟨by kernel_rfl⟩
instance kt90 : KindT Tryz.prog 90 true := ⟨by kernel_rfl⟩
instance sz90 : SzT Tryz.prog 90 3 := ⟨by kernel_rfl⟩
instance kt99 : KindT Tryz.prog 99 true := ⟨by kernel_rfl⟩
instance sz99 : SzT Tryz.prog 99 2 := ⟨by kernel_rfl⟩
instance kt156 : KindT Tryz.prog 156 false := ⟨by kernel_rfl⟩
instance sz156 : SzT Tryz.prog 156 1 := ⟨by kernel_rfl⟩
instance sl22 : SliceT Tryz.prog 22 80 26 := ⟨by kernel_rfl, by kernel_rfl⟩
instance sl23 : SliceT Tryz.prog 23 55 5 := ⟨by kernel_rfl, by kernel_rfl⟩
instance sl24 : SliceT Tryz.prog 24 88 1 := ⟨by kernel_rfl, by kernel_rfl⟩
instance sl27 : SliceT Tryz.prog 27 67 3 := ⟨by kernel_rfl, by kernel_rfl⟩
instance sl32 : SliceT Tryz.prog 32 3 1 := ⟨by kernel_rfl, by kernel_rfl⟩
instance sl46 : SliceT Tryz.prog 46 61 2 := ⟨by kernel_rfl, by kernel_rfl⟩
instance sl48 : SliceT Tryz.prog 48 4 1 := ⟨by kernel_rfl, by kernel_rfl⟩
instance sl50 : SliceT Tryz.prog 50 32 1 := ⟨by kernel_rfl, by kernel_rfl⟩
instance ar76 : ArrT Tryz.prog 76 8 74 1 := ⟨by kernel_rfl, by kernel_rfl⟩
instance sl88 : SliceT Tryz.prog 88 90 3 := ⟨by kernel_rfl, by kernel_rfl⟩
instance sl116 : SliceT Tryz.prog 116 74 1 := ⟨by kernel_rfl, by kernel_rfl⟩
instance sl125 : SliceT Tryz.prog 125 76 8 := ⟨by kernel_rfl, by kernel_rfl⟩
instance ty0 : TyV Tryz.prog 0 .t := ⟨trivial⟩
instance ty3 : TyV Tryz.prog 3 .i := ⟨trivial⟩
instance ty4 : TyV Tryz.prog 4 .b := ⟨trivial⟩
instance ty5 : TyV Tryz.prog 5 .i := ⟨trivial⟩
instance ty22 : TyV Tryz.prog 22 .s := ⟨trivial⟩
instance ty23 : TyV Tryz.prog 23 .s := ⟨trivial⟩
instance ty24 : TyV Tryz.prog 24 .s := ⟨trivial⟩
instance ty26 : TyV Tryz.prog 26 .a := ⟨trivial⟩
instance ty27 : TyV Tryz.prog 27 .s := ⟨trivial⟩
instance ty29 : TyV Tryz.prog 29 .a := ⟨trivial⟩
instance ty32 : TyV Tryz.prog 32 .s := ⟨trivial⟩
instance ty34 : TyV Tryz.prog 34 .a := ⟨trivial⟩
instance ty35 : TyV Tryz.prog 35 .i := ⟨trivial⟩
instance ty36 : TyV Tryz.prog 36 .t := ⟨trivial⟩
instance ty42 : TyV Tryz.prog 42 .t := ⟨trivial⟩
instance ty46 : TyV Tryz.prog 46 .s := ⟨trivial⟩
instance ty48 : TyV Tryz.prog 48 .s := ⟨trivial⟩
instance ty50 : TyV Tryz.prog 50 .s := ⟨trivial⟩
instance ty52 : TyV Tryz.prog 52 .m := ⟨trivial⟩
instance ty55 : TyV Tryz.prog 55 .a := ⟨trivial⟩
instance ty56 : TyV Tryz.prog 56 .m := ⟨trivial⟩
instance ty58 : TyV Tryz.prog 58 .a := ⟨trivial⟩
instance ty61 : TyV Tryz.prog 61 .a := ⟨trivial⟩
instance ty63 : TyV Tryz.prog 63 .p := ⟨trivial⟩
instance ty67 : TyV Tryz.prog 67 .a := ⟨trivial⟩
instance ty72 : TyV Tryz.prog 72 .f := ⟨trivial⟩
instance ty74 : TyV Tryz.prog 74 .i := ⟨trivial⟩
instance ty76 : TyV Tryz.prog 76 .a := ⟨trivial⟩
instance ty78 : TyV Tryz.prog 78 .a := ⟨trivial⟩
instance ty80 : TyV Tryz.prog 80 .a := ⟨trivial⟩
instance ty83 : TyV Tryz.prog 83 .a := ⟨trivial⟩
instance ty85 : TyV Tryz.prog 85 .t := ⟨trivial⟩
instance ty88 : TyV Tryz.prog 88 .s := ⟨trivial⟩
instance ty90 : TyV Tryz.prog 90 .a := ⟨trivial⟩
instance ty93 : TyV Tryz.prog 93 .i := ⟨trivial⟩
instance ty99 : TyV Tryz.prog 99 .a := ⟨trivial⟩
instance ty103 : TyV Tryz.prog 103 .f := ⟨trivial⟩
instance ty104 : TyV Tryz.prog 104 .f := ⟨trivial⟩
instance ty105 : TyV Tryz.prog 105 .t := ⟨trivial⟩
instance ty116 : TyV Tryz.prog 116 .s := ⟨trivial⟩
instance ty119 : TyV Tryz.prog 119 .t := ⟨trivial⟩
instance ty122 : TyV Tryz.prog 122 .t := ⟨trivial⟩
instance ty125 : TyV Tryz.prog 125 .s := ⟨trivial⟩
instance ty127 : TyV Tryz.prog 127 .t := ⟨trivial⟩
instance ty130 : TyV Tryz.prog 130 .t := ⟨trivial⟩
instance ty132 : TyV Tryz.prog 132 .t := ⟨trivial⟩
instance ty136 : TyV Tryz.prog 136 .t := ⟨trivial⟩
instance ty149 : TyV Tryz.prog 149 .t := ⟨trivial⟩
instance ty151 : TyV Tryz.prog 151 .t := ⟨trivial⟩
instance el3 : ElemT Tryz.prog 3 (.int .i64 0) 1 8 := ⟨by kernel_rfl, by kernel_rfl, by decide⟩
instance el4 : ElemT Tryz.prog 4 (.bool false) 1 1 := ⟨by kernel_rfl, by kernel_rfl, by decide⟩
instance el32 : ElemT Tryz.prog 32 (.slice none 0 0) 1 24 := ⟨by kernel_rfl, by kernel_rfl, by decide⟩
instance el55 : ElemT Tryz.prog 55 (.agg #[.int .i64 0, .int .i64 0, .int .i64 0, .bool false, .bool false]) 5 32 := ⟨by kernel_rfl, by kernel_rfl, by decide⟩
instance el61 : ElemT Tryz.prog 61 (.agg #[.int .i64 0, .int .i64 0]) 2 16 := ⟨by kernel_rfl, by kernel_rfl, by decide⟩
instance el67 : ElemT Tryz.prog 67 (.agg #[.int .i64 0, .int .i64 0, .bool false]) 3 24 := ⟨by kernel_rfl, by kernel_rfl, by decide⟩
instance el74 : ElemT Tryz.prog 74 (.int .u64 0) 1 8 := ⟨by kernel_rfl, by kernel_rfl, by decide⟩
instance el76 : ElemT Tryz.prog 76 (.agg #[.int .u64 0, .int .u64 0, .int .u64 0, .int .u64 0, .int .u64 0, .int .u64 0, .int .u64 0, .int .u64 0]) 8 64 := ⟨by kernel_rfl, by kernel_rfl, by decide⟩
instance el80 : ElemT Tryz.prog 80 (.agg #[.bool false, .int .u64 0, .int .u64 0, .int .u64 0, .int .u64 0, .int .u64 0, .int .u64 0, .int .u64 0, .int .u64 0, .bool false, .int .u64 0, .int .u64 0, .int .u64 0, .int .u64 0, .int .u64 0, .int .u64 0, .int .u64 0, .int .u64 0, .int .u64 0, .int .u64 0, .int .u64 0, .int .u64 0, .int .u64 0, .int .u64 0, .int .u64 0, .int .u64 0]) 26 208 := ⟨by kernel_rfl, by kernel_rfl, by decide⟩
instance el88 : ElemT Tryz.prog 88 (.slice none 0 0) 1 24 := ⟨by kernel_rfl, by kernel_rfl, by decide⟩
instance el90 : ElemT Tryz.prog 90 (.agg #[.int .i64 0, .bool false, .int .i64 0]) 3 24 := ⟨by kernel_rfl, by kernel_rfl, by decide⟩
instance de3 : DescT Tryz.prog 3 (.int .i64) := ⟨by kernel_rfl⟩
instance de4 : DescT Tryz.prog 4 .bool := ⟨by kernel_rfl⟩
instance de5 : DescT Tryz.prog 5 (.int .u8) := ⟨by kernel_rfl⟩
instance de35 : DescT Tryz.prog 35 (.int .i64) := ⟨by kernel_rfl⟩
instance de52 : DescT Tryz.prog 52 (.map 3 58) := ⟨by kernel_rfl⟩
instance de56 : DescT Tryz.prog 56 (.map 3 4) := ⟨by kernel_rfl⟩
instance de74 : DescT Tryz.prog 74 (.int .u64) := ⟨by kernel_rfl⟩
instance de76 : DescT Tryz.prog 76 (.array 8 74) := ⟨by kernel_rfl⟩
instance de93 : DescT Tryz.prog 93 (.int .u64) := ⟨by kernel_rfl⟩
instance ze26 : ZeroT Tryz.prog 26 (.agg #[.slice none 0 0, .slice none 0 0, .slice none 0 0]) := ⟨fun _ => by kernel_rfl⟩
instance ze34 : ZeroT Tryz.prog 34 (.agg #[.slice none 0 0, .slice none 0 0, .slice none 0 0]) := ⟨fun _ => by kernel_rfl⟩
instance ze55 : ZeroT Tryz.prog 55 (.agg #[.int .i64 0, .int .i64 0, .int .i64 0, .bool false, .bool false]) := ⟨fun _ => by kernel_rfl⟩
instance ze58 : ZeroT Tryz.prog 58 (.agg #[.map none, .map none]) := ⟨fun _ => by kernel_rfl⟩
instance ze61 : ZeroT Tryz.prog 61 (.agg #[.int .i64 0, .int .i64 0]) := ⟨fun _ => by kernel_rfl⟩
instance ze67 : ZeroT Tryz.prog 67 (.agg #[.int .i64 0, .int .i64 0, .bool false]) := ⟨fun _ => by kernel_rfl⟩
instance ze76 : ZeroT Tryz.prog 76 (.agg #[.int .u64 0, .int .u64 0, .int .u64 0, .int .u64 0, .int .u64 0, .int .u64 0, .int .u64 0, .int .u64 0]) := ⟨fun _ => by kernel_rfl⟩
instance ze78 : ZeroT Tryz.prog 78 (.agg #[.bool false, .int .u64 0, .int .u64 0, .int .u64 0, .int .u64 0, .int .u64 0, .int .u64 0, .int .u64 0, .int .u64 0]) := ⟨fun _ => by kernel_rfl⟩
instance ze80 : ZeroT Tryz.prog 80 (.agg #[.bool false, .int .u64 0, .int .u64 0, .int .u64 0, .int .u64 0, .int .u64 0, .int .u64 0, .int .u64 0, .int .u64 0, .bool false, .int .u64 0, .int .u64 0, .int .u64 0, .int .u64 0, .int .u64 0, .int .u64 0, .int .u64 0, .int .u64 0, .int .u64 0, .int .u64 0, .int .u64 0, .int .u64 0, .int .u64 0, .int .u64 0, .int .u64 0, .int .u64 0]) := ⟨fun _ => by kernel_rfl⟩
instance ze90 : ZeroT Tryz.prog 90 (.agg #[.int .i64 0, .bool false, .int .i64 0]) := ⟨fun _ => by kernel_rfl⟩
instance ze99 : ZeroT Tryz.prog 99 (.agg #[.int .i64 0, .int .i64 0]) := ⟨fun _ => by kernel_rfl⟩
instance ze3 : ZeroT Tryz.prog 3 (.int .i64 0) := ⟨fun _ => by kernel_rfl⟩
instance ze4 : ZeroT Tryz.prog 4 (.bool false) := ⟨fun _ => by kernel_rfl⟩
instance ze32 : ZeroT Tryz.prog 32 (.slice none 0 0) := ⟨fun _ => by kernel_rfl⟩
instance ze74 : ZeroT Tryz.prog 74 (.int .u64 0) := ⟨fun _ => by kernel_rfl⟩
instance ze88 : ZeroT Tryz.prog 88 (.slice none 0 0) := ⟨fun _ => by kernel_rfl⟩
instance fi26_0 : FieldT Tryz.prog 26 0 0 := ⟨fun _ _ => by kernel_rfl⟩
instance fi26_1 : FieldT Tryz.prog 26 1 1 := ⟨fun _ _ => by kernel_rfl⟩
instance fi26_2 : FieldT Tryz.prog 26 2 2 := ⟨fun _ _ => by kernel_rfl⟩
instance fi29_0 : FieldT Tryz.prog 29 0 0 := ⟨fun _ _ => by kernel_rfl⟩
instance fi29_1 : FieldT Tryz.prog 29 1 1 := ⟨fun _ _ => by kernel_rfl⟩
instance fi34_0 : FieldT Tryz.prog 34 0 0 := ⟨fun _ _ => by kernel_rfl⟩
instance fi34_1 : FieldT Tryz.prog 34 1 1 := ⟨fun _ _ => by kernel_rfl⟩
instance fi34_2 : FieldT Tryz.prog 34 2 2 := ⟨fun _ _ => by kernel_rfl⟩
instance fi55_0 : FieldT Tryz.prog 55 0 0 := ⟨fun _ _ => by kernel_rfl⟩
instance fi55_1 : FieldT Tryz.prog 55 1 1 := ⟨fun _ _ => by kernel_rfl⟩
instance fi55_2 : FieldT Tryz.prog 55 2 2 := ⟨fun _ _ => by kernel_rfl⟩
instance fi55_3 : FieldT Tryz.prog 55 3 3 := ⟨fun _ _ => by kernel_rfl⟩
instance fi55_4 : FieldT Tryz.prog 55 4 4 := ⟨fun _ _ => by kernel_rfl⟩
instance fi58_0 : FieldT Tryz.prog 58 0 0 := ⟨fun _ _ => by kernel_rfl⟩
instance fi58_1 : FieldT Tryz.prog 58 1 1 := ⟨fun _ _ => by kernel_rfl⟩
instance fi61_0 : FieldT Tryz.prog 61 0 0 := ⟨fun _ _ => by kernel_rfl⟩
instance fi61_1 : FieldT Tryz.prog 61 1 1 := ⟨fun _ _ => by kernel_rfl⟩
instance fi67_0 : FieldT Tryz.prog 67 0 0 := ⟨fun _ _ => by kernel_rfl⟩
instance fi67_1 : FieldT Tryz.prog 67 1 1 := ⟨fun _ _ => by kernel_rfl⟩
instance fi67_2 : FieldT Tryz.prog 67 2 2 := ⟨fun _ _ => by kernel_rfl⟩
instance fi78_0 : FieldT Tryz.prog 78 0 0 := ⟨fun _ _ => by kernel_rfl⟩
instance fi78_1 : FieldT Tryz.prog 78 1 1 := ⟨fun _ _ => by kernel_rfl⟩
instance fi80_0 : FieldT Tryz.prog 80 0 0 := ⟨fun _ _ => by kernel_rfl⟩
instance fi80_1 : FieldT Tryz.prog 80 1 9 := ⟨fun _ _ => by kernel_rfl⟩
instance fi80_2 : FieldT Tryz.prog 80 2 18 := ⟨fun _ _ => by kernel_rfl⟩
instance fi83_0 : FieldT Tryz.prog 83 0 0 := ⟨fun _ _ => by kernel_rfl⟩
instance fi83_1 : FieldT Tryz.prog 83 1 1 := ⟨fun _ _ => by kernel_rfl⟩
instance fi90_0 : FieldT Tryz.prog 90 0 0 := ⟨fun _ _ => by kernel_rfl⟩
instance fi90_2 : FieldT Tryz.prog 90 2 2 := ⟨fun _ _ => by kernel_rfl⟩
instance fi99_0 : FieldT Tryz.prog 99 0 0 := ⟨fun _ _ => by kernel_rfl⟩
instance fi99_1 : FieldT Tryz.prog 99 1 1 := ⟨fun _ _ => by kernel_rfl⟩
instance hb4 : HasBody Tryz.prog 4 := ⟨_, Tryz.func4, by kernel_rfl, by kernel_rfl⟩
instance hb5 : HasBody Tryz.prog 5 := ⟨_, Tryz.func5, by kernel_rfl, by kernel_rfl⟩
instance hb6 : HasBody Tryz.prog 6 := ⟨_, Tryz.func6, by kernel_rfl, by kernel_rfl⟩
instance hb7 : HasBody Tryz.prog 7 := ⟨_, Tryz.func7, by kernel_rfl, by kernel_rfl⟩
instance hb8 : HasBody Tryz.prog 8 := ⟨_, Tryz.func8, by kernel_rfl, by kernel_rfl⟩
instance hb9 : HasBody Tryz.prog 9 := ⟨_, Tryz.func9, by kernel_rfl, by kernel_rfl⟩
instance hb10 : HasBody Tryz.prog 10 := ⟨_, Tryz.func10, by kernel_rfl, by kernel_rfl⟩
instance hb11 : HasBody Tryz.prog 11 := ⟨_, Tryz.func11, by kernel_rfl, by kernel_rfl⟩
instance hb12 : HasBody Tryz.prog 12 := ⟨_, Tryz.func12, by kernel_rfl, by kernel_rfl⟩
instance hb13 : HasBody Tryz.prog 13 := ⟨_, Tryz.func13, by kernel_rfl, by kernel_rfl⟩
instance hb14 : HasBody Tryz.prog 14 := ⟨_, Tryz.func14, by kernel_rfl, by kernel_rfl⟩
instance hb15 : HasBody Tryz.prog 15 := ⟨_, Tryz.func15, by kernel_rfl, by kernel_rfl⟩
instance hb16 : HasBody Tryz.prog 16 := ⟨_, Tryz.func16, by kernel_rfl, by kernel_rfl⟩
instance hb17 : HasBody Tryz.prog 17 := ⟨_, Tryz.func17, by kernel_rfl, by kernel_rfl⟩
instance hb18 : HasBody Tryz.prog 18 := ⟨_, Tryz.func18, by kernel_rfl, by kernel_rfl⟩
instance hb19 : HasBody Tryz.prog 19 := ⟨_, Tryz.func19, by kernel_rfl, by kernel_rfl⟩
instance hb20 : HasBody Tryz.prog 20 := ⟨_, Tryz.func20, by kernel_rfl, by kernel_rfl⟩
instance hb21 : HasBody Tryz.prog 21 := ⟨_, Tryz.func21, by kernel_rfl, by kernel_rfl⟩
instance hb22 : HasBody Tryz.prog 22 := ⟨_, Tryz.func22, by kernel_rfl, by kernel_rfl⟩
instance hb23 : HasBody Tryz.prog 23 := ⟨_, Tryz.func23, by kernel_rfl, by kernel_rfl⟩
instance hb24 : HasBody Tryz.prog 24 := ⟨_, Tryz.func24, by kernel_rfl, by kernel_rfl⟩
instance hb25 : HasBody Tryz.prog 25 := ⟨_, Tryz.func25, by kernel_rfl, by kernel_rfl⟩
instance hb26 : HasBody Tryz.prog 26 := ⟨_, Tryz.func26, by kernel_rfl, by kernel_rfl⟩
instance hb27 : HasBody Tryz.prog 27 := ⟨_, Tryz.func27, by kernel_rfl, by kernel_rfl⟩
instance hb28 : HasBody Tryz.prog 28 := ⟨_, Tryz.func28, by kernel_rfl, by kernel_rfl⟩
instance hb29 : HasBody Tryz.prog 29 := ⟨_, Tryz.func29, by kernel_rfl, by kernel_rfl⟩
instance hb30 : HasBody Tryz.prog 30 := ⟨_, Tryz.func30, by kernel_rfl, by kernel_rfl⟩
instance hb31 : HasBody Tryz.prog 31 := ⟨_, Tryz.func31, by kernel_rfl, by kernel_rfl⟩
instance hb32 : HasBody Tryz.prog 32 := ⟨_, Tryz.func32, by kernel_rfl, by kernel_rfl⟩
instance hb33 : HasBody Tryz.prog 33 := ⟨_, Tryz.func33, by kernel_rfl, by kernel_rfl⟩
instance hb34 : HasBody Tryz.prog 34 := ⟨_, Tryz.func34, by kernel_rfl, by kernel_rfl⟩
instance hb35 : HasBody Tryz.prog 35 := ⟨_, Tryz.func35, by kernel_rfl, by kernel_rfl⟩
instance hb36 : HasBody Tryz.prog 36 := ⟨_, Tryz.func36, by kernel_rfl, by kernel_rfl⟩
instance hb37 : HasBody Tryz.prog 37 := ⟨_, Tryz.func37, by kernel_rfl, by kernel_rfl⟩
instance hb38 : HasBody Tryz.prog 38 := ⟨_, Tryz.func38, by kernel_rfl, by kernel_rfl⟩
instance hb39 : HasBody Tryz.prog 39 := ⟨_, Tryz.func39, by kernel_rfl, by kernel_rfl⟩
instance hb40 : HasBody Tryz.prog 40 := ⟨_, Tryz.func40, by kernel_rfl, by kernel_rfl⟩
instance hb41 : HasBody Tryz.prog 41 := ⟨_, Tryz.func41, by kernel_rfl, by kernel_rfl⟩
instance hb42 : HasBody Tryz.prog 42 := ⟨_, Tryz.func42, by kernel_rfl, by kernel_rfl⟩
instance hb43 : HasBody Tryz.prog 43 := ⟨_, Tryz.func43, by kernel_rfl, by kernel_rfl⟩
instance hb44 : HasBody Tryz.prog 44 := ⟨_, Tryz.func44, by kernel_rfl, by kernel_rfl⟩
instance hb45 : HasBody Tryz.prog 45 := ⟨_, Tryz.func45, by kernel_rfl, by kernel_rfl⟩
instance hb46 : HasBody Tryz.prog 46 := ⟨_, Tryz.func46, by kernel_rfl, by kernel_rfl⟩
instance hb47 : HasBody Tryz.prog 47 := ⟨_, Tryz.func47, by kernel_rfl, by kernel_rfl⟩
instance hb48 : HasBody Tryz.prog 48 := ⟨_, Tryz.func48, by kernel_rfl, by kernel_rfl⟩
instance hb49 : HasBody Tryz.prog 49 := ⟨_, Tryz.func49, by kernel_rfl, by kernel_rfl⟩
instance hb50 : HasBody Tryz.prog 50 := ⟨_, Tryz.func50, by kernel_rfl, by kernel_rfl⟩
instance hb51 : HasBody Tryz.prog 51 := ⟨_, Tryz.func51, by kernel_rfl, by kernel_rfl⟩
instance hb52 : HasBody Tryz.prog 52 := ⟨_, Tryz.func52, by kernel_rfl, by kernel_rfl⟩
instance hb53 : HasBody Tryz.prog 53 := ⟨_, Tryz.func53, by kernel_rfl, by kernel_rfl⟩
instance hb54 : HasBody Tryz.prog 54 := ⟨_, Tryz.func54, by kernel_rfl, by kernel_rfl⟩
instance hb55 : HasBody Tryz.prog 55 := ⟨_, Tryz.func55, by kernel_rfl, by kernel_rfl⟩
instance hb56 : HasBody Tryz.prog 56 := ⟨_, Tryz.func56, by kernel_rfl, by kernel_rfl⟩
instance hb57 : HasBody Tryz.prog 57 := ⟨_, Tryz.func57, by kernel_rfl, by kernel_rfl⟩
instance hb58 : HasBody Tryz.prog 58 := ⟨_, Tryz.func58, by kernel_rfl, by kernel_rfl⟩
instance hb59 : HasBody Tryz.prog 59 := ⟨_, Tryz.func59, by kernel_rfl, by kernel_rfl⟩
instance hb60 : HasBody Tryz.prog 60 := ⟨_, Tryz.func60, by kernel_rfl, by kernel_rfl⟩
instance hb61 : HasBody Tryz.prog 61 := ⟨_, Tryz.func61, by kernel_rfl, by kernel_rfl⟩
instance hb62 : HasBody Tryz.prog 62 := ⟨_, Tryz.func62, by kernel_rfl, by kernel_rfl⟩
instance hb63 : HasBody Tryz.prog 63 := ⟨_, Tryz.func63, by kernel_rfl, by kernel_rfl⟩
instance hb64 : HasBody Tryz.prog 64 := ⟨_, Tryz.func64, by kernel_rfl, by kernel_rfl⟩
instance hb65 : HasBody Tryz.prog 65 := ⟨_, Tryz.func65, by kernel_rfl, by kernel_rfl⟩
instance hb66 : HasBody Tryz.prog 66 := ⟨_, Tryz.func66, by kernel_rfl, by kernel_rfl⟩
instance hb67 : HasBody Tryz.prog 67 := ⟨_, Tryz.func67, by kernel_rfl, by kernel_rfl⟩
instance hb68 : HasBody Tryz.prog 68 := ⟨_, Tryz.func68, by kernel_rfl, by kernel_rfl⟩
instance hb69 : HasBody Tryz.prog 69 := ⟨_, Tryz.func69, by kernel_rfl, by kernel_rfl⟩
instance hb70 : HasBody Tryz.prog 70 := ⟨_, Tryz.func70, by kernel_rfl, by kernel_rfl⟩
instance hb71 : HasBody Tryz.prog 71 := ⟨_, Tryz.func71, by kernel_rfl, by kernel_rfl⟩
instance hb72 : HasBody Tryz.prog 72 := ⟨_, Tryz.func72, by kernel_rfl, by kernel_rfl⟩
instance hb73 : HasBody Tryz.prog 73 := ⟨_, Tryz.func73, by kernel_rfl, by kernel_rfl⟩
instance hb74 : HasBody Tryz.prog 74 := ⟨_, Tryz.func74, by kernel_rfl, by kernel_rfl⟩
instance hb75 : HasBody Tryz.prog 75 := ⟨_, Tryz.func75, by kernel_rfl, by kernel_rfl⟩
instance hb76 : HasBody Tryz.prog 76 := ⟨_, Tryz.func76, by kernel_rfl, by kernel_rfl⟩
instance hb77 : HasBody Tryz.prog 77 := ⟨_, Tryz.func77, by kernel_rfl, by kernel_rfl⟩
instance hb78 : HasBody Tryz.prog 78 := ⟨_, Tryz.func78, by kernel_rfl, by kernel_rfl⟩
instance hb79 : HasBody Tryz.prog 79 := ⟨_, Tryz.func79, by kernel_rfl, by kernel_rfl⟩
instance hb80 : HasBody Tryz.prog 80 := ⟨_, Tryz.func80, by kernel_rfl, by kernel_rfl⟩
instance hb81 : HasBody Tryz.prog 81 := ⟨_, Tryz.func81, by kernel_rfl, by kernel_rfl⟩
instance hb82 : HasBody Tryz.prog 82 := ⟨_, Tryz.func82, by kernel_rfl, by kernel_rfl⟩
instance hb83 : HasBody Tryz.prog 83 := ⟨_, Tryz.func83, by kernel_rfl, by kernel_rfl⟩
instance hb84 : HasBody Tryz.prog 84 := ⟨_, Tryz.func84, by kernel_rfl, by kernel_rfl⟩
instance hb85 : HasBody Tryz.prog 85 := ⟨_, Tryz.func85, by kernel_rfl, by kernel_rfl⟩
instance hb86 : HasBody Tryz.prog 86 := ⟨_, Tryz.func86, by kernel_rfl, by kernel_rfl⟩
instance hb87 : HasBody Tryz.prog 87 := ⟨_, Tryz.func87, by kernel_rfl, by kernel_rfl⟩
instance hb88 : HasBody Tryz.prog 88 := ⟨_, Tryz.func88, by kernel_rfl, by kernel_rfl⟩
instance hb89 : HasBody Tryz.prog 89 := ⟨_, Tryz.func89, by kernel_rfl, by kernel_rfl⟩
instance hb90 : HasBody Tryz.prog 90 := ⟨_, Tryz.func90, by kernel_rfl, by kernel_rfl⟩
instance hb91 : HasBody Tryz.prog 91 := ⟨_, Tryz.func91, by kernel_rfl, by kernel_rfl⟩
instance hb92 : HasBody Tryz.prog 92 := ⟨_, Tryz.func92, by kernel_rfl, by kernel_rfl⟩
instance hb93 : HasBody Tryz.prog 93 := ⟨_, Tryz.func93, by kernel_rfl, by kernel_rfl⟩
instance hb94 : HasBody Tryz.prog 94 := ⟨_, Tryz.func94, by kernel_rfl, by kernel_rfl⟩
instance hb95 : HasBody Tryz.prog 95 := ⟨_, Tryz.func95, by kernel_rfl, by kernel_rfl⟩
instance hb96 : HasBody Tryz.prog 96 := ⟨_, Tryz.func96, by kernel_rfl, by kernel_rfl⟩
instance hb97 : HasBody Tryz.prog 97 := ⟨_, Tryz.func97, by kernel_rfl, by kernel_rfl⟩
instance hb98 : HasBody Tryz.prog 98 := ⟨_, Tryz.func98, by kernel_rfl, by kernel_rfl⟩
instance hb99 : HasBody Tryz.prog 99 := ⟨_, Tryz.func99, by kernel_rfl, by kernel_rfl⟩
instance hb100 : HasBody Tryz.prog 100 := ⟨_, Tryz.func100, by kernel_rfl, by kernel_rfl⟩
instance hb101 : HasBody Tryz.prog 101 := ⟨_, Tryz.func101, by kernel_rfl, by kernel_rfl⟩
instance hb102 : HasBody Tryz.prog 102 := ⟨_, Tryz.func102, by kernel_rfl, by kernel_rfl⟩
instance hb103 : HasBody Tryz.prog 103 := ⟨_, Tryz.func103, by kernel_rfl, by kernel_rfl⟩
instance hb104 : HasBody Tryz.prog 104 := ⟨_, Tryz.func104, by kernel_rfl, by kernel_rfl⟩
instance hb105 : HasBody Tryz.prog 105 := ⟨_, Tryz.func105, by kernel_rfl, by kernel_rfl⟩
instance hb106 : HasBody Tryz.prog 106 := ⟨_, Tryz.func106, by kernel_rfl, by kernel_rfl⟩
instance hb107 : HasBody Tryz.prog 107 := ⟨_, Tryz.func107, by kernel_rfl, by kernel_rfl⟩
instance hb108 : HasBody Tryz.prog 108 := ⟨_, Tryz.func108, by kernel_rfl, by kernel_rfl⟩
instance hb109 : HasBody Tryz.prog 109 := ⟨_, Tryz.func109, by kernel_rfl, by kernel_rfl⟩
instance hb110 : HasBody Tryz.prog 110 := ⟨_, Tryz.func110, by kernel_rfl, by kernel_rfl⟩
instance hb112 : HasBody Tryz.prog 112 := ⟨_, Tryz.func112, by kernel_rfl, by kernel_rfl⟩
instance hb114 : HasBody Tryz.prog 114 := ⟨_, Tryz.func114, by kernel_rfl, by kernel_rfl⟩
instance hb115 : HasBody Tryz.prog 115 := ⟨_, Tryz.func115, by kernel_rfl, by kernel_rfl⟩
instance hb116 : HasBody Tryz.prog 116 := ⟨_, Tryz.func116, by kernel_rfl, by kernel_rfl⟩
instance hb117 : HasBody Tryz.prog 117 := ⟨_, Tryz.func117, by kernel_rfl, by kernel_rfl⟩
instance hb118 : HasBody Tryz.prog 118 := ⟨_, Tryz.func118, by kernel_rfl, by kernel_rfl⟩
instance hb119 : HasBody Tryz.prog 119 := ⟨_, Tryz.func119, by kernel_rfl, by kernel_rfl⟩
theorem mixed : Tryz.prog.follows .mixedOrders = true := by kernel_rfl
end Go.Proofs.YtdiodefooipojaaGreat.R
