/- What the engine's rules ask of the program's tables: an instance each. Printed by program (facts.py). -/
import Derived.Test.YtdiodefooipojaaMem
import Derived.Test.YtdiodefooipojaaChecked
namespace Go.Proofs.Ytdiodefooipojaa.R

instance kt3 : KindT Try.prog 3 false := ⟨by kernel_rfl⟩
instance sz3 : SzT Try.prog 3 1 := ⟨by kernel_rfl⟩
instance kt4 : KindT Try.prog 4 false := ⟨by kernel_rfl⟩
instance sz4 : SzT Try.prog 4 1 := ⟨by kernel_rfl⟩
instance kt22 : KindT Try.prog 22 false := ⟨by kernel_rfl⟩
instance sz22 : SzT Try.prog 22 1 := ⟨by kernel_rfl⟩
instance kt24 : KindT Try.prog 24 true := ⟨by kernel_rfl⟩
instance sz24 : SzT Try.prog 24 3 := ⟨by kernel_rfl⟩
instance kt28 : KindT Try.prog 28 false := ⟨by kernel_rfl⟩
instance sz28 : SzT Try.prog 28 1 := ⟨by kernel_rfl⟩
instance kt35 : KindT Try.prog 35 true := ⟨by kernel_rfl⟩
instance sz35 : SzT Try.prog 35 2 := ⟨by kernel_rfl⟩
instance kt43 : KindT Try.prog 43 false := ⟨by kernel_rfl⟩
instance sz43 : SzT Try.prog 43 1 := ⟨by kernel_rfl⟩
instance kt44 : KindT Try.prog 44 false := ⟨by kernel_rfl⟩
instance sz44 : SzT Try.prog 44 1 := ⟨by kernel_rfl⟩
instance kt45 : KindT Try.prog 45 false := ⟨by kernel_rfl⟩
instance sz45 : SzT Try.prog 45 1 := ⟨by kernel_rfl⟩
instance kt47 : KindT Try.prog 47 true := ⟨by kernel_rfl⟩
instance sz47 : SzT Try.prog 47 3 := ⟨by kernel_rfl⟩
instance kt49 : KindT Try.prog 49 false := ⟨by kernel_rfl⟩
instance sz49 : SzT Try.prog 49 1 := ⟨by kernel_rfl⟩
instance kt51 : KindT Try.prog 51 true := ⟨by kernel_rfl⟩
instance sz51 : SzT Try.prog 51 2 := ⟨by kernel_rfl⟩
instance kt67 : KindT Try.prog 67 true := ⟨by kernel_rfl⟩
instance sz67 : SzT Try.prog 67 5 := ⟨by kernel_rfl⟩
instance kt68 : KindT Try.prog 68 false := ⟨by kernel_rfl⟩
instance sz68 : SzT Try.prog 68 1 := ⟨by kernel_rfl⟩
instance kt70 : KindT Try.prog 70 true := ⟨by kernel_rfl⟩
instance sz70 : SzT Try.prog 70 2 := ⟨by kernel_rfl⟩
instance kt72 : KindT Try.prog 72 false := ⟨by kernel_rfl⟩
instance sz72 : SzT Try.prog 72 1 := ⟨by kernel_rfl⟩
instance kt74 : KindT Try.prog 74 true := ⟨by kernel_rfl⟩
instance sz74 : SzT Try.prog 74 8 := ⟨by kernel_rfl⟩
instance kt76 : KindT Try.prog 76 true := ⟨by kernel_rfl⟩
instance sz76 : SzT Try.prog 76 9 := ⟨by kernel_rfl⟩
instance kt78 : KindT Try.prog 78 true := ⟨by kernel_rfl⟩
instance sz78 : SzT Try.prog 78 26 := ⟨by kernel_rfl⟩
instance kt87 : KindT Try.prog 87 true := ⟨by kernel_rfl⟩
instance sz87 : SzT Try.prog 87 3 := ⟨by kernel_rfl⟩
instance kt96 : KindT Try.prog 96 true := ⟨by kernel_rfl⟩
instance sz96 : SzT Try.prog 96 2 := ⟨by kernel_rfl⟩
instance kt99 : KindT Try.prog 99 false := ⟨by kernel_rfl⟩
instance sz99 : SzT Try.prog 99 1 := ⟨by kernel_rfl⟩
instance kt102 : KindT Try.prog 102 true := ⟨by kernel_rfl⟩
instance sz102 : SzT Try.prog 102 3 := ⟨by kernel_rfl⟩
instance kt145 : KindT Try.prog 145 false := ⟨by kernel_rfl⟩
instance sz145 : SzT Try.prog 145 1 := ⟨by kernel_rfl⟩
instance sl22 : SliceT Try.prog 22 3 1 := ⟨by kernel_rfl, by kernel_rfl⟩
instance ar25 : ArrT Try.prog 25 2 3 1 := ⟨by kernel_rfl, by kernel_rfl⟩
instance sl28 : SliceT Try.prog 28 35 2 := ⟨by kernel_rfl, by kernel_rfl⟩
instance sl43 : SliceT Try.prog 43 78 26 := ⟨by kernel_rfl, by kernel_rfl⟩
instance sl44 : SliceT Try.prog 44 67 5 := ⟨by kernel_rfl, by kernel_rfl⟩
instance sl45 : SliceT Try.prog 45 99 1 := ⟨by kernel_rfl, by kernel_rfl⟩
instance sl49 : SliceT Try.prog 49 87 3 := ⟨by kernel_rfl, by kernel_rfl⟩
instance sl56 : SliceT Try.prog 56 28 1 := ⟨by kernel_rfl, by kernel_rfl⟩
instance sl60 : SliceT Try.prog 60 4 1 := ⟨by kernel_rfl, by kernel_rfl⟩
instance sl62 : SliceT Try.prog 62 22 1 := ⟨by kernel_rfl, by kernel_rfl⟩
instance ar74 : ArrT Try.prog 74 8 72 1 := ⟨by kernel_rfl, by kernel_rfl⟩
instance sl99 : SliceT Try.prog 99 102 3 := ⟨by kernel_rfl, by kernel_rfl⟩
instance sl114 : SliceT Try.prog 114 74 8 := ⟨by kernel_rfl, by kernel_rfl⟩
instance ty0 : TyV Try.prog 0 .t := ⟨trivial⟩
instance ty3 : TyV Try.prog 3 .i := ⟨trivial⟩
instance ty4 : TyV Try.prog 4 .b := ⟨trivial⟩
instance ty5 : TyV Try.prog 5 .i := ⟨trivial⟩
instance ty22 : TyV Try.prog 22 .s := ⟨trivial⟩
instance ty24 : TyV Try.prog 24 .a := ⟨trivial⟩
instance ty28 : TyV Try.prog 28 .s := ⟨trivial⟩
instance ty30 : TyV Try.prog 30 .t := ⟨trivial⟩
instance ty35 : TyV Try.prog 35 .a := ⟨trivial⟩
instance ty38 : TyV Try.prog 38 .i := ⟨trivial⟩
instance ty39 : TyV Try.prog 39 .t := ⟨trivial⟩
instance ty43 : TyV Try.prog 43 .s := ⟨trivial⟩
instance ty44 : TyV Try.prog 44 .s := ⟨trivial⟩
instance ty45 : TyV Try.prog 45 .s := ⟨trivial⟩
instance ty47 : TyV Try.prog 47 .a := ⟨trivial⟩
instance ty49 : TyV Try.prog 49 .s := ⟨trivial⟩
instance ty51 : TyV Try.prog 51 .a := ⟨trivial⟩
instance ty54 : TyV Try.prog 54 .f := ⟨trivial⟩
instance ty56 : TyV Try.prog 56 .s := ⟨trivial⟩
instance ty58 : TyV Try.prog 58 .p := ⟨trivial⟩
instance ty60 : TyV Try.prog 60 .s := ⟨trivial⟩
instance ty62 : TyV Try.prog 62 .s := ⟨trivial⟩
instance ty64 : TyV Try.prog 64 .m := ⟨trivial⟩
instance ty67 : TyV Try.prog 67 .a := ⟨trivial⟩
instance ty68 : TyV Try.prog 68 .m := ⟨trivial⟩
instance ty70 : TyV Try.prog 70 .a := ⟨trivial⟩
instance ty72 : TyV Try.prog 72 .i := ⟨trivial⟩
instance ty74 : TyV Try.prog 74 .a := ⟨trivial⟩
instance ty76 : TyV Try.prog 76 .a := ⟨trivial⟩
instance ty78 : TyV Try.prog 78 .a := ⟨trivial⟩
instance ty81 : TyV Try.prog 81 .a := ⟨trivial⟩
instance ty82 : TyV Try.prog 82 .i := ⟨trivial⟩
instance ty87 : TyV Try.prog 87 .a := ⟨trivial⟩
instance ty90 : TyV Try.prog 90 .t := ⟨trivial⟩
instance ty96 : TyV Try.prog 96 .a := ⟨trivial⟩
instance ty99 : TyV Try.prog 99 .s := ⟨trivial⟩
instance ty102 : TyV Try.prog 102 .a := ⟨trivial⟩
instance ty103 : TyV Try.prog 103 .f := ⟨trivial⟩
instance ty104 : TyV Try.prog 104 .f := ⟨trivial⟩
instance ty106 : TyV Try.prog 106 .t := ⟨trivial⟩
instance ty114 : TyV Try.prog 114 .s := ⟨trivial⟩
instance ty118 : TyV Try.prog 118 .t := ⟨trivial⟩
instance ty122 : TyV Try.prog 122 .t := ⟨trivial⟩
instance ty127 : TyV Try.prog 127 .t := ⟨trivial⟩
instance ty130 : TyV Try.prog 130 .t := ⟨trivial⟩
instance ty136 : TyV Try.prog 136 .t := ⟨trivial⟩
instance ty138 : TyV Try.prog 138 .t := ⟨trivial⟩
instance ty140 : TyV Try.prog 140 .t := ⟨trivial⟩
instance el3 : ElemT Try.prog 3 (.int .i64 0) 1 8 := ⟨by kernel_rfl, by kernel_rfl, by decide⟩
instance el4 : ElemT Try.prog 4 (.bool false) 1 1 := ⟨by kernel_rfl, by kernel_rfl, by decide⟩
instance el22 : ElemT Try.prog 22 (.slice none 0 0) 1 24 := ⟨by kernel_rfl, by kernel_rfl, by decide⟩
instance el28 : ElemT Try.prog 28 (.slice none 0 0) 1 24 := ⟨by kernel_rfl, by kernel_rfl, by decide⟩
instance el35 : ElemT Try.prog 35 (.agg #[.int .i64 0, .int .i64 0]) 2 16 := ⟨by kernel_rfl, by kernel_rfl, by decide⟩
instance el67 : ElemT Try.prog 67 (.agg #[.int .i64 0, .int .i64 0, .int .i64 0, .bool false, .bool false]) 5 32 := ⟨by kernel_rfl, by kernel_rfl, by decide⟩
instance el74 : ElemT Try.prog 74 (.agg #[.int .u64 0, .int .u64 0, .int .u64 0, .int .u64 0, .int .u64 0, .int .u64 0, .int .u64 0, .int .u64 0]) 8 64 := ⟨by kernel_rfl, by kernel_rfl, by decide⟩
instance el78 : ElemT Try.prog 78 (.agg #[.bool false, .int .u64 0, .int .u64 0, .int .u64 0, .int .u64 0, .int .u64 0, .int .u64 0, .int .u64 0, .int .u64 0, .bool false, .int .u64 0, .int .u64 0, .int .u64 0, .int .u64 0, .int .u64 0, .int .u64 0, .int .u64 0, .int .u64 0, .int .u64 0, .int .u64 0, .int .u64 0, .int .u64 0, .int .u64 0, .int .u64 0, .int .u64 0, .int .u64 0]) 26 208 := ⟨by kernel_rfl, by kernel_rfl, by decide⟩
instance el87 : ElemT Try.prog 87 (.agg #[.int .i64 0, .int .i64 0, .bool false]) 3 24 := ⟨by kernel_rfl, by kernel_rfl, by decide⟩
instance el99 : ElemT Try.prog 99 (.slice none 0 0) 1 24 := ⟨by kernel_rfl, by kernel_rfl, by decide⟩
instance el102 : ElemT Try.prog 102 (.agg #[.int .i64 0, .bool false, .int .i64 0]) 3 24 := ⟨by kernel_rfl, by kernel_rfl, by decide⟩
instance de3 : DescT Try.prog 3 (.int .i64) := ⟨by kernel_rfl⟩
instance de4 : DescT Try.prog 4 .bool := ⟨by kernel_rfl⟩
instance de5 : DescT Try.prog 5 (.int .u8) := ⟨by kernel_rfl⟩
instance de38 : DescT Try.prog 38 (.int .i64) := ⟨by kernel_rfl⟩
instance de64 : DescT Try.prog 64 (.map 3 70) := ⟨by kernel_rfl⟩
instance de68 : DescT Try.prog 68 (.map 3 4) := ⟨by kernel_rfl⟩
instance de72 : DescT Try.prog 72 (.int .u64) := ⟨by kernel_rfl⟩
instance de74 : DescT Try.prog 74 (.array 8 72) := ⟨by kernel_rfl⟩
instance de82 : DescT Try.prog 82 (.int .u64) := ⟨by kernel_rfl⟩
instance ze24 : ZeroT Try.prog 24 (.agg #[.slice none 0 0, .slice none 0 0, .slice none 0 0]) := ⟨fun _ => by kernel_rfl⟩
instance ze35 : ZeroT Try.prog 35 (.agg #[.int .i64 0, .int .i64 0]) := ⟨fun _ => by kernel_rfl⟩
instance ze47 : ZeroT Try.prog 47 (.agg #[.slice none 0 0, .slice none 0 0, .slice none 0 0]) := ⟨fun _ => by kernel_rfl⟩
instance ze67 : ZeroT Try.prog 67 (.agg #[.int .i64 0, .int .i64 0, .int .i64 0, .bool false, .bool false]) := ⟨fun _ => by kernel_rfl⟩
instance ze70 : ZeroT Try.prog 70 (.agg #[.map none, .map none]) := ⟨fun _ => by kernel_rfl⟩
instance ze74 : ZeroT Try.prog 74 (.agg #[.int .u64 0, .int .u64 0, .int .u64 0, .int .u64 0, .int .u64 0, .int .u64 0, .int .u64 0, .int .u64 0]) := ⟨fun _ => by kernel_rfl⟩
instance ze76 : ZeroT Try.prog 76 (.agg #[.bool false, .int .u64 0, .int .u64 0, .int .u64 0, .int .u64 0, .int .u64 0, .int .u64 0, .int .u64 0, .int .u64 0]) := ⟨fun _ => by kernel_rfl⟩
instance ze78 : ZeroT Try.prog 78 (.agg #[.bool false, .int .u64 0, .int .u64 0, .int .u64 0, .int .u64 0, .int .u64 0, .int .u64 0, .int .u64 0, .int .u64 0, .bool false, .int .u64 0, .int .u64 0, .int .u64 0, .int .u64 0, .int .u64 0, .int .u64 0, .int .u64 0, .int .u64 0, .int .u64 0, .int .u64 0, .int .u64 0, .int .u64 0, .int .u64 0, .int .u64 0, .int .u64 0, .int .u64 0]) := ⟨fun _ => by kernel_rfl⟩
instance ze87 : ZeroT Try.prog 87 (.agg #[.int .i64 0, .int .i64 0, .bool false]) := ⟨fun _ => by kernel_rfl⟩
instance ze96 : ZeroT Try.prog 96 (.agg #[.int .i64 0, .int .i64 0]) := ⟨fun _ => by kernel_rfl⟩
instance ze3 : ZeroT Try.prog 3 (.int .i64 0) := ⟨fun _ => by kernel_rfl⟩
instance ze4 : ZeroT Try.prog 4 (.bool false) := ⟨fun _ => by kernel_rfl⟩
instance ze22 : ZeroT Try.prog 22 (.slice none 0 0) := ⟨fun _ => by kernel_rfl⟩
instance ze28 : ZeroT Try.prog 28 (.slice none 0 0) := ⟨fun _ => by kernel_rfl⟩
instance ze99 : ZeroT Try.prog 99 (.slice none 0 0) := ⟨fun _ => by kernel_rfl⟩
instance ze102 : ZeroT Try.prog 102 (.agg #[.int .i64 0, .bool false, .int .i64 0]) := ⟨fun _ => by kernel_rfl⟩
instance fi24_0 : FieldT Try.prog 24 0 0 := ⟨fun _ _ => by kernel_rfl⟩
instance fi24_1 : FieldT Try.prog 24 1 1 := ⟨fun _ _ => by kernel_rfl⟩
instance fi24_2 : FieldT Try.prog 24 2 2 := ⟨fun _ _ => by kernel_rfl⟩
instance fi35_0 : FieldT Try.prog 35 0 0 := ⟨fun _ _ => by kernel_rfl⟩
instance fi35_1 : FieldT Try.prog 35 1 1 := ⟨fun _ _ => by kernel_rfl⟩
instance fi47_0 : FieldT Try.prog 47 0 0 := ⟨fun _ _ => by kernel_rfl⟩
instance fi47_1 : FieldT Try.prog 47 1 1 := ⟨fun _ _ => by kernel_rfl⟩
instance fi47_2 : FieldT Try.prog 47 2 2 := ⟨fun _ _ => by kernel_rfl⟩
instance fi51_0 : FieldT Try.prog 51 0 0 := ⟨fun _ _ => by kernel_rfl⟩
instance fi51_1 : FieldT Try.prog 51 1 1 := ⟨fun _ _ => by kernel_rfl⟩
instance fi67_0 : FieldT Try.prog 67 0 0 := ⟨fun _ _ => by kernel_rfl⟩
instance fi67_1 : FieldT Try.prog 67 1 1 := ⟨fun _ _ => by kernel_rfl⟩
instance fi67_2 : FieldT Try.prog 67 2 2 := ⟨fun _ _ => by kernel_rfl⟩
instance fi67_3 : FieldT Try.prog 67 3 3 := ⟨fun _ _ => by kernel_rfl⟩
instance fi67_4 : FieldT Try.prog 67 4 4 := ⟨fun _ _ => by kernel_rfl⟩
instance fi70_0 : FieldT Try.prog 70 0 0 := ⟨fun _ _ => by kernel_rfl⟩
instance fi70_1 : FieldT Try.prog 70 1 1 := ⟨fun _ _ => by kernel_rfl⟩
instance fi76_0 : FieldT Try.prog 76 0 0 := ⟨fun _ _ => by kernel_rfl⟩
instance fi76_1 : FieldT Try.prog 76 1 1 := ⟨fun _ _ => by kernel_rfl⟩
instance fi78_0 : FieldT Try.prog 78 0 0 := ⟨fun _ _ => by kernel_rfl⟩
instance fi78_1 : FieldT Try.prog 78 1 9 := ⟨fun _ _ => by kernel_rfl⟩
instance fi78_2 : FieldT Try.prog 78 2 18 := ⟨fun _ _ => by kernel_rfl⟩
instance fi81_0 : FieldT Try.prog 81 0 0 := ⟨fun _ _ => by kernel_rfl⟩
instance fi81_1 : FieldT Try.prog 81 1 1 := ⟨fun _ _ => by kernel_rfl⟩
instance fi87_0 : FieldT Try.prog 87 0 0 := ⟨fun _ _ => by kernel_rfl⟩
instance fi87_1 : FieldT Try.prog 87 1 1 := ⟨fun _ _ => by kernel_rfl⟩
instance fi87_2 : FieldT Try.prog 87 2 2 := ⟨fun _ _ => by kernel_rfl⟩
instance fi96_0 : FieldT Try.prog 96 0 0 := ⟨fun _ _ => by kernel_rfl⟩
instance fi96_1 : FieldT Try.prog 96 1 1 := ⟨fun _ _ => by kernel_rfl⟩
instance fi102_0 : FieldT Try.prog 102 0 0 := ⟨fun _ _ => by kernel_rfl⟩
instance fi102_2 : FieldT Try.prog 102 2 2 := ⟨fun _ _ => by kernel_rfl⟩
instance hb5 : HasBody Try.prog 5 := ⟨_, Try.func5, by kernel_rfl, by kernel_rfl⟩
instance hb6 : HasBody Try.prog 6 := ⟨_, Try.func6, by kernel_rfl, by kernel_rfl⟩
instance hb7 : HasBody Try.prog 7 := ⟨_, Try.func7, by kernel_rfl, by kernel_rfl⟩
instance hb8 : HasBody Try.prog 8 := ⟨_, Try.func8, by kernel_rfl, by kernel_rfl⟩
instance hb9 : HasBody Try.prog 9 := ⟨_, Try.func9, by kernel_rfl, by kernel_rfl⟩
instance hb10 : HasBody Try.prog 10 := ⟨_, Try.func10, by kernel_rfl, by kernel_rfl⟩
instance hb11 : HasBody Try.prog 11 := ⟨_, Try.func11, by kernel_rfl, by kernel_rfl⟩
instance hb12 : HasBody Try.prog 12 := ⟨_, Try.func12, by kernel_rfl, by kernel_rfl⟩
instance hb13 : HasBody Try.prog 13 := ⟨_, Try.func13, by kernel_rfl, by kernel_rfl⟩
instance hb14 : HasBody Try.prog 14 := ⟨_, Try.func14, by kernel_rfl, by kernel_rfl⟩
instance hb15 : HasBody Try.prog 15 := ⟨_, Try.func15, by kernel_rfl, by kernel_rfl⟩
instance hb16 : HasBody Try.prog 16 := ⟨_, Try.func16, by kernel_rfl, by kernel_rfl⟩
instance hb17 : HasBody Try.prog 17 := ⟨_, Try.func17, by kernel_rfl, by kernel_rfl⟩
instance hb18 : HasBody Try.prog 18 := ⟨_, Try.func18, by kernel_rfl, by kernel_rfl⟩
instance hb19 : HasBody Try.prog 19 := ⟨_, Try.func19, by kernel_rfl, by kernel_rfl⟩
instance hb20 : HasBody Try.prog 20 := ⟨_, Try.func20, by kernel_rfl, by kernel_rfl⟩
instance hb21 : HasBody Try.prog 21 := ⟨_, Try.func21, by kernel_rfl, by kernel_rfl⟩
instance hb22 : HasBody Try.prog 22 := ⟨_, Try.func22, by kernel_rfl, by kernel_rfl⟩
instance hb23 : HasBody Try.prog 23 := ⟨_, Try.func23, by kernel_rfl, by kernel_rfl⟩
instance hb24 : HasBody Try.prog 24 := ⟨_, Try.func24, by kernel_rfl, by kernel_rfl⟩
instance hb25 : HasBody Try.prog 25 := ⟨_, Try.func25, by kernel_rfl, by kernel_rfl⟩
instance hb26 : HasBody Try.prog 26 := ⟨_, Try.func26, by kernel_rfl, by kernel_rfl⟩
instance hb27 : HasBody Try.prog 27 := ⟨_, Try.func27, by kernel_rfl, by kernel_rfl⟩
instance hb28 : HasBody Try.prog 28 := ⟨_, Try.func28, by kernel_rfl, by kernel_rfl⟩
instance hb29 : HasBody Try.prog 29 := ⟨_, Try.func29, by kernel_rfl, by kernel_rfl⟩
instance hb30 : HasBody Try.prog 30 := ⟨_, Try.func30, by kernel_rfl, by kernel_rfl⟩
instance hb31 : HasBody Try.prog 31 := ⟨_, Try.func31, by kernel_rfl, by kernel_rfl⟩
instance hb32 : HasBody Try.prog 32 := ⟨_, Try.func32, by kernel_rfl, by kernel_rfl⟩
instance hb33 : HasBody Try.prog 33 := ⟨_, Try.func33, by kernel_rfl, by kernel_rfl⟩
instance hb34 : HasBody Try.prog 34 := ⟨_, Try.func34, by kernel_rfl, by kernel_rfl⟩
instance hb35 : HasBody Try.prog 35 := ⟨_, Try.func35, by kernel_rfl, by kernel_rfl⟩
instance hb36 : HasBody Try.prog 36 := ⟨_, Try.func36, by kernel_rfl, by kernel_rfl⟩
instance hb37 : HasBody Try.prog 37 := ⟨_, Try.func37, by kernel_rfl, by kernel_rfl⟩
instance hb38 : HasBody Try.prog 38 := ⟨_, Try.func38, by kernel_rfl, by kernel_rfl⟩
instance hb39 : HasBody Try.prog 39 := ⟨_, Try.func39, by kernel_rfl, by kernel_rfl⟩
instance hb40 : HasBody Try.prog 40 := ⟨_, Try.func40, by kernel_rfl, by kernel_rfl⟩
instance hb41 : HasBody Try.prog 41 := ⟨_, Try.func41, by kernel_rfl, by kernel_rfl⟩
instance hb42 : HasBody Try.prog 42 := ⟨_, Try.func42, by kernel_rfl, by kernel_rfl⟩
instance hb43 : HasBody Try.prog 43 := ⟨_, Try.func43, by kernel_rfl, by kernel_rfl⟩
instance hb44 : HasBody Try.prog 44 := ⟨_, Try.func44, by kernel_rfl, by kernel_rfl⟩
instance hb45 : HasBody Try.prog 45 := ⟨_, Try.func45, by kernel_rfl, by kernel_rfl⟩
instance hb46 : HasBody Try.prog 46 := ⟨_, Try.func46, by kernel_rfl, by kernel_rfl⟩
instance hb47 : HasBody Try.prog 47 := ⟨_, Try.func47, by kernel_rfl, by kernel_rfl⟩
instance hb48 : HasBody Try.prog 48 := ⟨_, Try.func48, by kernel_rfl, by kernel_rfl⟩
instance hb49 : HasBody Try.prog 49 := ⟨_, Try.func49, by kernel_rfl, by kernel_rfl⟩
instance hb50 : HasBody Try.prog 50 := ⟨_, Try.func50, by kernel_rfl, by kernel_rfl⟩
instance hb51 : HasBody Try.prog 51 := ⟨_, Try.func51, by kernel_rfl, by kernel_rfl⟩
instance hb52 : HasBody Try.prog 52 := ⟨_, Try.func52, by kernel_rfl, by kernel_rfl⟩
instance hb53 : HasBody Try.prog 53 := ⟨_, Try.func53, by kernel_rfl, by kernel_rfl⟩
instance hb54 : HasBody Try.prog 54 := ⟨_, Try.func54, by kernel_rfl, by kernel_rfl⟩
instance hb55 : HasBody Try.prog 55 := ⟨_, Try.func55, by kernel_rfl, by kernel_rfl⟩
instance hb56 : HasBody Try.prog 56 := ⟨_, Try.func56, by kernel_rfl, by kernel_rfl⟩
instance hb57 : HasBody Try.prog 57 := ⟨_, Try.func57, by kernel_rfl, by kernel_rfl⟩
instance hb58 : HasBody Try.prog 58 := ⟨_, Try.func58, by kernel_rfl, by kernel_rfl⟩
instance hb59 : HasBody Try.prog 59 := ⟨_, Try.func59, by kernel_rfl, by kernel_rfl⟩
instance hb60 : HasBody Try.prog 60 := ⟨_, Try.func60, by kernel_rfl, by kernel_rfl⟩
instance hb61 : HasBody Try.prog 61 := ⟨_, Try.func61, by kernel_rfl, by kernel_rfl⟩
instance hb62 : HasBody Try.prog 62 := ⟨_, Try.func62, by kernel_rfl, by kernel_rfl⟩
instance hb63 : HasBody Try.prog 63 := ⟨_, Try.func63, by kernel_rfl, by kernel_rfl⟩
instance hb64 : HasBody Try.prog 64 := ⟨_, Try.func64, by kernel_rfl, by kernel_rfl⟩
instance hb65 : HasBody Try.prog 65 := ⟨_, Try.func65, by kernel_rfl, by kernel_rfl⟩
instance hb66 : HasBody Try.prog 66 := ⟨_, Try.func66, by kernel_rfl, by kernel_rfl⟩
instance hb67 : HasBody Try.prog 67 := ⟨_, Try.func67, by kernel_rfl, by kernel_rfl⟩
instance hb68 : HasBody Try.prog 68 := ⟨_, Try.func68, by kernel_rfl, by kernel_rfl⟩
instance hb69 : HasBody Try.prog 69 := ⟨_, Try.func69, by kernel_rfl, by kernel_rfl⟩
instance hb70 : HasBody Try.prog 70 := ⟨_, Try.func70, by kernel_rfl, by kernel_rfl⟩
instance hb71 : HasBody Try.prog 71 := ⟨_, Try.func71, by kernel_rfl, by kernel_rfl⟩
instance hb72 : HasBody Try.prog 72 := ⟨_, Try.func72, by kernel_rfl, by kernel_rfl⟩
instance hb73 : HasBody Try.prog 73 := ⟨_, Try.func73, by kernel_rfl, by kernel_rfl⟩
instance hb74 : HasBody Try.prog 74 := ⟨_, Try.func74, by kernel_rfl, by kernel_rfl⟩
instance hb75 : HasBody Try.prog 75 := ⟨_, Try.func75, by kernel_rfl, by kernel_rfl⟩
instance hb76 : HasBody Try.prog 76 := ⟨_, Try.func76, by kernel_rfl, by kernel_rfl⟩
instance hb77 : HasBody Try.prog 77 := ⟨_, Try.func77, by kernel_rfl, by kernel_rfl⟩
instance hb78 : HasBody Try.prog 78 := ⟨_, Try.func78, by kernel_rfl, by kernel_rfl⟩
instance hb79 : HasBody Try.prog 79 := ⟨_, Try.func79, by kernel_rfl, by kernel_rfl⟩
instance hb80 : HasBody Try.prog 80 := ⟨_, Try.func80, by kernel_rfl, by kernel_rfl⟩
instance hb81 : HasBody Try.prog 81 := ⟨_, Try.func81, by kernel_rfl, by kernel_rfl⟩
instance hb82 : HasBody Try.prog 82 := ⟨_, Try.func82, by kernel_rfl, by kernel_rfl⟩
instance hb83 : HasBody Try.prog 83 := ⟨_, Try.func83, by kernel_rfl, by kernel_rfl⟩
instance hb84 : HasBody Try.prog 84 := ⟨_, Try.func84, by kernel_rfl, by kernel_rfl⟩
instance hb86 : HasBody Try.prog 86 := ⟨_, Try.func86, by kernel_rfl, by kernel_rfl⟩
instance hb88 : HasBody Try.prog 88 := ⟨_, Try.func88, by kernel_rfl, by kernel_rfl⟩
instance hb89 : HasBody Try.prog 89 := ⟨_, Try.func89, by kernel_rfl, by kernel_rfl⟩
instance hb90 : HasBody Try.prog 90 := ⟨_, Try.func90, by kernel_rfl, by kernel_rfl⟩
instance hb91 : HasBody Try.prog 91 := ⟨_, Try.func91, by kernel_rfl, by kernel_rfl⟩
instance hb92 : HasBody Try.prog 92 := ⟨_, Try.func92, by kernel_rfl, by kernel_rfl⟩
instance hb93 : HasBody Try.prog 93 := ⟨_, Try.func93, by kernel_rfl, by kernel_rfl⟩
theorem mixed : Try.prog.follows .mixedOrders = true := by kernel_rfl
end Go.Proofs.Ytdiodefooipojaa.R
