/- What the engine's rules ask of the program's tables: an instance each. Printed by program (facts.py). -/
import Derived.Test.YtegbidklcaccjaaMem
import Derived.Test.YtegbidklcaccjaaChecked
namespace Go.Proofs.Ytegbidklcaccjaa.R

instance kt3 : KindT Try.prog 3 false := ⟨by kernel_rfl⟩
instance sz3 : SzT Try.prog 3 1 := ⟨by kernel_rfl⟩
instance kt4 : KindT Try.prog 4 false := ⟨by kernel_rfl⟩
instance sz4 : SzT Try.prog 4 1 := ⟨by kernel_rfl⟩
instance kt5 : KindT Try.prog 5 false := ⟨by kernel_rfl⟩
instance sz5 : SzT Try.prog 5 1 := ⟨by kernel_rfl⟩
instance kt22 : KindT Try.prog 22 false := ⟨by kernel_rfl⟩
instance sz22 : SzT Try.prog 22 1 := ⟨by kernel_rfl⟩
instance kt24 : KindT Try.prog 24 true := ⟨by kernel_rfl⟩
instance sz24 : SzT Try.prog 24 3 := ⟨by kernel_rfl⟩
instance kt30 : KindT Try.prog 30 false := ⟨by kernel_rfl⟩
instance sz30 : SzT Try.prog 30 1 := ⟨by kernel_rfl⟩
instance kt39 : KindT Try.prog 39 false := ⟨by kernel_rfl⟩
instance sz39 : SzT Try.prog 39 1 := ⟨by kernel_rfl⟩
instance kt40 : KindT Try.prog 40 false := ⟨by kernel_rfl⟩
instance sz40 : SzT Try.prog 40 1 := ⟨by kernel_rfl⟩
instance kt42 : KindT Try.prog 42 true := ⟨by kernel_rfl⟩
instance sz42 : SzT Try.prog 42 2 := ⟨by kernel_rfl⟩
instance kt44 : KindT Try.prog 44 true := ⟨by kernel_rfl⟩
instance sz44 : SzT Try.prog 44 5 := ⟨by kernel_rfl⟩
instance kt46 : KindT Try.prog 46 false := ⟨by kernel_rfl⟩
instance sz46 : SzT Try.prog 46 1 := ⟨by kernel_rfl⟩
instance kt56 : KindT Try.prog 56 false := ⟨by kernel_rfl⟩
instance sz56 : SzT Try.prog 56 1 := ⟨by kernel_rfl⟩
instance kt67 : KindT Try.prog 67 true := ⟨by kernel_rfl⟩
instance sz67 : SzT Try.prog 67 5 := ⟨by kernel_rfl⟩
instance kt72 : KindT Try.prog 72 true := ⟨by kernel_rfl⟩
instance sz72 : SzT Try.prog 72 2 := ⟨by kernel_rfl⟩
instance kt91 : KindT Try.prog 91 false := ⟨by kernel_rfl⟩
instance sz91 : SzT Try.prog 91 1 := ⟨by kernel_rfl⟩
instance kt93 : KindT Try.prog 93 true := ⟨by kernel_rfl⟩
instance sz93 : SzT Try.prog 93 4 := ⟨by kernel_rfl⟩
instance kt106 : KindT Try.prog 106 true := ⟨by kernel_rfl⟩
instance sz106 : SzT Try.prog 106 3 := ⟨by kernel_rfl⟩
instance kt113 : KindT Try.prog 113 false := ⟨by kernel_rfl⟩
instance sz113 : SzT Try.prog 113 1 := ⟨by kernel_rfl⟩
instance kt124 : KindT Try.prog 124 false := ⟨by kernel_rfl⟩
instance sz124 : SzT Try.prog 124 1 := ⟨by kernel_rfl⟩
instance kt131 : KindT Try.prog 131 true := ⟨by kernel_rfl⟩
instance sz131 : SzT Try.prog 131 2 := ⟨by kernel_rfl⟩
instance kt138 : KindT Try.prog 138 false := ⟨by kernel_rfl⟩
instance sz138 : SzT Try.prog 138 1 := ⟨by kernel_rfl⟩
instance kt145 : KindT Try.prog 145 true := ⟨by kernel_rfl⟩
instance sz145 : SzT Try.prog 145 2 := ⟨by kernel_rfl⟩
instance sl22 : SliceT Try.prog 22 3 1 := ⟨by kernel_rfl, by kernel_rfl⟩
instance sl30 : SliceT Try.prog 30 4 1 := ⟨by kernel_rfl, by kernel_rfl⟩
instance sl39 : SliceT Try.prog 39 93 4 := ⟨by kernel_rfl, by kernel_rfl⟩
instance sl40 : SliceT Try.prog 40 106 3 := ⟨by kernel_rfl, by kernel_rfl⟩
instance sl46 : SliceT Try.prog 46 5 1 := ⟨by kernel_rfl, by kernel_rfl⟩
instance sl56 : SliceT Try.prog 56 72 2 := ⟨by kernel_rfl, by kernel_rfl⟩
instance ar75 : ArrT Try.prog 75 2 3 1 := ⟨by kernel_rfl, by kernel_rfl⟩
instance sl87 : SliceT Try.prog 87 30 1 := ⟨by kernel_rfl, by kernel_rfl⟩
instance sl88 : SliceT Try.prog 88 56 1 := ⟨by kernel_rfl, by kernel_rfl⟩
instance sl91 : SliceT Try.prog 91 145 2 := ⟨by kernel_rfl, by kernel_rfl⟩
instance sl136 : SliceT Try.prog 136 135 2 := ⟨by kernel_rfl, by kernel_rfl⟩
instance ty0 : TyV Try.prog 0 .t := ⟨trivial⟩
instance ty3 : TyV Try.prog 3 .i := ⟨trivial⟩
instance ty4 : TyV Try.prog 4 .b := ⟨trivial⟩
instance ty5 : TyV Try.prog 5 .i := ⟨trivial⟩
instance ty22 : TyV Try.prog 22 .s := ⟨trivial⟩
instance ty24 : TyV Try.prog 24 .a := ⟨trivial⟩
instance ty27 : TyV Try.prog 27 .i := ⟨trivial⟩
instance ty28 : TyV Try.prog 28 .t := ⟨trivial⟩
instance ty30 : TyV Try.prog 30 .s := ⟨trivial⟩
instance ty31 : TyV Try.prog 31 .t := ⟨trivial⟩
instance ty34 : TyV Try.prog 34 .t := ⟨trivial⟩
instance ty39 : TyV Try.prog 39 .s := ⟨trivial⟩
instance ty40 : TyV Try.prog 40 .s := ⟨trivial⟩
instance ty42 : TyV Try.prog 42 .a := ⟨trivial⟩
instance ty44 : TyV Try.prog 44 .a := ⟨trivial⟩
instance ty46 : TyV Try.prog 46 .s := ⟨trivial⟩
instance ty47 : TyV Try.prog 47 .t := ⟨trivial⟩
instance ty50 : TyV Try.prog 50 .t := ⟨trivial⟩
instance ty56 : TyV Try.prog 56 .s := ⟨trivial⟩
instance ty60 : TyV Try.prog 60 .t := ⟨trivial⟩
instance ty67 : TyV Try.prog 67 .a := ⟨trivial⟩
instance ty70 : TyV Try.prog 70 .f := ⟨trivial⟩
instance ty72 : TyV Try.prog 72 .a := ⟨trivial⟩
instance ty78 : TyV Try.prog 78 .t := ⟨trivial⟩
instance ty81 : TyV Try.prog 81 .t := ⟨trivial⟩
instance ty83 : TyV Try.prog 83 .t := ⟨trivial⟩
instance ty87 : TyV Try.prog 87 .s := ⟨trivial⟩
instance ty88 : TyV Try.prog 88 .s := ⟨trivial⟩
instance ty90 : TyV Try.prog 90 .p := ⟨trivial⟩
instance ty91 : TyV Try.prog 91 .s := ⟨trivial⟩
instance ty93 : TyV Try.prog 93 .a := ⟨trivial⟩
instance ty94 : TyV Try.prog 94 .t := ⟨trivial⟩
instance ty99 : TyV Try.prog 99 .p := ⟨trivial⟩
instance ty101 : TyV Try.prog 101 .a := ⟨trivial⟩
instance ty106 : TyV Try.prog 106 .a := ⟨trivial⟩
instance ty111 : TyV Try.prog 111 .p := ⟨trivial⟩
instance ty113 : TyV Try.prog 113 .p := ⟨trivial⟩
instance ty115 : TyV Try.prog 115 .a := ⟨trivial⟩
instance ty120 : TyV Try.prog 120 .t := ⟨trivial⟩
instance ty122 : TyV Try.prog 122 .p := ⟨trivial⟩
instance ty124 : TyV Try.prog 124 .m := ⟨trivial⟩
instance ty126 : TyV Try.prog 126 .a := ⟨trivial⟩
instance ty128 : TyV Try.prog 128 .t := ⟨trivial⟩
instance ty131 : TyV Try.prog 131 .a := ⟨trivial⟩
instance ty132 : TyV Try.prog 132 .f := ⟨trivial⟩
instance ty135 : TyV Try.prog 135 .a := ⟨trivial⟩
instance ty136 : TyV Try.prog 136 .s := ⟨trivial⟩
instance ty137 : TyV Try.prog 137 .p := ⟨trivial⟩
instance ty138 : TyV Try.prog 138 .m := ⟨trivial⟩
instance ty139 : TyV Try.prog 139 .i := ⟨trivial⟩
instance ty142 : TyV Try.prog 142 .f := ⟨trivial⟩
instance ty145 : TyV Try.prog 145 .a := ⟨trivial⟩
instance ty151 : TyV Try.prog 151 .a := ⟨trivial⟩
instance ty152 : TyV Try.prog 152 .t := ⟨trivial⟩
instance ty157 : TyV Try.prog 157 .f := ⟨trivial⟩
instance el3 : ElemT Try.prog 3 (.int .i64 0) 1 8 := ⟨by kernel_rfl, by kernel_rfl, by decide⟩
instance el4 : ElemT Try.prog 4 (.bool false) 1 1 := ⟨by kernel_rfl, by kernel_rfl, by decide⟩
instance el5 : ElemT Try.prog 5 (.int .u8 0) 1 1 := ⟨by kernel_rfl, by kernel_rfl, by decide⟩
instance el30 : ElemT Try.prog 30 (.slice none 0 0) 1 24 := ⟨by kernel_rfl, by kernel_rfl, by decide⟩
instance el56 : ElemT Try.prog 56 (.slice none 0 0) 1 24 := ⟨by kernel_rfl, by kernel_rfl, by decide⟩
instance el72 : ElemT Try.prog 72 (.agg #[.int .i64 0, .int .i64 0]) 2 16 := ⟨by kernel_rfl, by kernel_rfl, by decide⟩
instance el93 : ElemT Try.prog 93 (.agg #[.int .i64 0, .slice none 0 0, .slice none 0 0, .bool false]) 4 64 := ⟨by kernel_rfl, by kernel_rfl, by decide⟩
instance el106 : ElemT Try.prog 106 (.agg #[.int .i64 0, .int .i64 0, .bool false]) 3 24 := ⟨by kernel_rfl, by kernel_rfl, by decide⟩
instance el135 : ElemT Try.prog 135 (.agg #[.int .i64 0, .int .i64 0]) 2 16 := ⟨by kernel_rfl, by kernel_rfl, by decide⟩
instance el145 : ElemT Try.prog 145 (.agg #[.int .i64 0, .int .i64 0]) 2 16 := ⟨by kernel_rfl, by kernel_rfl, by decide⟩
instance de3 : DescT Try.prog 3 (.int .i64) := ⟨by kernel_rfl⟩
instance de4 : DescT Try.prog 4 .bool := ⟨by kernel_rfl⟩
instance de5 : DescT Try.prog 5 (.int .u8) := ⟨by kernel_rfl⟩
instance de27 : DescT Try.prog 27 (.int .i64) := ⟨by kernel_rfl⟩
instance de113 : DescT Try.prog 113 (.pointer 151) := ⟨by kernel_rfl⟩
instance de124 : DescT Try.prog 124 (.map 3 131) := ⟨by kernel_rfl⟩
instance de138 : DescT Try.prog 138 (.map 3 3) := ⟨by kernel_rfl⟩
instance de139 : DescT Try.prog 139 (.int .u64) := ⟨by kernel_rfl⟩
instance ze3 : ZeroT Try.prog 3 (.int .i64 0) := ⟨fun _ => by kernel_rfl⟩
instance ze24 : ZeroT Try.prog 24 (.agg #[.slice none 0 0, .slice none 0 0, .slice none 0 0]) := ⟨fun _ => by kernel_rfl⟩
instance ze44 : ZeroT Try.prog 44 (.agg #[.int .i64 0, .slice none 0 0, .slice none 0 0, .int .i64 0, .slice none 0 0]) := ⟨fun _ => by kernel_rfl⟩
instance ze72 : ZeroT Try.prog 72 (.agg #[.int .i64 0, .int .i64 0]) := ⟨fun _ => by kernel_rfl⟩
instance ze93 : ZeroT Try.prog 93 (.agg #[.int .i64 0, .slice none 0 0, .slice none 0 0, .bool false]) := ⟨fun _ => by kernel_rfl⟩
instance ze106 : ZeroT Try.prog 106 (.agg #[.int .i64 0, .int .i64 0, .bool false]) := ⟨fun _ => by kernel_rfl⟩
instance ze131 : ZeroT Try.prog 131 (.agg #[.int .i64 0, .int .i64 0]) := ⟨fun _ => by kernel_rfl⟩
instance ze145 : ZeroT Try.prog 145 (.agg #[.int .i64 0, .int .i64 0]) := ⟨fun _ => by kernel_rfl⟩
instance ze4 : ZeroT Try.prog 4 (.bool false) := ⟨fun _ => by kernel_rfl⟩
instance ze5 : ZeroT Try.prog 5 (.int .u8 0) := ⟨fun _ => by kernel_rfl⟩
instance ze30 : ZeroT Try.prog 30 (.slice none 0 0) := ⟨fun _ => by kernel_rfl⟩
instance ze56 : ZeroT Try.prog 56 (.slice none 0 0) := ⟨fun _ => by kernel_rfl⟩
instance ze135 : ZeroT Try.prog 135 (.agg #[.int .i64 0, .int .i64 0]) := ⟨fun _ => by kernel_rfl⟩
instance fi24_0 : FieldT Try.prog 24 0 0 := ⟨fun _ _ => by kernel_rfl⟩
instance fi24_1 : FieldT Try.prog 24 1 1 := ⟨fun _ _ => by kernel_rfl⟩
instance fi24_2 : FieldT Try.prog 24 2 2 := ⟨fun _ _ => by kernel_rfl⟩
instance fi42_0 : FieldT Try.prog 42 0 0 := ⟨fun _ _ => by kernel_rfl⟩
instance fi42_1 : FieldT Try.prog 42 1 1 := ⟨fun _ _ => by kernel_rfl⟩
instance fi44_0 : FieldT Try.prog 44 0 0 := ⟨fun _ _ => by kernel_rfl⟩
instance fi44_1 : FieldT Try.prog 44 1 1 := ⟨fun _ _ => by kernel_rfl⟩
instance fi44_2 : FieldT Try.prog 44 2 2 := ⟨fun _ _ => by kernel_rfl⟩
instance fi44_3 : FieldT Try.prog 44 3 4 := ⟨fun _ _ => by kernel_rfl⟩
instance fi58_0 : FieldT Try.prog 58 0 0 := ⟨fun _ _ => by kernel_rfl⟩
instance fi58_1 : FieldT Try.prog 58 1 1 := ⟨fun _ _ => by kernel_rfl⟩
instance fi67_0 : FieldT Try.prog 67 0 0 := ⟨fun _ _ => by kernel_rfl⟩
instance fi67_1 : FieldT Try.prog 67 1 1 := ⟨fun _ _ => by kernel_rfl⟩
instance fi67_2 : FieldT Try.prog 67 2 2 := ⟨fun _ _ => by kernel_rfl⟩
instance fi67_3 : FieldT Try.prog 67 3 3 := ⟨fun _ _ => by kernel_rfl⟩
instance fi67_4 : FieldT Try.prog 67 4 4 := ⟨fun _ _ => by kernel_rfl⟩
instance fi72_0 : FieldT Try.prog 72 0 0 := ⟨fun _ _ => by kernel_rfl⟩
instance fi72_1 : FieldT Try.prog 72 1 1 := ⟨fun _ _ => by kernel_rfl⟩
instance fi93_0 : FieldT Try.prog 93 0 0 := ⟨fun _ _ => by kernel_rfl⟩
instance fi93_1 : FieldT Try.prog 93 1 1 := ⟨fun _ _ => by kernel_rfl⟩
instance fi93_2 : FieldT Try.prog 93 2 2 := ⟨fun _ _ => by kernel_rfl⟩
instance fi93_3 : FieldT Try.prog 93 3 3 := ⟨fun _ _ => by kernel_rfl⟩
instance fi101_0 : FieldT Try.prog 101 0 0 := ⟨fun _ _ => by kernel_rfl⟩
instance fi101_1 : FieldT Try.prog 101 1 1 := ⟨fun _ _ => by kernel_rfl⟩
instance fi106_0 : FieldT Try.prog 106 0 0 := ⟨fun _ _ => by kernel_rfl⟩
instance fi106_1 : FieldT Try.prog 106 1 1 := ⟨fun _ _ => by kernel_rfl⟩
instance fi106_2 : FieldT Try.prog 106 2 2 := ⟨fun _ _ => by kernel_rfl⟩
instance fi115_1 : FieldT Try.prog 115 1 3 := ⟨fun _ _ => by kernel_rfl⟩
instance fi115_2 : FieldT Try.prog 115 2 4 := ⟨fun _ _ => by kernel_rfl⟩
instance fi115_3 : FieldT Try.prog 115 3 5 := ⟨fun _ _ => by kernel_rfl⟩
instance fi115_4 : FieldT Try.prog 115 4 6 := ⟨fun _ _ => by kernel_rfl⟩
instance fi115_5 : FieldT Try.prog 115 5 7 := ⟨fun _ _ => by kernel_rfl⟩
instance fi126_0 : FieldT Try.prog 126 0 0 := ⟨fun _ _ => by kernel_rfl⟩
instance fi126_1 : FieldT Try.prog 126 1 5 := ⟨fun _ _ => by kernel_rfl⟩
instance fi126_2 : FieldT Try.prog 126 2 6 := ⟨fun _ _ => by kernel_rfl⟩
instance fi131_0 : FieldT Try.prog 131 0 0 := ⟨fun _ _ => by kernel_rfl⟩
instance fi135_0 : FieldT Try.prog 135 0 0 := ⟨fun _ _ => by kernel_rfl⟩
instance fi135_1 : FieldT Try.prog 135 1 1 := ⟨fun _ _ => by kernel_rfl⟩
instance fi145_0 : FieldT Try.prog 145 0 0 := ⟨fun _ _ => by kernel_rfl⟩
instance fi145_1 : FieldT Try.prog 145 1 1 := ⟨fun _ _ => by kernel_rfl⟩
instance fi151_0 : FieldT Try.prog 151 0 0 := ⟨fun _ _ => by kernel_rfl⟩
instance fi151_1 : FieldT Try.prog 151 1 1 := ⟨fun _ _ => by kernel_rfl⟩
instance hb11 : HasBody Try.prog 11 := ⟨_, Try.func11, by kernel_rfl, by kernel_rfl⟩
instance hb12 : HasBody Try.prog 12 := ⟨_, Try.func12, by kernel_rfl, by kernel_rfl⟩
instance hb13 : HasBody Try.prog 13 := ⟨_, Try.func13, by kernel_rfl, by kernel_rfl⟩
instance hb14 : HasBody Try.prog 14 := ⟨_, Try.func14, by kernel_rfl, by kernel_rfl⟩
instance hb15 : HasBody Try.prog 15 := ⟨_, Try.func15, by kernel_rfl, by kernel_rfl⟩
instance hb16 : HasBody Try.prog 16 := ⟨_, Try.func16, by kernel_rfl, by kernel_rfl⟩
instance hb17 : HasBody Try.prog 17 := ⟨_, Try.func17, by kernel_rfl, by kernel_rfl⟩
instance hb18 : HasBody Try.prog 18 := ⟨_, Try.func18, by kernel_rfl, by kernel_rfl⟩
instance hb19 : HasBody Try.prog 19 := ⟨_, Try.func19, by kernel_rfl, by kernel_rfl⟩
instance hb20 : HasBody Try.prog 20 := ⟨_, Try.func20, by kernel_rfl, by kernel_rfl⟩
instance hb21 : HasBody Try.prog 21 := ⟨_, Try.func21, by kernel_rfl, by kernel_rfl⟩
instance hb22 : HasBody Try.prog 22 := ⟨_, Try.func22, by kernel_rfl, by kernel_rfl⟩
instance hb23 : HasBody Try.prog 23 := ⟨_, Try.func23, by kernel_rfl, by kernel_rfl⟩
instance hb24 : HasBody Try.prog 24 := ⟨_, Try.func24, by kernel_rfl, by kernel_rfl⟩
instance hb25 : HasBody Try.prog 25 := ⟨_, Try.func25, by kernel_rfl, by kernel_rfl⟩
instance hb26 : HasBody Try.prog 26 := ⟨_, Try.func26, by kernel_rfl, by kernel_rfl⟩
instance hb27 : HasBody Try.prog 27 := ⟨_, Try.func27, by kernel_rfl, by kernel_rfl⟩
instance hb28 : HasBody Try.prog 28 := ⟨_, Try.func28, by kernel_rfl, by kernel_rfl⟩
instance hb29 : HasBody Try.prog 29 := ⟨_, Try.func29, by kernel_rfl, by kernel_rfl⟩
instance hb30 : HasBody Try.prog 30 := ⟨_, Try.func30, by kernel_rfl, by kernel_rfl⟩
instance hb31 : HasBody Try.prog 31 := ⟨_, Try.func31, by kernel_rfl, by kernel_rfl⟩
instance hb32 : HasBody Try.prog 32 := ⟨_, Try.func32, by kernel_rfl, by kernel_rfl⟩
instance hb33 : HasBody Try.prog 33 := ⟨_, Try.func33, by kernel_rfl, by kernel_rfl⟩
instance hb34 : HasBody Try.prog 34 := ⟨_, Try.func34, by kernel_rfl, by kernel_rfl⟩
instance hb35 : HasBody Try.prog 35 := ⟨_, Try.func35, by kernel_rfl, by kernel_rfl⟩
instance hb36 : HasBody Try.prog 36 := ⟨_, Try.func36, by kernel_rfl, by kernel_rfl⟩
instance hb37 : HasBody Try.prog 37 := ⟨_, Try.func37, by kernel_rfl, by kernel_rfl⟩
instance hb38 : HasBody Try.prog 38 := ⟨_, Try.func38, by kernel_rfl, by kernel_rfl⟩
instance hb39 : HasBody Try.prog 39 := ⟨_, Try.func39, by kernel_rfl, by kernel_rfl⟩
instance hb40 : HasBody Try.prog 40 := ⟨_, Try.func40, by kernel_rfl, by kernel_rfl⟩
instance hb41 : HasBody Try.prog 41 := ⟨_, Try.func41, by kernel_rfl, by kernel_rfl⟩
instance hb42 : HasBody Try.prog 42 := ⟨_, Try.func42, by kernel_rfl, by kernel_rfl⟩
instance hb43 : HasBody Try.prog 43 := ⟨_, Try.func43, by kernel_rfl, by kernel_rfl⟩
instance hb44 : HasBody Try.prog 44 := ⟨_, Try.func44, by kernel_rfl, by kernel_rfl⟩
instance hb45 : HasBody Try.prog 45 := ⟨_, Try.func45, by kernel_rfl, by kernel_rfl⟩
instance hb46 : HasBody Try.prog 46 := ⟨_, Try.func46, by kernel_rfl, by kernel_rfl⟩
instance hb47 : HasBody Try.prog 47 := ⟨_, Try.func47, by kernel_rfl, by kernel_rfl⟩
instance hb48 : HasBody Try.prog 48 := ⟨_, Try.func48, by kernel_rfl, by kernel_rfl⟩
instance hb49 : HasBody Try.prog 49 := ⟨_, Try.func49, by kernel_rfl, by kernel_rfl⟩
instance hb50 : HasBody Try.prog 50 := ⟨_, Try.func50, by kernel_rfl, by kernel_rfl⟩
instance hb51 : HasBody Try.prog 51 := ⟨_, Try.func51, by kernel_rfl, by kernel_rfl⟩
instance hb52 : HasBody Try.prog 52 := ⟨_, Try.func52, by kernel_rfl, by kernel_rfl⟩
instance hb53 : HasBody Try.prog 53 := ⟨_, Try.func53, by kernel_rfl, by kernel_rfl⟩
instance hb54 : HasBody Try.prog 54 := ⟨_, Try.func54, by kernel_rfl, by kernel_rfl⟩
instance hb55 : HasBody Try.prog 55 := ⟨_, Try.func55, by kernel_rfl, by kernel_rfl⟩
instance hb56 : HasBody Try.prog 56 := ⟨_, Try.func56, by kernel_rfl, by kernel_rfl⟩
instance hb57 : HasBody Try.prog 57 := ⟨_, Try.func57, by kernel_rfl, by kernel_rfl⟩
instance hb58 : HasBody Try.prog 58 := ⟨_, Try.func58, by kernel_rfl, by kernel_rfl⟩
instance hb59 : HasBody Try.prog 59 := ⟨_, Try.func59, by kernel_rfl, by kernel_rfl⟩
instance hb60 : HasBody Try.prog 60 := ⟨_, Try.func60, by kernel_rfl, by kernel_rfl⟩
instance hb61 : HasBody Try.prog 61 := ⟨_, Try.func61, by kernel_rfl, by kernel_rfl⟩
instance hb62 : HasBody Try.prog 62 := ⟨_, Try.func62, by kernel_rfl, by kernel_rfl⟩
instance hb63 : HasBody Try.prog 63 := ⟨_, Try.func63, by kernel_rfl, by kernel_rfl⟩
instance hb64 : HasBody Try.prog 64 := ⟨_, Try.func64, by kernel_rfl, by kernel_rfl⟩
instance hb65 : HasBody Try.prog 65 := ⟨_, Try.func65, by kernel_rfl, by kernel_rfl⟩
instance hb66 : HasBody Try.prog 66 := ⟨_, Try.func66, by kernel_rfl, by kernel_rfl⟩
instance hb67 : HasBody Try.prog 67 := ⟨_, Try.func67, by kernel_rfl, by kernel_rfl⟩
instance hb68 : HasBody Try.prog 68 := ⟨_, Try.func68, by kernel_rfl, by kernel_rfl⟩
instance hb69 : HasBody Try.prog 69 := ⟨_, Try.func69, by kernel_rfl, by kernel_rfl⟩
instance hb70 : HasBody Try.prog 70 := ⟨_, Try.func70, by kernel_rfl, by kernel_rfl⟩
instance hb71 : HasBody Try.prog 71 := ⟨_, Try.func71, by kernel_rfl, by kernel_rfl⟩
instance hb72 : HasBody Try.prog 72 := ⟨_, Try.func72, by kernel_rfl, by kernel_rfl⟩
instance hb73 : HasBody Try.prog 73 := ⟨_, Try.func73, by kernel_rfl, by kernel_rfl⟩
instance hb74 : HasBody Try.prog 74 := ⟨_, Try.func74, by kernel_rfl, by kernel_rfl⟩
instance hb75 : HasBody Try.prog 75 := ⟨_, Try.func75, by kernel_rfl, by kernel_rfl⟩
instance hb76 : HasBody Try.prog 76 := ⟨_, Try.func76, by kernel_rfl, by kernel_rfl⟩
instance hb77 : HasBody Try.prog 77 := ⟨_, Try.func77, by kernel_rfl, by kernel_rfl⟩
instance hb78 : HasBody Try.prog 78 := ⟨_, Try.func78, by kernel_rfl, by kernel_rfl⟩
instance hb79 : HasBody Try.prog 79 := ⟨_, Try.func79, by kernel_rfl, by kernel_rfl⟩
instance hb80 : HasBody Try.prog 80 := ⟨_, Try.func80, by kernel_rfl, by kernel_rfl⟩
instance hb81 : HasBody Try.prog 81 := ⟨_, Try.func81, by kernel_rfl, by kernel_rfl⟩
instance hb82 : HasBody Try.prog 82 := ⟨_, Try.func82, by kernel_rfl, by kernel_rfl⟩
instance hb83 : HasBody Try.prog 83 := ⟨_, Try.func83, by kernel_rfl, by kernel_rfl⟩
instance hb84 : HasBody Try.prog 84 := ⟨_, Try.func84, by kernel_rfl, by kernel_rfl⟩
instance hb85 : HasBody Try.prog 85 := ⟨_, Try.func85, by kernel_rfl, by kernel_rfl⟩
instance hb86 : HasBody Try.prog 86 := ⟨_, Try.func86, by kernel_rfl, by kernel_rfl⟩
instance hb87 : HasBody Try.prog 87 := ⟨_, Try.func87, by kernel_rfl, by kernel_rfl⟩
instance hb88 : HasBody Try.prog 88 := ⟨_, Try.func88, by kernel_rfl, by kernel_rfl⟩
instance hb89 : HasBody Try.prog 89 := ⟨_, Try.func89, by kernel_rfl, by kernel_rfl⟩
instance hb90 : HasBody Try.prog 90 := ⟨_, Try.func90, by kernel_rfl, by kernel_rfl⟩
instance hb91 : HasBody Try.prog 91 := ⟨_, Try.func91, by kernel_rfl, by kernel_rfl⟩
instance hb92 : HasBody Try.prog 92 := ⟨_, Try.func92, by kernel_rfl, by kernel_rfl⟩
instance hb93 : HasBody Try.prog 93 := ⟨_, Try.func93, by kernel_rfl, by kernel_rfl⟩
instance hb94 : HasBody Try.prog 94 := ⟨_, Try.func94, by kernel_rfl, by kernel_rfl⟩
instance hb95 : HasBody Try.prog 95 := ⟨_, Try.func95, by kernel_rfl, by kernel_rfl⟩
instance hb96 : HasBody Try.prog 96 := ⟨_, Try.func96, by kernel_rfl, by kernel_rfl⟩
instance hb97 : HasBody Try.prog 97 := ⟨_, Try.func97, by kernel_rfl, by kernel_rfl⟩
instance hb98 : HasBody Try.prog 98 := ⟨_, Try.func98, by kernel_rfl, by kernel_rfl⟩
instance hb99 : HasBody Try.prog 99 := ⟨_, Try.func99, by kernel_rfl, by kernel_rfl⟩
instance hb100 : HasBody Try.prog 100 := ⟨_, Try.func100, by kernel_rfl, by kernel_rfl⟩
instance hb101 : HasBody Try.prog 101 := ⟨_, Try.func101, by kernel_rfl, by kernel_rfl⟩
instance hb102 : HasBody Try.prog 102 := ⟨_, Try.func102, by kernel_rfl, by kernel_rfl⟩
instance hb103 : HasBody Try.prog 103 := ⟨_, Try.func103, by kernel_rfl, by kernel_rfl⟩
instance hb104 : HasBody Try.prog 104 := ⟨_, Try.func104, by kernel_rfl, by kernel_rfl⟩
instance hb105 : HasBody Try.prog 105 := ⟨_, Try.func105, by kernel_rfl, by kernel_rfl⟩
instance hb106 : HasBody Try.prog 106 := ⟨_, Try.func106, by kernel_rfl, by kernel_rfl⟩
instance hb107 : HasBody Try.prog 107 := ⟨_, Try.func107, by kernel_rfl, by kernel_rfl⟩
instance hb108 : HasBody Try.prog 108 := ⟨_, Try.func108, by kernel_rfl, by kernel_rfl⟩
instance hb109 : HasBody Try.prog 109 := ⟨_, Try.func109, by kernel_rfl, by kernel_rfl⟩
instance hb110 : HasBody Try.prog 110 := ⟨_, Try.func110, by kernel_rfl, by kernel_rfl⟩
theorem mixed : Try.prog.follows .mixedOrders = true := by kernel_rfl
end Go.Proofs.Ytegbidklcaccjaa.R
