/- What the engine's rules ask of the program's tables: an instance each. Printed by program (facts.py). -/
import Derived.Test.YtiebimdjdmogkaaMem
import Derived.Test.YtiebimdjdmogkaaChecked
namespace Go.Proofs.Ytiebimdjdmogkaa.R

instance kt3 : KindT Try.prog 3 false := ⟨by kernel_rfl⟩
instance sz3 : SzT Try.prog 3 1 := ⟨by kernel_rfl⟩
instance kt4 : KindT Try.prog 4 false := ⟨by kernel_rfl⟩
instance sz4 : SzT Try.prog 4 1 := ⟨by kernel_rfl⟩
instance kt23 : KindT Try.prog 23 true := ⟨by kernel_rfl⟩
instance sz23 : SzT Try.prog 23 2 := ⟨by kernel_rfl⟩
instance kt24 : KindT Try.prog 24 false := ⟨by kernel_rfl⟩
instance sz24 : SzT Try.prog 24 1 := ⟨by kernel_rfl⟩
instance kt26 : KindT Try.prog 26 true := ⟨by kernel_rfl⟩
instance sz26 : SzT Try.prog 26 6 := ⟨by kernel_rfl⟩
instance kt39 : KindT Try.prog 39 false := ⟨by kernel_rfl⟩
instance sz39 : SzT Try.prog 39 1 := ⟨by kernel_rfl⟩
instance kt40 : KindT Try.prog 40 false := ⟨by kernel_rfl⟩
instance sz40 : SzT Try.prog 40 1 := ⟨by kernel_rfl⟩
instance kt41 : KindT Try.prog 41 false := ⟨by kernel_rfl⟩
instance sz41 : SzT Try.prog 41 1 := ⟨by kernel_rfl⟩
instance kt43 : KindT Try.prog 43 true := ⟨by kernel_rfl⟩
instance sz43 : SzT Try.prog 43 3 := ⟨by kernel_rfl⟩
instance kt45 : KindT Try.prog 45 false := ⟨by kernel_rfl⟩
instance sz45 : SzT Try.prog 45 1 := ⟨by kernel_rfl⟩
instance kt50 : KindT Try.prog 50 true := ⟨by kernel_rfl⟩
instance sz50 : SzT Try.prog 50 4 := ⟨by kernel_rfl⟩
instance kt55 : KindT Try.prog 55 false := ⟨by kernel_rfl⟩
instance sz55 : SzT Try.prog 55 1 := ⟨by kernel_rfl⟩
instance kt57 : KindT Try.prog 57 true := ⟨by kernel_rfl⟩
instance sz57 : SzT Try.prog 57 8 := ⟨by kernel_rfl⟩
instance kt59 : KindT Try.prog 59 true := ⟨by kernel_rfl⟩
instance sz59 : SzT Try.prog 59 9 := ⟨by kernel_rfl⟩
instance kt61 : KindT Try.prog 61 true := ⟨by kernel_rfl⟩
instance sz61 : SzT Try.prog 61 26 := ⟨by kernel_rfl⟩
instance kt64 : KindT Try.prog 64 true := ⟨by kernel_rfl⟩
instance sz64 : SzT Try.prog 64 5 := ⟨by kernel_rfl⟩
instance kt73 : KindT Try.prog 73 true := ⟨by kernel_rfl⟩
instance sz73 : SzT Try.prog 73 2 := ⟨by kernel_rfl⟩
instance kt76 : KindT Try.prog 76 false := ⟨by kernel_rfl⟩
instance sz76 : SzT Try.prog 76 1 := ⟨by kernel_rfl⟩
instance kt79 : KindT Try.prog 79 true := ⟨by kernel_rfl⟩
instance sz79 : SzT Try.prog 79 3 := ⟨by kernel_rfl⟩
instance kt123 : KindT Try.prog 123 false := ⟨by kernel_rfl⟩
instance sz123 : SzT Try.prog 123 1 := ⟨by kernel_rfl⟩
instance sl24 : SliceT Try.prog 24 45 1 := ⟨by kernel_rfl, by kernel_rfl⟩
instance sl39 : SliceT Try.prog 39 61 26 := ⟨by kernel_rfl, by kernel_rfl⟩
instance sl40 : SliceT Try.prog 40 64 5 := ⟨by kernel_rfl, by kernel_rfl⟩
instance sl41 : SliceT Try.prog 41 76 1 := ⟨by kernel_rfl, by kernel_rfl⟩
instance sl45 : SliceT Try.prog 45 3 1 := ⟨by kernel_rfl, by kernel_rfl⟩
instance ar57 : ArrT Try.prog 57 8 55 1 := ⟨by kernel_rfl, by kernel_rfl⟩
instance sl76 : SliceT Try.prog 76 79 3 := ⟨by kernel_rfl, by kernel_rfl⟩
instance sl92 : SliceT Try.prog 92 57 8 := ⟨by kernel_rfl, by kernel_rfl⟩
instance ty0 : TyV Try.prog 0 .t := ⟨trivial⟩
instance ty3 : TyV Try.prog 3 .i := ⟨trivial⟩
instance ty4 : TyV Try.prog 4 .b := ⟨trivial⟩
instance ty5 : TyV Try.prog 5 .i := ⟨trivial⟩
instance ty23 : TyV Try.prog 23 .a := ⟨trivial⟩
instance ty24 : TyV Try.prog 24 .s := ⟨trivial⟩
instance ty26 : TyV Try.prog 26 .a := ⟨trivial⟩
instance ty27 : TyV Try.prog 27 .t := ⟨trivial⟩
instance ty36 : TyV Try.prog 36 .i := ⟨trivial⟩
instance ty37 : TyV Try.prog 37 .t := ⟨trivial⟩
instance ty39 : TyV Try.prog 39 .s := ⟨trivial⟩
instance ty40 : TyV Try.prog 40 .s := ⟨trivial⟩
instance ty41 : TyV Try.prog 41 .s := ⟨trivial⟩
instance ty43 : TyV Try.prog 43 .a := ⟨trivial⟩
instance ty45 : TyV Try.prog 45 .s := ⟨trivial⟩
instance ty50 : TyV Try.prog 50 .a := ⟨trivial⟩
instance ty54 : TyV Try.prog 54 .p := ⟨trivial⟩
instance ty55 : TyV Try.prog 55 .i := ⟨trivial⟩
instance ty57 : TyV Try.prog 57 .a := ⟨trivial⟩
instance ty59 : TyV Try.prog 59 .a := ⟨trivial⟩
instance ty61 : TyV Try.prog 61 .a := ⟨trivial⟩
instance ty64 : TyV Try.prog 64 .a := ⟨trivial⟩
instance ty66 : TyV Try.prog 66 .t := ⟨trivial⟩
instance ty68 : TyV Try.prog 68 .f := ⟨trivial⟩
instance ty73 : TyV Try.prog 73 .a := ⟨trivial⟩
instance ty76 : TyV Try.prog 76 .s := ⟨trivial⟩
instance ty79 : TyV Try.prog 79 .a := ⟨trivial⟩
instance ty80 : TyV Try.prog 80 .f := ⟨trivial⟩
instance ty81 : TyV Try.prog 81 .f := ⟨trivial⟩
instance ty88 : TyV Try.prog 88 .t := ⟨trivial⟩
instance ty92 : TyV Try.prog 92 .s := ⟨trivial⟩
instance ty96 : TyV Try.prog 96 .t := ⟨trivial⟩
instance ty98 : TyV Try.prog 98 .t := ⟨trivial⟩
instance ty100 : TyV Try.prog 100 .t := ⟨trivial⟩
instance ty105 : TyV Try.prog 105 .t := ⟨trivial⟩
instance ty109 : TyV Try.prog 109 .t := ⟨trivial⟩
instance ty113 : TyV Try.prog 113 .t := ⟨trivial⟩
instance ty116 : TyV Try.prog 116 .i := ⟨trivial⟩
instance ty118 : TyV Try.prog 118 .t := ⟨trivial⟩
instance el3 : ElemT Try.prog 3 (.int .i64 0) 1 8 := ⟨by kernel_rfl, by kernel_rfl, by decide⟩
instance el45 : ElemT Try.prog 45 (.slice none 0 0) 1 24 := ⟨by kernel_rfl, by kernel_rfl, by decide⟩
instance el57 : ElemT Try.prog 57 (.agg #[.int .u64 0, .int .u64 0, .int .u64 0, .int .u64 0, .int .u64 0, .int .u64 0, .int .u64 0, .int .u64 0]) 8 64 := ⟨by kernel_rfl, by kernel_rfl, by decide⟩
instance el61 : ElemT Try.prog 61 (.agg #[.bool false, .int .u64 0, .int .u64 0, .int .u64 0, .int .u64 0, .int .u64 0, .int .u64 0, .int .u64 0, .int .u64 0, .bool false, .int .u64 0, .int .u64 0, .int .u64 0, .int .u64 0, .int .u64 0, .int .u64 0, .int .u64 0, .int .u64 0, .int .u64 0, .int .u64 0, .int .u64 0, .int .u64 0, .int .u64 0, .int .u64 0, .int .u64 0, .int .u64 0]) 26 208 := ⟨by kernel_rfl, by kernel_rfl, by decide⟩
instance el64 : ElemT Try.prog 64 (.agg #[.int .i64 0, .int .i64 0, .int .i64 0, .bool false, .bool false]) 5 32 := ⟨by kernel_rfl, by kernel_rfl, by decide⟩
instance el76 : ElemT Try.prog 76 (.slice none 0 0) 1 24 := ⟨by kernel_rfl, by kernel_rfl, by decide⟩
instance el79 : ElemT Try.prog 79 (.agg #[.int .i64 0, .bool false, .int .i64 0]) 3 24 := ⟨by kernel_rfl, by kernel_rfl, by decide⟩
instance de3 : DescT Try.prog 3 (.int .i64) := ⟨by kernel_rfl⟩
instance de4 : DescT Try.prog 4 .bool := ⟨by kernel_rfl⟩
instance de5 : DescT Try.prog 5 (.int .u8) := ⟨by kernel_rfl⟩
instance de36 : DescT Try.prog 36 (.int .i64) := ⟨by kernel_rfl⟩
instance de55 : DescT Try.prog 55 (.int .u64) := ⟨by kernel_rfl⟩
instance de57 : DescT Try.prog 57 (.array 8 55) := ⟨by kernel_rfl⟩
instance de116 : DescT Try.prog 116 (.int .u64) := ⟨by kernel_rfl⟩
instance ze23 : ZeroT Try.prog 23 (.agg #[.int .i64 0, .int .i64 0]) := ⟨fun _ => by kernel_rfl⟩
instance ze26 : ZeroT Try.prog 26 (.agg #[.int .i64 0, .int .i64 0, .int .i64 0, .int .i64 0, .int .i64 0, .slice none 0 0]) := ⟨fun _ => by kernel_rfl⟩
instance ze43 : ZeroT Try.prog 43 (.agg #[.slice none 0 0, .slice none 0 0, .slice none 0 0]) := ⟨fun _ => by kernel_rfl⟩
instance ze50 : ZeroT Try.prog 50 (.agg #[.int .i64 0, .int .i64 0, .int .i64 0, .int .i64 0]) := ⟨fun _ => by kernel_rfl⟩
instance ze57 : ZeroT Try.prog 57 (.agg #[.int .u64 0, .int .u64 0, .int .u64 0, .int .u64 0, .int .u64 0, .int .u64 0, .int .u64 0, .int .u64 0]) := ⟨fun _ => by kernel_rfl⟩
instance ze59 : ZeroT Try.prog 59 (.agg #[.bool false, .int .u64 0, .int .u64 0, .int .u64 0, .int .u64 0, .int .u64 0, .int .u64 0, .int .u64 0, .int .u64 0]) := ⟨fun _ => by kernel_rfl⟩
instance ze61 : ZeroT Try.prog 61 (.agg #[.bool false, .int .u64 0, .int .u64 0, .int .u64 0, .int .u64 0, .int .u64 0, .int .u64 0, .int .u64 0, .int .u64 0, .bool false, .int .u64 0, .int .u64 0, .int .u64 0, .int .u64 0, .int .u64 0, .int .u64 0, .int .u64 0, .int .u64 0, .int .u64 0, .int .u64 0, .int .u64 0, .int .u64 0, .int .u64 0, .int .u64 0, .int .u64 0, .int .u64 0]) := ⟨fun _ => by kernel_rfl⟩
instance ze64 : ZeroT Try.prog 64 (.agg #[.int .i64 0, .int .i64 0, .int .i64 0, .bool false, .bool false]) := ⟨fun _ => by kernel_rfl⟩
instance ze73 : ZeroT Try.prog 73 (.agg #[.int .i64 0, .int .i64 0]) := ⟨fun _ => by kernel_rfl⟩
instance ze3 : ZeroT Try.prog 3 (.int .i64 0) := ⟨fun _ => by kernel_rfl⟩
instance ze45 : ZeroT Try.prog 45 (.slice none 0 0) := ⟨fun _ => by kernel_rfl⟩
instance ze76 : ZeroT Try.prog 76 (.slice none 0 0) := ⟨fun _ => by kernel_rfl⟩
instance ze79 : ZeroT Try.prog 79 (.agg #[.int .i64 0, .bool false, .int .i64 0]) := ⟨fun _ => by kernel_rfl⟩
instance fi23_0 : FieldT Try.prog 23 0 0 := ⟨fun _ _ => by kernel_rfl⟩
instance fi23_1 : FieldT Try.prog 23 1 1 := ⟨fun _ _ => by kernel_rfl⟩
instance fi26_0 : FieldT Try.prog 26 0 0 := ⟨fun _ _ => by kernel_rfl⟩
instance fi26_1 : FieldT Try.prog 26 1 2 := ⟨fun _ _ => by kernel_rfl⟩
instance fi26_2 : FieldT Try.prog 26 2 3 := ⟨fun _ _ => by kernel_rfl⟩
instance fi26_3 : FieldT Try.prog 26 3 4 := ⟨fun _ _ => by kernel_rfl⟩
instance fi26_4 : FieldT Try.prog 26 4 5 := ⟨fun _ _ => by kernel_rfl⟩
instance fi43_0 : FieldT Try.prog 43 0 0 := ⟨fun _ _ => by kernel_rfl⟩
instance fi43_1 : FieldT Try.prog 43 1 1 := ⟨fun _ _ => by kernel_rfl⟩
instance fi43_2 : FieldT Try.prog 43 2 2 := ⟨fun _ _ => by kernel_rfl⟩
instance fi50_0 : FieldT Try.prog 50 0 0 := ⟨fun _ _ => by kernel_rfl⟩
instance fi50_1 : FieldT Try.prog 50 1 2 := ⟨fun _ _ => by kernel_rfl⟩
instance fi59_0 : FieldT Try.prog 59 0 0 := ⟨fun _ _ => by kernel_rfl⟩
instance fi59_1 : FieldT Try.prog 59 1 1 := ⟨fun _ _ => by kernel_rfl⟩
instance fi61_0 : FieldT Try.prog 61 0 0 := ⟨fun _ _ => by kernel_rfl⟩
instance fi61_1 : FieldT Try.prog 61 1 9 := ⟨fun _ _ => by kernel_rfl⟩
instance fi61_2 : FieldT Try.prog 61 2 18 := ⟨fun _ _ => by kernel_rfl⟩
instance fi64_0 : FieldT Try.prog 64 0 0 := ⟨fun _ _ => by kernel_rfl⟩
instance fi64_1 : FieldT Try.prog 64 1 1 := ⟨fun _ _ => by kernel_rfl⟩
instance fi64_2 : FieldT Try.prog 64 2 2 := ⟨fun _ _ => by kernel_rfl⟩
instance fi64_3 : FieldT Try.prog 64 3 3 := ⟨fun _ _ => by kernel_rfl⟩
instance fi64_4 : FieldT Try.prog 64 4 4 := ⟨fun _ _ => by kernel_rfl⟩
instance fi73_0 : FieldT Try.prog 73 0 0 := ⟨fun _ _ => by kernel_rfl⟩
instance fi73_1 : FieldT Try.prog 73 1 1 := ⟨fun _ _ => by kernel_rfl⟩
instance fi79_0 : FieldT Try.prog 79 0 0 := ⟨fun _ _ => by kernel_rfl⟩
instance fi79_2 : FieldT Try.prog 79 2 2 := ⟨fun _ _ => by kernel_rfl⟩
instance hb4 : HasBody Try.prog 4 := ⟨_, Try.func4, by kernel_rfl, by kernel_rfl⟩
instance hb5 : HasBody Try.prog 5 := ⟨_, Try.func5, by kernel_rfl, by kernel_rfl⟩
instance hb6 : HasBody Try.prog 6 := ⟨_, Try.func6, by kernel_rfl, by kernel_rfl⟩
instance hb7 : HasBody Try.prog 7 := ⟨_, Try.func7, by kernel_rfl, by kernel_rfl⟩
instance hb8 : HasBody Try.prog 8 := ⟨_, Try.func8, by kernel_rfl, by kernel_rfl⟩
instance hb9 : HasBody Try.prog 9 := ⟨_, Try.func9, by kernel_rfl, by kernel_rfl⟩
instance hb10 : HasBody Try.prog 10 := ⟨_, Try.func10, by kernel_rfl, by kernel_rfl⟩
instance hb11 : HasBody Try.prog 11 := ⟨_, Try.func11, by kernel_rfl, by kernel_rfl⟩
instance hb12 : HasBody Try.prog 12 := ⟨_, Try.func12, by kernel_rfl, by kernel_rfl⟩
instance hb13 : HasBody Try.prog 13 := ⟨_, Try.func13, by kernel_rfl, by kernel_rfl⟩
instance hb14 : HasBody Try.prog 14 := ⟨_, Try.func14, by kernel_rfl, by kernel_rfl⟩
instance hb15 : HasBody Try.prog 15 := ⟨_, Try.func15, by kernel_rfl, by kernel_rfl⟩
instance hb16 : HasBody Try.prog 16 := ⟨_, Try.func16, by kernel_rfl, by kernel_rfl⟩
instance hb17 : HasBody Try.prog 17 := ⟨_, Try.func17, by kernel_rfl, by kernel_rfl⟩
instance hb18 : HasBody Try.prog 18 := ⟨_, Try.func18, by kernel_rfl, by kernel_rfl⟩
instance hb19 : HasBody Try.prog 19 := ⟨_, Try.func19, by kernel_rfl, by kernel_rfl⟩
instance hb20 : HasBody Try.prog 20 := ⟨_, Try.func20, by kernel_rfl, by kernel_rfl⟩
instance hb21 : HasBody Try.prog 21 := ⟨_, Try.func21, by kernel_rfl, by kernel_rfl⟩
instance hb22 : HasBody Try.prog 22 := ⟨_, Try.func22, by kernel_rfl, by kernel_rfl⟩
instance hb23 : HasBody Try.prog 23 := ⟨_, Try.func23, by kernel_rfl, by kernel_rfl⟩
instance hb24 : HasBody Try.prog 24 := ⟨_, Try.func24, by kernel_rfl, by kernel_rfl⟩
instance hb25 : HasBody Try.prog 25 := ⟨_, Try.func25, by kernel_rfl, by kernel_rfl⟩
instance hb26 : HasBody Try.prog 26 := ⟨_, Try.func26, by kernel_rfl, by kernel_rfl⟩
instance hb27 : HasBody Try.prog 27 := ⟨_, Try.func27, by kernel_rfl, by kernel_rfl⟩
instance hb28 : HasBody Try.prog 28 := ⟨_, Try.func28, by kernel_rfl, by kernel_rfl⟩
instance hb29 : HasBody Try.prog 29 := ⟨_, Try.func29, by kernel_rfl, by kernel_rfl⟩
instance hb30 : HasBody Try.prog 30 := ⟨_, Try.func30, by kernel_rfl, by kernel_rfl⟩
instance hb31 : HasBody Try.prog 31 := ⟨_, Try.func31, by kernel_rfl, by kernel_rfl⟩
instance hb32 : HasBody Try.prog 32 := ⟨_, Try.func32, by kernel_rfl, by kernel_rfl⟩
instance hb33 : HasBody Try.prog 33 := ⟨_, Try.func33, by kernel_rfl, by kernel_rfl⟩
instance hb34 : HasBody Try.prog 34 := ⟨_, Try.func34, by kernel_rfl, by kernel_rfl⟩
instance hb35 : HasBody Try.prog 35 := ⟨_, Try.func35, by kernel_rfl, by kernel_rfl⟩
instance hb36 : HasBody Try.prog 36 := ⟨_, Try.func36, by kernel_rfl, by kernel_rfl⟩
instance hb37 : HasBody Try.prog 37 := ⟨_, Try.func37, by kernel_rfl, by kernel_rfl⟩
instance hb38 : HasBody Try.prog 38 := ⟨_, Try.func38, by kernel_rfl, by kernel_rfl⟩
instance hb39 : HasBody Try.prog 39 := ⟨_, Try.func39, by kernel_rfl, by kernel_rfl⟩
instance hb40 : HasBody Try.prog 40 := ⟨_, Try.func40, by kernel_rfl, by kernel_rfl⟩
instance hb41 : HasBody Try.prog 41 := ⟨_, Try.func41, by kernel_rfl, by kernel_rfl⟩
instance hb42 : HasBody Try.prog 42 := ⟨_, Try.func42, by kernel_rfl, by kernel_rfl⟩
instance hb43 : HasBody Try.prog 43 := ⟨_, Try.func43, by kernel_rfl, by kernel_rfl⟩
instance hb44 : HasBody Try.prog 44 := ⟨_, Try.func44, by kernel_rfl, by kernel_rfl⟩
instance hb45 : HasBody Try.prog 45 := ⟨_, Try.func45, by kernel_rfl, by kernel_rfl⟩
instance hb46 : HasBody Try.prog 46 := ⟨_, Try.func46, by kernel_rfl, by kernel_rfl⟩
instance hb47 : HasBody Try.prog 47 := ⟨_, Try.func47, by kernel_rfl, by kernel_rfl⟩
instance hb48 : HasBody Try.prog 48 := ⟨_, Try.func48, by kernel_rfl, by kernel_rfl⟩
instance hb49 : HasBody Try.prog 49 := ⟨_, Try.func49, by kernel_rfl, by kernel_rfl⟩
instance hb50 : HasBody Try.prog 50 := ⟨_, Try.func50, by kernel_rfl, by kernel_rfl⟩
instance hb51 : HasBody Try.prog 51 := ⟨_, Try.func51, by kernel_rfl, by kernel_rfl⟩
instance hb52 : HasBody Try.prog 52 := ⟨_, Try.func52, by kernel_rfl, by kernel_rfl⟩
instance hb53 : HasBody Try.prog 53 := ⟨_, Try.func53, by kernel_rfl, by kernel_rfl⟩
instance hb54 : HasBody Try.prog 54 := ⟨_, Try.func54, by kernel_rfl, by kernel_rfl⟩
instance hb55 : HasBody Try.prog 55 := ⟨_, Try.func55, by kernel_rfl, by kernel_rfl⟩
instance hb56 : HasBody Try.prog 56 := ⟨_, Try.func56, by kernel_rfl, by kernel_rfl⟩
instance hb57 : HasBody Try.prog 57 := ⟨_, Try.func57, by kernel_rfl, by kernel_rfl⟩
instance hb58 : HasBody Try.prog 58 := ⟨_, Try.func58, by kernel_rfl, by kernel_rfl⟩
instance hb59 : HasBody Try.prog 59 := ⟨_, Try.func59, by kernel_rfl, by kernel_rfl⟩
instance hb60 : HasBody Try.prog 60 := ⟨_, Try.func60, by kernel_rfl, by kernel_rfl⟩
instance hb61 : HasBody Try.prog 61 := ⟨_, Try.func61, by kernel_rfl, by kernel_rfl⟩
instance hb62 : HasBody Try.prog 62 := ⟨_, Try.func62, by kernel_rfl, by kernel_rfl⟩
instance hb63 : HasBody Try.prog 63 := ⟨_, Try.func63, by kernel_rfl, by kernel_rfl⟩
instance hb64 : HasBody Try.prog 64 := ⟨_, Try.func64, by kernel_rfl, by kernel_rfl⟩
instance hb65 : HasBody Try.prog 65 := ⟨_, Try.func65, by kernel_rfl, by kernel_rfl⟩
instance hb66 : HasBody Try.prog 66 := ⟨_, Try.func66, by kernel_rfl, by kernel_rfl⟩
instance hb67 : HasBody Try.prog 67 := ⟨_, Try.func67, by kernel_rfl, by kernel_rfl⟩
instance hb68 : HasBody Try.prog 68 := ⟨_, Try.func68, by kernel_rfl, by kernel_rfl⟩
instance hb69 : HasBody Try.prog 69 := ⟨_, Try.func69, by kernel_rfl, by kernel_rfl⟩
instance hb70 : HasBody Try.prog 70 := ⟨_, Try.func70, by kernel_rfl, by kernel_rfl⟩
instance hb71 : HasBody Try.prog 71 := ⟨_, Try.func71, by kernel_rfl, by kernel_rfl⟩
instance hb72 : HasBody Try.prog 72 := ⟨_, Try.func72, by kernel_rfl, by kernel_rfl⟩
instance hb73 : HasBody Try.prog 73 := ⟨_, Try.func73, by kernel_rfl, by kernel_rfl⟩
instance hb74 : HasBody Try.prog 74 := ⟨_, Try.func74, by kernel_rfl, by kernel_rfl⟩
instance hb75 : HasBody Try.prog 75 := ⟨_, Try.func75, by kernel_rfl, by kernel_rfl⟩
instance hb76 : HasBody Try.prog 76 := ⟨_, Try.func76, by kernel_rfl, by kernel_rfl⟩
instance hb77 : HasBody Try.prog 77 := ⟨_, Try.func77, by kernel_rfl, by kernel_rfl⟩
instance hb78 : HasBody Try.prog 78 := ⟨_, Try.func78, by kernel_rfl, by kernel_rfl⟩
instance hb79 : HasBody Try.prog 79 := ⟨_, Try.func79, by kernel_rfl, by kernel_rfl⟩
instance hb81 : HasBody Try.prog 81 := ⟨_, Try.func81, by kernel_rfl, by kernel_rfl⟩
instance hb82 : HasBody Try.prog 82 := ⟨_, Try.func82, by kernel_rfl, by kernel_rfl⟩
instance hb83 : HasBody Try.prog 83 := ⟨_, Try.func83, by kernel_rfl, by kernel_rfl⟩
instance hb84 : HasBody Try.prog 84 := ⟨_, Try.func84, by kernel_rfl, by kernel_rfl⟩
instance hb86 : HasBody Try.prog 86 := ⟨_, Try.func86, by kernel_rfl, by kernel_rfl⟩
instance hb87 : HasBody Try.prog 87 := ⟨_, Try.func87, by kernel_rfl, by kernel_rfl⟩
instance hb88 : HasBody Try.prog 88 := ⟨_, Try.func88, by kernel_rfl, by kernel_rfl⟩
instance hb89 : HasBody Try.prog 89 := ⟨_, Try.func89, by kernel_rfl, by kernel_rfl⟩
instance hb90 : HasBody Try.prog 90 := ⟨_, Try.func90, by kernel_rfl, by kernel_rfl⟩
instance hb91 : HasBody Try.prog 91 := ⟨_, Try.func91, by kernel_rfl, by kernel_rfl⟩
theorem mixed : Try.prog.follows .mixedOrders = true := by kernel_rfl
end Go.Proofs.Ytiebimdjdmogkaa.R
