/- What the engine's rules ask of the program's tables: an instance each. Printed by program (facts.py). -/
import Derived.Test.YtmmfndmfibbhcaaMem
import Derived.Test.YtmmfndmfibbhcaaChecked
namespace Go.Proofs.Ytmmfndmfibbhcaa.R

instance kt3 : KindT Try.prog 3 false := ⟨by kernel_rfl⟩
instance sz3 : SzT Try.prog 3 1 := ⟨by kernel_rfl⟩
instance kt4 : KindT Try.prog 4 false := ⟨by kernel_rfl⟩
instance sz4 : SzT Try.prog 4 1 := ⟨by kernel_rfl⟩
instance kt5 : KindT Try.prog 5 false := ⟨by kernel_rfl⟩
instance sz5 : SzT Try.prog 5 1 := ⟨by kernel_rfl⟩
instance kt22 : KindT Try.prog 22 false := ⟨by kernel_rfl⟩
instance sz22 : SzT Try.prog 22 1 := ⟨by kernel_rfl⟩
instance kt25 : KindT Try.prog 25 false := ⟨by kernel_rfl⟩
instance sz25 : SzT Try.prog 25 1 := ⟨by kernel_rfl⟩
instance kt27 : KindT Try.prog 27 false := ⟨by kernel_rfl⟩
instance sz27 : SzT Try.prog 27 1 := ⟨by kernel_rfl⟩
instance kt30 : KindT Try.prog 30 true := ⟨by kernel_rfl⟩
instance sz30 : SzT Try.prog 30 4 := ⟨by kernel_rfl⟩
instance kt43 : KindT Try.prog 43 true := ⟨by kernel_rfl⟩
instance sz43 : SzT Try.prog 43 2 := ⟨by kernel_rfl⟩
instance kt57 : KindT Try.prog 57 false := ⟨by kernel_rfl⟩
instance sz57 : SzT Try.prog 57 1 := ⟨by kernel_rfl⟩
instance kt60 : KindT Try.prog 60 false := ⟨by kernel_rfl⟩
instance sz60 : SzT Try.prog 60 1 := ⟨by kernel_rfl⟩
instance kt62 : KindT Try.prog 62 false := ⟨by kernel_rfl⟩
instance sz62 : SzT Try.prog 62 1 := ⟨by kernel_rfl⟩
instance kt70 : KindT Try.prog 70 false := ⟨by kernel_rfl⟩
instance sz70 : SzT Try.prog 70 1 := ⟨by kernel_rfl⟩
instance kt71 : KindT Try.prog 71 false := ⟨by kernel_rfl⟩
instance sz71 : SzT Try.prog 71 1 := ⟨by kernel_rfl⟩
instance kt73 : KindT Try.prog 73 true := ⟨by kernel_rfl⟩
instance sz73 : SzT Try.prog 73 2 := ⟨by kernel_rfl⟩
instance kt74 : KindT Try.prog 74 false := ⟨by kernel_rfl⟩
instance sz74 : SzT Try.prog 74 1 := ⟨by kernel_rfl⟩
instance kt76 : KindT Try.prog 76 true := ⟨by kernel_rfl⟩
instance sz76 : SzT Try.prog 76 5 := ⟨by kernel_rfl⟩
instance kt99 : KindT Try.prog 99 false := ⟨by kernel_rfl⟩
instance sz99 : SzT Try.prog 99 1 := ⟨by kernel_rfl⟩
instance kt101 : KindT Try.prog 101 true := ⟨by kernel_rfl⟩
instance sz101 : SzT Try.prog 101 4 := ⟨by kernel_rfl⟩
instance kt112 : KindT Try.prog 112 true := ⟨by kernel_rfl⟩
instance sz112 : SzT Try.prog 112 2 := ⟨by kernel_rfl⟩
instance kt116 : KindT Try.prog 116 true := ⟨by kernel_rfl⟩
instance sz116 : SzT Try.prog 116 8 := ⟨by kernel_rfl⟩
instance kt135 : KindT Try.prog 135 true := ⟨by kernel_rfl⟩
instance sz135 : SzT Try.prog 135 3 := ⟨by kernel_rfl⟩
instance sl22 : SliceT Try.prog 22 43 2 := ⟨by kernel_rfl, by kernel_rfl⟩
instance sl25 : SliceT Try.prog 25 4 1 := ⟨by kernel_rfl, by kernel_rfl⟩
instance sl27 : SliceT Try.prog 27 30 4 := ⟨by kernel_rfl, by kernel_rfl⟩
instance sl39 : SliceT Try.prog 39 45 3 := ⟨by kernel_rfl, by kernel_rfl⟩
instance sl60 : SliceT Try.prog 60 5 1 := ⟨by kernel_rfl, by kernel_rfl⟩
instance sl70 : SliceT Try.prog 70 101 4 := ⟨by kernel_rfl, by kernel_rfl⟩
instance sl71 : SliceT Try.prog 71 135 3 := ⟨by kernel_rfl, by kernel_rfl⟩
instance sl74 : SliceT Try.prog 74 3 1 := ⟨by kernel_rfl, by kernel_rfl⟩
instance ar86 : ArrT Try.prog 86 2 3 1 := ⟨by kernel_rfl, by kernel_rfl⟩
instance sl99 : SliceT Try.prog 99 112 2 := ⟨by kernel_rfl, by kernel_rfl⟩
instance sl106 : SliceT Try.prog 106 116 8 := ⟨by kernel_rfl, by kernel_rfl⟩
instance sl160 : SliceT Try.prog 160 62 1 := ⟨by kernel_rfl, by kernel_rfl⟩
instance ty0 : TyV Try.prog 0 .t := ⟨trivial⟩
instance ty3 : TyV Try.prog 3 .i := ⟨trivial⟩
instance ty4 : TyV Try.prog 4 .b := ⟨trivial⟩
instance ty5 : TyV Try.prog 5 .i := ⟨trivial⟩
instance ty22 : TyV Try.prog 22 .s := ⟨trivial⟩
instance ty25 : TyV Try.prog 25 .s := ⟨trivial⟩
instance ty27 : TyV Try.prog 27 .s := ⟨trivial⟩
instance ty30 : TyV Try.prog 30 .a := ⟨trivial⟩
instance ty31 : TyV Try.prog 31 .f := ⟨trivial⟩
instance ty36 : TyV Try.prog 36 .t := ⟨trivial⟩
instance ty39 : TyV Try.prog 39 .s := ⟨trivial⟩
instance ty40 : TyV Try.prog 40 .p := ⟨trivial⟩
instance ty43 : TyV Try.prog 43 .a := ⟨trivial⟩
instance ty46 : TyV Try.prog 46 .t := ⟨trivial⟩
instance ty48 : TyV Try.prog 48 .f := ⟨trivial⟩
instance ty50 : TyV Try.prog 50 .t := ⟨trivial⟩
instance ty53 : TyV Try.prog 53 .t := ⟨trivial⟩
instance ty57 : TyV Try.prog 57 .m := ⟨trivial⟩
instance ty59 : TyV Try.prog 59 .a := ⟨trivial⟩
instance ty60 : TyV Try.prog 60 .s := ⟨trivial⟩
instance ty62 : TyV Try.prog 62 .i := ⟨trivial⟩
instance ty63 : TyV Try.prog 63 .t := ⟨trivial⟩
instance ty65 : TyV Try.prog 65 .t := ⟨trivial⟩
instance ty70 : TyV Try.prog 70 .s := ⟨trivial⟩
instance ty71 : TyV Try.prog 71 .s := ⟨trivial⟩
instance ty73 : TyV Try.prog 73 .a := ⟨trivial⟩
instance ty74 : TyV Try.prog 74 .s := ⟨trivial⟩
instance ty76 : TyV Try.prog 76 .a := ⟨trivial⟩
instance ty78 : TyV Try.prog 78 .t := ⟨trivial⟩
instance ty81 : TyV Try.prog 81 .t := ⟨trivial⟩
instance ty87 : TyV Try.prog 87 .t := ⟨trivial⟩
instance ty91 : TyV Try.prog 91 .t := ⟨trivial⟩
instance ty99 : TyV Try.prog 99 .s := ⟨trivial⟩
instance ty101 : TyV Try.prog 101 .a := ⟨trivial⟩
instance ty102 : TyV Try.prog 102 .t := ⟨trivial⟩
instance ty106 : TyV Try.prog 106 .s := ⟨trivial⟩
instance ty107 : TyV Try.prog 107 .t := ⟨trivial⟩
instance ty112 : TyV Try.prog 112 .a := ⟨trivial⟩
instance ty114 : TyV Try.prog 114 .a := ⟨trivial⟩
instance ty116 : TyV Try.prog 116 .a := ⟨trivial⟩
instance ty118 : TyV Try.prog 118 .t := ⟨trivial⟩
instance ty120 : TyV Try.prog 120 .f := ⟨trivial⟩
instance ty126 : TyV Try.prog 126 .i := ⟨trivial⟩
instance ty127 : TyV Try.prog 127 .i := ⟨trivial⟩
instance ty129 : TyV Try.prog 129 .p := ⟨trivial⟩
instance ty131 : TyV Try.prog 131 .a := ⟨trivial⟩
instance ty135 : TyV Try.prog 135 .a := ⟨trivial⟩
instance ty141 : TyV Try.prog 141 .f := ⟨trivial⟩
instance ty151 : TyV Try.prog 151 .f := ⟨trivial⟩
instance ty160 : TyV Try.prog 160 .s := ⟨trivial⟩
instance ty162 : TyV Try.prog 162 .f := ⟨trivial⟩
instance el3 : ElemT Try.prog 3 (.int .i64 0) 1 8 := ⟨by kernel_rfl, by kernel_rfl, by decide⟩
instance el4 : ElemT Try.prog 4 (.bool false) 1 1 := ⟨by kernel_rfl, by kernel_rfl, by decide⟩
instance el5 : ElemT Try.prog 5 (.int .u8 0) 1 1 := ⟨by kernel_rfl, by kernel_rfl, by decide⟩
instance el30 : ElemT Try.prog 30 (.agg #[.int .i64 0, .int .i64 0, .int .i64 0, .int .i64 0]) 4 32 := ⟨by kernel_rfl, by kernel_rfl, by decide⟩
instance el43 : ElemT Try.prog 43 (.agg #[.int .i64 0, .int .i64 0]) 2 16 := ⟨by kernel_rfl, by kernel_rfl, by decide⟩
instance el45 : ElemT Try.prog 45 (.agg #[.int .i64 0, .int .i64 0, .int .i64 0]) 3 24 := ⟨by kernel_rfl, by kernel_rfl, by decide⟩
instance el62 : ElemT Try.prog 62 (.int .i64 0) 1 8 := ⟨by kernel_rfl, by kernel_rfl, by decide⟩
instance el101 : ElemT Try.prog 101 (.agg #[.int .i64 0, .slice none 0 0, .slice none 0 0, .bool false]) 4 64 := ⟨by kernel_rfl, by kernel_rfl, by decide⟩
instance el112 : ElemT Try.prog 112 (.agg #[.int .i64 0, .int .i64 0]) 2 16 := ⟨by kernel_rfl, by kernel_rfl, by decide⟩
instance el116 : ElemT Try.prog 116 (.agg #[.int .i64 0, .int .i64 0, .int .i64 0, .int .i64 0, .int .i64 0, .int .i64 0, .int .i64 0, .bool false]) 8 64 := ⟨by kernel_rfl, by kernel_rfl, by decide⟩
instance el135 : ElemT Try.prog 135 (.agg #[.int .i64 0, .int .i64 0, .bool false]) 3 24 := ⟨by kernel_rfl, by kernel_rfl, by decide⟩
instance de3 : DescT Try.prog 3 (.int .i64) := ⟨by kernel_rfl⟩
instance de4 : DescT Try.prog 4 .bool := ⟨by kernel_rfl⟩
instance de5 : DescT Try.prog 5 (.int .u8) := ⟨by kernel_rfl⟩
instance de40 : DescT Try.prog 40 (.pointer 59) := ⟨by kernel_rfl⟩
instance de57 : DescT Try.prog 57 (.map 3 3) := ⟨by kernel_rfl⟩
instance de62 : DescT Try.prog 62 (.int .i64) := ⟨by kernel_rfl⟩
instance de74 : DescT Try.prog 74 (.slice 3) := ⟨by kernel_rfl⟩
instance de99 : DescT Try.prog 99 (.slice 112) := ⟨by kernel_rfl⟩
instance de126 : DescT Try.prog 126 (.int .u64) := ⟨by kernel_rfl⟩
instance de127 : DescT Try.prog 127 (.int .u64) := ⟨by kernel_rfl⟩
instance ze27 : ZeroT Try.prog 27 (.slice none 0 0) := ⟨fun _ => by kernel_rfl⟩
instance ze43 : ZeroT Try.prog 43 (.agg #[.int .i64 0, .int .i64 0]) := ⟨fun _ => by kernel_rfl⟩
instance ze76 : ZeroT Try.prog 76 (.agg #[.int .i64 0, .slice none 0 0, .slice none 0 0, .int .i64 0, .slice none 0 0]) := ⟨fun _ => by kernel_rfl⟩
instance ze101 : ZeroT Try.prog 101 (.agg #[.int .i64 0, .slice none 0 0, .slice none 0 0, .bool false]) := ⟨fun _ => by kernel_rfl⟩
instance ze112 : ZeroT Try.prog 112 (.agg #[.int .i64 0, .int .i64 0]) := ⟨fun _ => by kernel_rfl⟩
instance ze135 : ZeroT Try.prog 135 (.agg #[.int .i64 0, .int .i64 0, .bool false]) := ⟨fun _ => by kernel_rfl⟩
instance ze3 : ZeroT Try.prog 3 (.int .i64 0) := ⟨fun _ => by kernel_rfl⟩
instance ze4 : ZeroT Try.prog 4 (.bool false) := ⟨fun _ => by kernel_rfl⟩
instance ze5 : ZeroT Try.prog 5 (.int .u8 0) := ⟨fun _ => by kernel_rfl⟩
instance ze30 : ZeroT Try.prog 30 (.agg #[.int .i64 0, .int .i64 0, .int .i64 0, .int .i64 0]) := ⟨fun _ => by kernel_rfl⟩
instance ze45 : ZeroT Try.prog 45 (.agg #[.int .i64 0, .int .i64 0, .int .i64 0]) := ⟨fun _ => by kernel_rfl⟩
instance ze62 : ZeroT Try.prog 62 (.int .i64 0) := ⟨fun _ => by kernel_rfl⟩
instance ze116 : ZeroT Try.prog 116 (.agg #[.int .i64 0, .int .i64 0, .int .i64 0, .int .i64 0, .int .i64 0, .int .i64 0, .int .i64 0, .bool false]) := ⟨fun _ => by kernel_rfl⟩
instance fi24_0 : FieldT Try.prog 24 0 0 := ⟨fun _ _ => by kernel_rfl⟩
instance fi24_1 : FieldT Try.prog 24 1 1 := ⟨fun _ _ => by kernel_rfl⟩
instance fi43_0 : FieldT Try.prog 43 0 0 := ⟨fun _ _ => by kernel_rfl⟩
instance fi43_1 : FieldT Try.prog 43 1 1 := ⟨fun _ _ => by kernel_rfl⟩
instance fi45_0 : FieldT Try.prog 45 0 0 := ⟨fun _ _ => by kernel_rfl⟩
instance fi45_1 : FieldT Try.prog 45 1 1 := ⟨fun _ _ => by kernel_rfl⟩
instance fi59_0 : FieldT Try.prog 59 0 0 := ⟨fun _ _ => by kernel_rfl⟩
instance fi59_1 : FieldT Try.prog 59 1 1 := ⟨fun _ _ => by kernel_rfl⟩
instance fi73_0 : FieldT Try.prog 73 0 0 := ⟨fun _ _ => by kernel_rfl⟩
instance fi73_1 : FieldT Try.prog 73 1 1 := ⟨fun _ _ => by kernel_rfl⟩
instance fi76_0 : FieldT Try.prog 76 0 0 := ⟨fun _ _ => by kernel_rfl⟩
instance fi76_1 : FieldT Try.prog 76 1 1 := ⟨fun _ _ => by kernel_rfl⟩
instance fi76_2 : FieldT Try.prog 76 2 2 := ⟨fun _ _ => by kernel_rfl⟩
instance fi76_3 : FieldT Try.prog 76 3 4 := ⟨fun _ _ => by kernel_rfl⟩
instance fi101_0 : FieldT Try.prog 101 0 0 := ⟨fun _ _ => by kernel_rfl⟩
instance fi101_1 : FieldT Try.prog 101 1 1 := ⟨fun _ _ => by kernel_rfl⟩
instance fi101_2 : FieldT Try.prog 101 2 2 := ⟨fun _ _ => by kernel_rfl⟩
instance fi101_3 : FieldT Try.prog 101 3 3 := ⟨fun _ _ => by kernel_rfl⟩
instance fi112_0 : FieldT Try.prog 112 0 0 := ⟨fun _ _ => by kernel_rfl⟩
instance fi112_1 : FieldT Try.prog 112 1 1 := ⟨fun _ _ => by kernel_rfl⟩
instance fi116_0 : FieldT Try.prog 116 0 0 := ⟨fun _ _ => by kernel_rfl⟩
instance fi116_3 : FieldT Try.prog 116 3 6 := ⟨fun _ _ => by kernel_rfl⟩
instance fi131_0 : FieldT Try.prog 131 0 0 := ⟨fun _ _ => by kernel_rfl⟩
instance fi131_1 : FieldT Try.prog 131 1 1 := ⟨fun _ _ => by kernel_rfl⟩
instance fi135_0 : FieldT Try.prog 135 0 0 := ⟨fun _ _ => by kernel_rfl⟩
instance fi135_1 : FieldT Try.prog 135 1 1 := ⟨fun _ _ => by kernel_rfl⟩
instance fi135_2 : FieldT Try.prog 135 2 2 := ⟨fun _ _ => by kernel_rfl⟩
instance hb17 : HasBody Try.prog 17 := ⟨_, Try.func17, by kernel_rfl, by kernel_rfl⟩
instance hb18 : HasBody Try.prog 18 := ⟨_, Try.func18, by kernel_rfl, by kernel_rfl⟩
instance hb19 : HasBody Try.prog 19 := ⟨_, Try.func19, by kernel_rfl, by kernel_rfl⟩
instance hb20 : HasBody Try.prog 20 := ⟨_, Try.func20, by kernel_rfl, by kernel_rfl⟩
instance hb21 : HasBody Try.prog 21 := ⟨_, Try.func21, by kernel_rfl, by kernel_rfl⟩
instance hb22 : HasBody Try.prog 22 := ⟨_, Try.func22, by kernel_rfl, by kernel_rfl⟩
instance hb23 : HasBody Try.prog 23 := ⟨_, Try.func23, by kernel_rfl, by kernel_rfl⟩
instance hb24 : HasBody Try.prog 24 := ⟨_, Try.func24, by kernel_rfl, by kernel_rfl⟩
instance hb25 : HasBody Try.prog 25 := ⟨_, Try.func25, by kernel_rfl, by kernel_rfl⟩
instance hb26 : HasBody Try.prog 26 := ⟨_, Try.func26, by kernel_rfl, by kernel_rfl⟩
instance hb27 : HasBody Try.prog 27 := ⟨_, Try.func27, by kernel_rfl, by kernel_rfl⟩
instance hb28 : HasBody Try.prog 28 := ⟨_, Try.func28, by kernel_rfl, by kernel_rfl⟩
instance hb29 : HasBody Try.prog 29 := ⟨_, Try.func29, by kernel_rfl, by kernel_rfl⟩
instance hb30 : HasBody Try.prog 30 := ⟨_, Try.func30, by kernel_rfl, by kernel_rfl⟩
instance hb31 : HasBody Try.prog 31 := ⟨_, Try.func31, by kernel_rfl, by kernel_rfl⟩
instance hb32 : HasBody Try.prog 32 := ⟨_, Try.func32, by kernel_rfl, by kernel_rfl⟩
instance hb33 : HasBody Try.prog 33 := ⟨_, Try.func33, by kernel_rfl, by kernel_rfl⟩
instance hb34 : HasBody Try.prog 34 := ⟨_, Try.func34, by kernel_rfl, by kernel_rfl⟩
instance hb35 : HasBody Try.prog 35 := ⟨_, Try.func35, by kernel_rfl, by kernel_rfl⟩
instance hb36 : HasBody Try.prog 36 := ⟨_, Try.func36, by kernel_rfl, by kernel_rfl⟩
instance hb37 : HasBody Try.prog 37 := ⟨_, Try.func37, by kernel_rfl, by kernel_rfl⟩
instance hb38 : HasBody Try.prog 38 := ⟨_, Try.func38, by kernel_rfl, by kernel_rfl⟩
instance hb39 : HasBody Try.prog 39 := ⟨_, Try.func39, by kernel_rfl, by kernel_rfl⟩
instance hb40 : HasBody Try.prog 40 := ⟨_, Try.func40, by kernel_rfl, by kernel_rfl⟩
instance hb41 : HasBody Try.prog 41 := ⟨_, Try.func41, by kernel_rfl, by kernel_rfl⟩
instance hb42 : HasBody Try.prog 42 := ⟨_, Try.func42, by kernel_rfl, by kernel_rfl⟩
instance hb43 : HasBody Try.prog 43 := ⟨_, Try.func43, by kernel_rfl, by kernel_rfl⟩
instance hb44 : HasBody Try.prog 44 := ⟨_, Try.func44, by kernel_rfl, by kernel_rfl⟩
instance hb45 : HasBody Try.prog 45 := ⟨_, Try.func45, by kernel_rfl, by kernel_rfl⟩
instance hb46 : HasBody Try.prog 46 := ⟨_, Try.func46, by kernel_rfl, by kernel_rfl⟩
instance hb47 : HasBody Try.prog 47 := ⟨_, Try.func47, by kernel_rfl, by kernel_rfl⟩
instance hb48 : HasBody Try.prog 48 := ⟨_, Try.func48, by kernel_rfl, by kernel_rfl⟩
instance hb49 : HasBody Try.prog 49 := ⟨_, Try.func49, by kernel_rfl, by kernel_rfl⟩
instance hb50 : HasBody Try.prog 50 := ⟨_, Try.func50, by kernel_rfl, by kernel_rfl⟩
instance hb51 : HasBody Try.prog 51 := ⟨_, Try.func51, by kernel_rfl, by kernel_rfl⟩
instance hb52 : HasBody Try.prog 52 := ⟨_, Try.func52, by kernel_rfl, by kernel_rfl⟩
instance hb53 : HasBody Try.prog 53 := ⟨_, Try.func53, by kernel_rfl, by kernel_rfl⟩
instance hb54 : HasBody Try.prog 54 := ⟨_, Try.func54, by kernel_rfl, by kernel_rfl⟩
instance hb55 : HasBody Try.prog 55 := ⟨_, Try.func55, by kernel_rfl, by kernel_rfl⟩
instance hb56 : HasBody Try.prog 56 := ⟨_, Try.func56, by kernel_rfl, by kernel_rfl⟩
instance hb57 : HasBody Try.prog 57 := ⟨_, Try.func57, by kernel_rfl, by kernel_rfl⟩
instance hb58 : HasBody Try.prog 58 := ⟨_, Try.func58, by kernel_rfl, by kernel_rfl⟩
instance hb59 : HasBody Try.prog 59 := ⟨_, Try.func59, by kernel_rfl, by kernel_rfl⟩
instance hb60 : HasBody Try.prog 60 := ⟨_, Try.func60, by kernel_rfl, by kernel_rfl⟩
instance hb61 : HasBody Try.prog 61 := ⟨_, Try.func61, by kernel_rfl, by kernel_rfl⟩
instance hb62 : HasBody Try.prog 62 := ⟨_, Try.func62, by kernel_rfl, by kernel_rfl⟩
instance hb63 : HasBody Try.prog 63 := ⟨_, Try.func63, by kernel_rfl, by kernel_rfl⟩
instance hb64 : HasBody Try.prog 64 := ⟨_, Try.func64, by kernel_rfl, by kernel_rfl⟩
instance hb65 : HasBody Try.prog 65 := ⟨_, Try.func65, by kernel_rfl, by kernel_rfl⟩
instance hb66 : HasBody Try.prog 66 := ⟨_, Try.func66, by kernel_rfl, by kernel_rfl⟩
instance hb67 : HasBody Try.prog 67 := ⟨_, Try.func67, by kernel_rfl, by kernel_rfl⟩
instance hb68 : HasBody Try.prog 68 := ⟨_, Try.func68, by kernel_rfl, by kernel_rfl⟩
instance hb69 : HasBody Try.prog 69 := ⟨_, Try.func69, by kernel_rfl, by kernel_rfl⟩
instance hb70 : HasBody Try.prog 70 := ⟨_, Try.func70, by kernel_rfl, by kernel_rfl⟩
instance hb71 : HasBody Try.prog 71 := ⟨_, Try.func71, by kernel_rfl, by kernel_rfl⟩
instance hb72 : HasBody Try.prog 72 := ⟨_, Try.func72, by kernel_rfl, by kernel_rfl⟩
instance hb73 : HasBody Try.prog 73 := ⟨_, Try.func73, by kernel_rfl, by kernel_rfl⟩
instance hb74 : HasBody Try.prog 74 := ⟨_, Try.func74, by kernel_rfl, by kernel_rfl⟩
instance hb75 : HasBody Try.prog 75 := ⟨_, Try.func75, by kernel_rfl, by kernel_rfl⟩
instance hb76 : HasBody Try.prog 76 := ⟨_, Try.func76, by kernel_rfl, by kernel_rfl⟩
instance hb77 : HasBody Try.prog 77 := ⟨_, Try.func77, by kernel_rfl, by kernel_rfl⟩
instance hb78 : HasBody Try.prog 78 := ⟨_, Try.func78, by kernel_rfl, by kernel_rfl⟩
instance hb79 : HasBody Try.prog 79 := ⟨_, Try.func79, by kernel_rfl, by kernel_rfl⟩
instance hb80 : HasBody Try.prog 80 := ⟨_, Try.func80, by kernel_rfl, by kernel_rfl⟩
instance hb81 : HasBody Try.prog 81 := ⟨_, Try.func81, by kernel_rfl, by kernel_rfl⟩
instance hb82 : HasBody Try.prog 82 := ⟨_, Try.func82, by kernel_rfl, by kernel_rfl⟩
instance hb83 : HasBody Try.prog 83 := ⟨_, Try.func83, by kernel_rfl, by kernel_rfl⟩
instance hb84 : HasBody Try.prog 84 := ⟨_, Try.func84, by kernel_rfl, by kernel_rfl⟩
instance hb85 : HasBody Try.prog 85 := ⟨_, Try.func85, by kernel_rfl, by kernel_rfl⟩
instance hb86 : HasBody Try.prog 86 := ⟨_, Try.func86, by kernel_rfl, by kernel_rfl⟩
instance hb87 : HasBody Try.prog 87 := ⟨_, Try.func87, by kernel_rfl, by kernel_rfl⟩
instance hb88 : HasBody Try.prog 88 := ⟨_, Try.func88, by kernel_rfl, by kernel_rfl⟩
instance hb89 : HasBody Try.prog 89 := ⟨_, Try.func89, by kernel_rfl, by kernel_rfl⟩
instance hb90 : HasBody Try.prog 90 := ⟨_, Try.func90, by kernel_rfl, by kernel_rfl⟩
instance hb91 : HasBody Try.prog 91 := ⟨_, Try.func91, by kernel_rfl, by kernel_rfl⟩
instance hb92 : HasBody Try.prog 92 := ⟨_, Try.func92, by kernel_rfl, by kernel_rfl⟩
instance hb93 : HasBody Try.prog 93 := ⟨_, Try.func93, by kernel_rfl, by kernel_rfl⟩
instance hb94 : HasBody Try.prog 94 := ⟨_, Try.func94, by kernel_rfl, by kernel_rfl⟩
instance hb95 : HasBody Try.prog 95 := ⟨_, Try.func95, by kernel_rfl, by kernel_rfl⟩
instance hb96 : HasBody Try.prog 96 := ⟨_, Try.func96, by kernel_rfl, by kernel_rfl⟩
instance hb97 : HasBody Try.prog 97 := ⟨_, Try.func97, by kernel_rfl, by kernel_rfl⟩
instance hb98 : HasBody Try.prog 98 := ⟨_, Try.func98, by kernel_rfl, by kernel_rfl⟩
instance hb99 : HasBody Try.prog 99 := ⟨_, Try.func99, by kernel_rfl, by kernel_rfl⟩
instance hb100 : HasBody Try.prog 100 := ⟨_, Try.func100, by kernel_rfl, by kernel_rfl⟩
instance hb101 : HasBody Try.prog 101 := ⟨_, Try.func101, by kernel_rfl, by kernel_rfl⟩
instance hb102 : HasBody Try.prog 102 := ⟨_, Try.func102, by kernel_rfl, by kernel_rfl⟩
instance hb103 : HasBody Try.prog 103 := ⟨_, Try.func103, by kernel_rfl, by kernel_rfl⟩
instance hb104 : HasBody Try.prog 104 := ⟨_, Try.func104, by kernel_rfl, by kernel_rfl⟩
instance hb105 : HasBody Try.prog 105 := ⟨_, Try.func105, by kernel_rfl, by kernel_rfl⟩
instance hb106 : HasBody Try.prog 106 := ⟨_, Try.func106, by kernel_rfl, by kernel_rfl⟩
instance hb107 : HasBody Try.prog 107 := ⟨_, Try.func107, by kernel_rfl, by kernel_rfl⟩
instance hb108 : HasBody Try.prog 108 := ⟨_, Try.func108, by kernel_rfl, by kernel_rfl⟩
instance hb109 : HasBody Try.prog 109 := ⟨_, Try.func109, by kernel_rfl, by kernel_rfl⟩
instance hb110 : HasBody Try.prog 110 := ⟨_, Try.func110, by kernel_rfl, by kernel_rfl⟩
instance hb111 : HasBody Try.prog 111 := ⟨_, Try.func111, by kernel_rfl, by kernel_rfl⟩
instance hb112 : HasBody Try.prog 112 := ⟨_, Try.func112, by kernel_rfl, by kernel_rfl⟩
instance hb113 : HasBody Try.prog 113 := ⟨_, Try.func113, by kernel_rfl, by kernel_rfl⟩
instance hb114 : HasBody Try.prog 114 := ⟨_, Try.func114, by kernel_rfl, by kernel_rfl⟩
instance hb115 : HasBody Try.prog 115 := ⟨_, Try.func115, by kernel_rfl, by kernel_rfl⟩
instance hb116 : HasBody Try.prog 116 := ⟨_, Try.func116, by kernel_rfl, by kernel_rfl⟩
instance hb118 : HasBody Try.prog 118 := ⟨_, Try.func118, by kernel_rfl, by kernel_rfl⟩
instance hb119 : HasBody Try.prog 119 := ⟨_, Try.func119, by kernel_rfl, by kernel_rfl⟩
instance hb120 : HasBody Try.prog 120 := ⟨_, Try.func120, by kernel_rfl, by kernel_rfl⟩
instance hb121 : HasBody Try.prog 121 := ⟨_, Try.func121, by kernel_rfl, by kernel_rfl⟩
instance hb122 : HasBody Try.prog 122 := ⟨_, Try.func122, by kernel_rfl, by kernel_rfl⟩
instance hb124 : HasBody Try.prog 124 := ⟨_, Try.func124, by kernel_rfl, by kernel_rfl⟩
instance hb125 : HasBody Try.prog 125 := ⟨_, Try.func125, by kernel_rfl, by kernel_rfl⟩
instance hb126 : HasBody Try.prog 126 := ⟨_, Try.func126, by kernel_rfl, by kernel_rfl⟩
instance hb127 : HasBody Try.prog 127 := ⟨_, Try.func127, by kernel_rfl, by kernel_rfl⟩
instance hb128 : HasBody Try.prog 128 := ⟨_, Try.func128, by kernel_rfl, by kernel_rfl⟩
instance hb129 : HasBody Try.prog 129 := ⟨_, Try.func129, by kernel_rfl, by kernel_rfl⟩
instance hb130 : HasBody Try.prog 130 := ⟨_, Try.func130, by kernel_rfl, by kernel_rfl⟩
instance hb131 : HasBody Try.prog 131 := ⟨_, Try.func131, by kernel_rfl, by kernel_rfl⟩
instance hb132 : HasBody Try.prog 132 := ⟨_, Try.func132, by kernel_rfl, by kernel_rfl⟩
instance hb133 : HasBody Try.prog 133 := ⟨_, Try.func133, by kernel_rfl, by kernel_rfl⟩
instance hb134 : HasBody Try.prog 134 := ⟨_, Try.func134, by kernel_rfl, by kernel_rfl⟩
instance hb135 : HasBody Try.prog 135 := ⟨_, Try.func135, by kernel_rfl, by kernel_rfl⟩
theorem mixed : Try.prog.follows .mixedOrders = true := by kernel_rfl
end Go.Proofs.Ytmmfndmfibbhcaa.R
