/- What the engine's rules ask of the program's tables: an instance each. Printed by program (facts.py). -/
import Derived.Test.YtebgjcginmgoaaaMem
import Derived.Test.YtebgjcginmgoaaaChecked
namespace Go.Proofs.Ytebgjcginmgoaaa.R

instance kt3 : KindT Try.prog 3 false := ⟨by kernel_rfl⟩
instance sz3 : SzT Try.prog 3 1 := ⟨by kernel_rfl⟩
instance kt4 : KindT Try.prog 4 false := ⟨by kernel_rfl⟩
instance sz4 : SzT Try.prog 4 1 := ⟨by kernel_rfl⟩
instance kt23 : KindT Try.prog 23 true := ⟨by kernel_rfl⟩
instance sz23 : SzT Try.prog 23 2 := ⟨by kernel_rfl⟩
instance kt25 : KindT Try.prog 25 true := ⟨by kernel_rfl⟩
instance sz25 : SzT Try.prog 25 4 := ⟨by kernel_rfl⟩
instance kt29 : KindT Try.prog 29 false := ⟨by kernel_rfl⟩
instance sz29 : SzT Try.prog 29 1 := ⟨by kernel_rfl⟩
instance kt31 : KindT Try.prog 31 true := ⟨by kernel_rfl⟩
instance sz31 : SzT Try.prog 31 8 := ⟨by kernel_rfl⟩
instance kt33 : KindT Try.prog 33 true := ⟨by kernel_rfl⟩
instance sz33 : SzT Try.prog 33 9 := ⟨by kernel_rfl⟩
instance kt35 : KindT Try.prog 35 true := ⟨by kernel_rfl⟩
instance sz35 : SzT Try.prog 35 26 := ⟨by kernel_rfl⟩
instance kt39 : KindT Try.prog 39 true := ⟨by kernel_rfl⟩
instance sz39 : SzT Try.prog 39 17 := ⟨by kernel_rfl⟩
instance kt49 : KindT Try.prog 49 false := ⟨by kernel_rfl⟩
instance sz49 : SzT Try.prog 49 1 := ⟨by kernel_rfl⟩
instance kt51 : KindT Try.prog 51 true := ⟨by kernel_rfl⟩
instance sz51 : SzT Try.prog 51 2 := ⟨by kernel_rfl⟩
instance kt54 : KindT Try.prog 54 true := ⟨by kernel_rfl⟩
instance sz54 : SzT Try.prog 54 4 := ⟨by kernel_rfl⟩
instance kt90 : KindT Try.prog 90 true := ⟨by kernel_rfl⟩
instance sz90 : SzT Try.prog 90 18 := ⟨by kernel_rfl⟩
instance kt125 : KindT Try.prog 125 false := ⟨by kernel_rfl⟩
instance sz125 : SzT Try.prog 125 1 := ⟨by kernel_rfl⟩
instance ar31 : ArrT Try.prog 31 8 29 1 := ⟨by kernel_rfl, by kernel_rfl⟩
instance sl49 : SliceT Try.prog 49 29 1 := ⟨by kernel_rfl, by kernel_rfl⟩
instance sl80 : SliceT Try.prog 80 39 17 := ⟨by kernel_rfl, by kernel_rfl⟩
instance sl118 : SliceT Try.prog 118 31 8 := ⟨by kernel_rfl, by kernel_rfl⟩
instance ty0 : TyV Try.prog 0 .t := ⟨trivial⟩
instance ty3 : TyV Try.prog 3 .i := ⟨trivial⟩
instance ty4 : TyV Try.prog 4 .b := ⟨trivial⟩
instance ty5 : TyV Try.prog 5 .i := ⟨trivial⟩
instance ty23 : TyV Try.prog 23 .a := ⟨trivial⟩
instance ty25 : TyV Try.prog 25 .a := ⟨trivial⟩
instance ty29 : TyV Try.prog 29 .i := ⟨trivial⟩
instance ty31 : TyV Try.prog 31 .a := ⟨trivial⟩
instance ty33 : TyV Try.prog 33 .a := ⟨trivial⟩
instance ty35 : TyV Try.prog 35 .a := ⟨trivial⟩
instance ty39 : TyV Try.prog 39 .a := ⟨trivial⟩
instance ty40 : TyV Try.prog 40 .i := ⟨trivial⟩
instance ty41 : TyV Try.prog 41 .t := ⟨trivial⟩
instance ty44 : TyV Try.prog 44 .t := ⟨trivial⟩
instance ty49 : TyV Try.prog 49 .s := ⟨trivial⟩
instance ty51 : TyV Try.prog 51 .a := ⟨trivial⟩
instance ty54 : TyV Try.prog 54 .a := ⟨trivial⟩
instance ty65 : TyV Try.prog 65 .t := ⟨trivial⟩
instance ty75 : TyV Try.prog 75 .t := ⟨trivial⟩
instance ty78 : TyV Try.prog 78 .t := ⟨trivial⟩
instance ty80 : TyV Try.prog 80 .s := ⟨trivial⟩
instance ty87 : TyV Try.prog 87 .i := ⟨trivial⟩
instance ty90 : TyV Try.prog 90 .a := ⟨trivial⟩
instance ty96 : TyV Try.prog 96 .t := ⟨trivial⟩
instance ty100 : TyV Try.prog 100 .t := ⟨trivial⟩
instance ty102 : TyV Try.prog 102 .t := ⟨trivial⟩
instance ty104 : TyV Try.prog 104 .t := ⟨trivial⟩
instance ty106 : TyV Try.prog 106 .t := ⟨trivial⟩
instance ty110 : TyV Try.prog 110 .t := ⟨trivial⟩
instance ty115 : TyV Try.prog 115 .t := ⟨trivial⟩
instance ty118 : TyV Try.prog 118 .s := ⟨trivial⟩
instance ty120 : TyV Try.prog 120 .t := ⟨trivial⟩
instance el29 : ElemT Try.prog 29 (.int .u64 0) 1 8 := ⟨by kernel_rfl, by kernel_rfl, by decide⟩
instance el31 : ElemT Try.prog 31 (.agg #[.int .u64 0, .int .u64 0, .int .u64 0, .int .u64 0, .int .u64 0, .int .u64 0, .int .u64 0, .int .u64 0]) 8 64 := ⟨by kernel_rfl, by kernel_rfl, by decide⟩
instance el39 : ElemT Try.prog 39 (.agg #[.bool false, .int .u64 0, .int .u64 0, .int .u64 0, .int .u64 0, .int .u64 0, .int .u64 0, .int .u64 0, .int .u64 0, .int .u64 0, .int .u64 0, .int .u64 0, .int .u64 0, .int .u64 0, .int .u64 0, .int .u64 0, .int .u64 0]) 17 136 := ⟨by kernel_rfl, by kernel_rfl, by decide⟩
instance de3 : DescT Try.prog 3 (.int .i64) := ⟨by kernel_rfl⟩
instance de4 : DescT Try.prog 4 .bool := ⟨by kernel_rfl⟩
instance de5 : DescT Try.prog 5 (.int .u8) := ⟨by kernel_rfl⟩
instance de29 : DescT Try.prog 29 (.int .u64) := ⟨by kernel_rfl⟩
instance de31 : DescT Try.prog 31 (.array 8 29) := ⟨by kernel_rfl⟩
instance de40 : DescT Try.prog 40 (.int .i64) := ⟨by kernel_rfl⟩
instance de87 : DescT Try.prog 87 (.int .u64) := ⟨by kernel_rfl⟩
instance ze23 : ZeroT Try.prog 23 (.agg #[.int .i64 0, .int .i64 0]) := ⟨fun _ => by kernel_rfl⟩
instance ze31 : ZeroT Try.prog 31 (.agg #[.int .u64 0, .int .u64 0, .int .u64 0, .int .u64 0, .int .u64 0, .int .u64 0, .int .u64 0, .int .u64 0]) := ⟨fun _ => by kernel_rfl⟩
instance ze33 : ZeroT Try.prog 33 (.agg #[.bool false, .int .u64 0, .int .u64 0, .int .u64 0, .int .u64 0, .int .u64 0, .int .u64 0, .int .u64 0, .int .u64 0]) := ⟨fun _ => by kernel_rfl⟩
instance ze35 : ZeroT Try.prog 35 (.agg #[.bool false, .int .u64 0, .int .u64 0, .int .u64 0, .int .u64 0, .int .u64 0, .int .u64 0, .int .u64 0, .int .u64 0, .bool false, .int .u64 0, .int .u64 0, .int .u64 0, .int .u64 0, .int .u64 0, .int .u64 0, .int .u64 0, .int .u64 0, .int .u64 0, .int .u64 0, .int .u64 0, .int .u64 0, .int .u64 0, .int .u64 0, .int .u64 0, .int .u64 0]) := ⟨fun _ => by kernel_rfl⟩
instance ze39 : ZeroT Try.prog 39 (.agg #[.bool false, .int .u64 0, .int .u64 0, .int .u64 0, .int .u64 0, .int .u64 0, .int .u64 0, .int .u64 0, .int .u64 0, .int .u64 0, .int .u64 0, .int .u64 0, .int .u64 0, .int .u64 0, .int .u64 0, .int .u64 0, .int .u64 0]) := ⟨fun _ => by kernel_rfl⟩
instance ze51 : ZeroT Try.prog 51 (.agg #[.bool false, .slice none 0 0]) := ⟨fun _ => by kernel_rfl⟩
instance ze54 : ZeroT Try.prog 54 (.agg #[.bool false, .slice none 0 0, .bool false, .slice none 0 0]) := ⟨fun _ => by kernel_rfl⟩
instance ze90 : ZeroT Try.prog 90 (.agg #[.bool false, .int .u64 0, .int .u64 0, .int .u64 0, .int .u64 0, .int .u64 0, .int .u64 0, .int .u64 0, .int .u64 0, .bool false, .int .u64 0, .int .u64 0, .int .u64 0, .int .u64 0, .int .u64 0, .int .u64 0, .int .u64 0, .int .u64 0]) := ⟨fun _ => by kernel_rfl⟩
instance ze29 : ZeroT Try.prog 29 (.int .u64 0) := ⟨fun _ => by kernel_rfl⟩
instance fi23_0 : FieldT Try.prog 23 0 0 := ⟨fun _ _ => by kernel_rfl⟩
instance fi23_1 : FieldT Try.prog 23 1 1 := ⟨fun _ _ => by kernel_rfl⟩
instance fi25_0 : FieldT Try.prog 25 0 0 := ⟨fun _ _ => by kernel_rfl⟩
instance fi25_1 : FieldT Try.prog 25 1 2 := ⟨fun _ _ => by kernel_rfl⟩
instance fi33_0 : FieldT Try.prog 33 0 0 := ⟨fun _ _ => by kernel_rfl⟩
instance fi33_1 : FieldT Try.prog 33 1 1 := ⟨fun _ _ => by kernel_rfl⟩
instance fi35_0 : FieldT Try.prog 35 0 0 := ⟨fun _ _ => by kernel_rfl⟩
instance fi35_1 : FieldT Try.prog 35 1 9 := ⟨fun _ _ => by kernel_rfl⟩
instance fi35_2 : FieldT Try.prog 35 2 18 := ⟨fun _ _ => by kernel_rfl⟩
instance fi39_0 : FieldT Try.prog 39 0 0 := ⟨fun _ _ => by kernel_rfl⟩
instance fi39_1 : FieldT Try.prog 39 1 9 := ⟨fun _ _ => by kernel_rfl⟩
instance fi51_0 : FieldT Try.prog 51 0 0 := ⟨fun _ _ => by kernel_rfl⟩
instance fi51_1 : FieldT Try.prog 51 1 1 := ⟨fun _ _ => by kernel_rfl⟩
instance fi54_0 : FieldT Try.prog 54 0 0 := ⟨fun _ _ => by kernel_rfl⟩
instance fi54_1 : FieldT Try.prog 54 1 2 := ⟨fun _ _ => by kernel_rfl⟩
instance fi90_0 : FieldT Try.prog 90 0 0 := ⟨fun _ _ => by kernel_rfl⟩
instance fi90_1 : FieldT Try.prog 90 1 9 := ⟨fun _ _ => by kernel_rfl⟩
instance hb5 : HasBody Try.prog 5 := ⟨_, Try.func5, by kernel_rfl, by kernel_rfl⟩
instance hb6 : HasBody Try.prog 6 := ⟨_, Try.func6, by kernel_rfl, by kernel_rfl⟩
instance hb7 : HasBody Try.prog 7 := ⟨_, Try.func7, by kernel_rfl, by kernel_rfl⟩
instance hb8 : HasBody Try.prog 8 := ⟨_, Try.func8, by kernel_rfl, by kernel_rfl⟩
instance hb9 : HasBody Try.prog 9 := ⟨_, Try.func9, by kernel_rfl, by kernel_rfl⟩
instance hb10 : HasBody Try.prog 10 := ⟨_, Try.func10, by kernel_rfl, by kernel_rfl⟩
instance hb11 : HasBody Try.prog 11 := ⟨_, Try.func11, by kernel_rfl, by kernel_rfl⟩
instance hb12 : HasBody Try.prog 12 := ⟨_, Try.func12, by kernel_rfl, by kernel_rfl⟩
instance hb13 : HasBody Try.prog 13 := ⟨_, Try.func13, by kernel_rfl, by kernel_rfl⟩
instance hb14 : HasBody Try.prog 14 := ⟨_, Try.func14, by kernel_rfl, by kernel_rfl⟩
instance hb15 : HasBody Try.prog 15 := ⟨_, Try.func15, by kernel_rfl, by kernel_rfl⟩
instance hb16 : HasBody Try.prog 16 := ⟨_, Try.func16, by kernel_rfl, by kernel_rfl⟩
instance hb17 : HasBody Try.prog 17 := ⟨_, Try.func17, by kernel_rfl, by kernel_rfl⟩
instance hb18 : HasBody Try.prog 18 := ⟨_, Try.func18, by kernel_rfl, by kernel_rfl⟩
instance hb19 : HasBody Try.prog 19 := ⟨_, Try.func19, by kernel_rfl, by kernel_rfl⟩
instance hb20 : HasBody Try.prog 20 := ⟨_, Try.func20, by kernel_rfl, by kernel_rfl⟩
instance hb21 : HasBody Try.prog 21 := ⟨_, Try.func21, by kernel_rfl, by kernel_rfl⟩
instance hb22 : HasBody Try.prog 22 := ⟨_, Try.func22, by kernel_rfl, by kernel_rfl⟩
instance hb23 : HasBody Try.prog 23 := ⟨_, Try.func23, by kernel_rfl, by kernel_rfl⟩
instance hb24 : HasBody Try.prog 24 := ⟨_, Try.func24, by kernel_rfl, by kernel_rfl⟩
instance hb25 : HasBody Try.prog 25 := ⟨_, Try.func25, by kernel_rfl, by kernel_rfl⟩
instance hb26 : HasBody Try.prog 26 := ⟨_, Try.func26, by kernel_rfl, by kernel_rfl⟩
instance hb27 : HasBody Try.prog 27 := ⟨_, Try.func27, by kernel_rfl, by kernel_rfl⟩
instance hb28 : HasBody Try.prog 28 := ⟨_, Try.func28, by kernel_rfl, by kernel_rfl⟩
instance hb29 : HasBody Try.prog 29 := ⟨_, Try.func29, by kernel_rfl, by kernel_rfl⟩
instance hb30 : HasBody Try.prog 30 := ⟨_, Try.func30, by kernel_rfl, by kernel_rfl⟩
instance hb31 : HasBody Try.prog 31 := ⟨_, Try.func31, by kernel_rfl, by kernel_rfl⟩
instance hb32 : HasBody Try.prog 32 := ⟨_, Try.func32, by kernel_rfl, by kernel_rfl⟩
instance hb33 : HasBody Try.prog 33 := ⟨_, Try.func33, by kernel_rfl, by kernel_rfl⟩
instance hb34 : HasBody Try.prog 34 := ⟨_, Try.func34, by kernel_rfl, by kernel_rfl⟩
instance hb35 : HasBody Try.prog 35 := ⟨_, Try.func35, by kernel_rfl, by kernel_rfl⟩
instance hb36 : HasBody Try.prog 36 := ⟨_, Try.func36, by kernel_rfl, by kernel_rfl⟩
instance hb37 : HasBody Try.prog 37 := ⟨_, Try.func37, by kernel_rfl, by kernel_rfl⟩
instance hb38 : HasBody Try.prog 38 := ⟨_, Try.func38, by kernel_rfl, by kernel_rfl⟩
instance hb39 : HasBody Try.prog 39 := ⟨_, Try.func39, by kernel_rfl, by kernel_rfl⟩
instance hb40 : HasBody Try.prog 40 := ⟨_, Try.func40, by kernel_rfl, by kernel_rfl⟩
instance hb41 : HasBody Try.prog 41 := ⟨_, Try.func41, by kernel_rfl, by kernel_rfl⟩
instance hb42 : HasBody Try.prog 42 := ⟨_, Try.func42, by kernel_rfl, by kernel_rfl⟩
instance hb43 : HasBody Try.prog 43 := ⟨_, Try.func43, by kernel_rfl, by kernel_rfl⟩
instance hb44 : HasBody Try.prog 44 := ⟨_, Try.func44, by kernel_rfl, by kernel_rfl⟩
instance hb45 : HasBody Try.prog 45 := ⟨_, Try.func45, by kernel_rfl, by kernel_rfl⟩
instance hb46 : HasBody Try.prog 46 := ⟨_, Try.func46, by kernel_rfl, by kernel_rfl⟩
instance hb47 : HasBody Try.prog 47 := ⟨_, Try.func47, by kernel_rfl, by kernel_rfl⟩
instance hb48 : HasBody Try.prog 48 := ⟨_, Try.func48, by kernel_rfl, by kernel_rfl⟩
instance hb49 : HasBody Try.prog 49 := ⟨_, Try.func49, by kernel_rfl, by kernel_rfl⟩
instance hb50 : HasBody Try.prog 50 := ⟨_, Try.func50, by kernel_rfl, by kernel_rfl⟩
instance hb51 : HasBody Try.prog 51 := ⟨_, Try.func51, by kernel_rfl, by kernel_rfl⟩
instance hb52 : HasBody Try.prog 52 := ⟨_, Try.func52, by kernel_rfl, by kernel_rfl⟩
instance hb53 : HasBody Try.prog 53 := ⟨_, Try.func53, by kernel_rfl, by kernel_rfl⟩
instance hb54 : HasBody Try.prog 54 := ⟨_, Try.func54, by kernel_rfl, by kernel_rfl⟩
instance hb55 : HasBody Try.prog 55 := ⟨_, Try.func55, by kernel_rfl, by kernel_rfl⟩
instance hb56 : HasBody Try.prog 56 := ⟨_, Try.func56, by kernel_rfl, by kernel_rfl⟩
instance hb57 : HasBody Try.prog 57 := ⟨_, Try.func57, by kernel_rfl, by kernel_rfl⟩
instance hb58 : HasBody Try.prog 58 := ⟨_, Try.func58, by kernel_rfl, by kernel_rfl⟩
instance hb59 : HasBody Try.prog 59 := ⟨_, Try.func59, by kernel_rfl, by kernel_rfl⟩
instance hb60 : HasBody Try.prog 60 := ⟨_, Try.func60, by kernel_rfl, by kernel_rfl⟩
instance hb61 : HasBody Try.prog 61 := ⟨_, Try.func61, by kernel_rfl, by kernel_rfl⟩
instance hb62 : HasBody Try.prog 62 := ⟨_, Try.func62, by kernel_rfl, by kernel_rfl⟩
instance hb63 : HasBody Try.prog 63 := ⟨_, Try.func63, by kernel_rfl, by kernel_rfl⟩
instance hb64 : HasBody Try.prog 64 := ⟨_, Try.func64, by kernel_rfl, by kernel_rfl⟩
instance hb65 : HasBody Try.prog 65 := ⟨_, Try.func65, by kernel_rfl, by kernel_rfl⟩
instance hb66 : HasBody Try.prog 66 := ⟨_, Try.func66, by kernel_rfl, by kernel_rfl⟩
instance hb67 : HasBody Try.prog 67 := ⟨_, Try.func67, by kernel_rfl, by kernel_rfl⟩
instance hb68 : HasBody Try.prog 68 := ⟨_, Try.func68, by kernel_rfl, by kernel_rfl⟩
instance hb69 : HasBody Try.prog 69 := ⟨_, Try.func69, by kernel_rfl, by kernel_rfl⟩
instance hb70 : HasBody Try.prog 70 := ⟨_, Try.func70, by kernel_rfl, by kernel_rfl⟩
instance hb71 : HasBody Try.prog 71 := ⟨_, Try.func71, by kernel_rfl, by kernel_rfl⟩
instance hb72 : HasBody Try.prog 72 := ⟨_, Try.func72, by kernel_rfl, by kernel_rfl⟩
instance hb73 : HasBody Try.prog 73 := ⟨_, Try.func73, by kernel_rfl, by kernel_rfl⟩
instance hb74 : HasBody Try.prog 74 := ⟨_, Try.func74, by kernel_rfl, by kernel_rfl⟩
instance hb75 : HasBody Try.prog 75 := ⟨_, Try.func75, by kernel_rfl, by kernel_rfl⟩
instance hb76 : HasBody Try.prog 76 := ⟨_, Try.func76, by kernel_rfl, by kernel_rfl⟩
instance hb77 : HasBody Try.prog 77 := ⟨_, Try.func77, by kernel_rfl, by kernel_rfl⟩
instance hb78 : HasBody Try.prog 78 := ⟨_, Try.func78, by kernel_rfl, by kernel_rfl⟩
instance hb79 : HasBody Try.prog 79 := ⟨_, Try.func79, by kernel_rfl, by kernel_rfl⟩
instance hb80 : HasBody Try.prog 80 := ⟨_, Try.func80, by kernel_rfl, by kernel_rfl⟩
instance hb81 : HasBody Try.prog 81 := ⟨_, Try.func81, by kernel_rfl, by kernel_rfl⟩
instance hb82 : HasBody Try.prog 82 := ⟨_, Try.func82, by kernel_rfl, by kernel_rfl⟩
instance hb83 : HasBody Try.prog 83 := ⟨_, Try.func83, by kernel_rfl, by kernel_rfl⟩
instance hb84 : HasBody Try.prog 84 := ⟨_, Try.func84, by kernel_rfl, by kernel_rfl⟩
instance hb85 : HasBody Try.prog 85 := ⟨_, Try.func85, by kernel_rfl, by kernel_rfl⟩
instance hb86 : HasBody Try.prog 86 := ⟨_, Try.func86, by kernel_rfl, by kernel_rfl⟩
instance hb87 : HasBody Try.prog 87 := ⟨_, Try.func87, by kernel_rfl, by kernel_rfl⟩
instance hb88 : HasBody Try.prog 88 := ⟨_, Try.func88, by kernel_rfl, by kernel_rfl⟩
instance hb90 : HasBody Try.prog 90 := ⟨_, Try.func90, by kernel_rfl, by kernel_rfl⟩
instance hb92 : HasBody Try.prog 92 := ⟨_, Try.func92, by kernel_rfl, by kernel_rfl⟩
instance hb93 : HasBody Try.prog 93 := ⟨_, Try.func93, by kernel_rfl, by kernel_rfl⟩
instance hb94 : HasBody Try.prog 94 := ⟨_, Try.func94, by kernel_rfl, by kernel_rfl⟩
instance hb95 : HasBody Try.prog 95 := ⟨_, Try.func95, by kernel_rfl, by kernel_rfl⟩
instance hb96 : HasBody Try.prog 96 := ⟨_, Try.func96, by kernel_rfl, by kernel_rfl⟩
instance hb97 : HasBody Try.prog 97 := ⟨_, Try.func97, by kernel_rfl, by kernel_rfl⟩
instance hb98 : HasBody Try.prog 98 := ⟨_, Try.func98, by kernel_rfl, by kernel_rfl⟩
theorem mixed : Try.prog.follows .mixedOrders = true := by kernel_rfl
end Go.Proofs.Ytebgjcginmgoaaa.R
