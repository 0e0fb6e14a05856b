/- What the engine's rules ask of the program's tables: an instance each. Printed by program (facts.py). -/
import Derived.Test.YtebgjcginmgoaaaGreatMem
import Derived.Test.YtebgjcginmgoaaaGreatChecked
namespace Go.Proofs.YtebgjcginmgoaaaGreat.R

instance kt3 : KindT Tryz.prog 3 false := ⟨by kernel_rfl⟩
instance sz3 : SzT Tryz.prog 3 1 := ⟨by kernel_rfl⟩
instance kt4 : KindT Tryz.prog 4 false := ⟨by kernel_rfl⟩
instance sz4 : SzT Tryz.prog 4 1 := ⟨by kernel_rfl⟩
instance kt22 : KindT Tryz.prog 22 false := ⟨by kernel_rfl⟩
instance sz22 : SzT Tryz.prog 22 1 := ⟨by kernel_rfl⟩
instance kt24 : KindT Tryz.prog 24 true := ⟨by kernel_rfl⟩
instance sz24 : SzT Tryz.prog 24 8 := ⟨by kernel_rfl⟩
instance kt26 : KindT Tryz.prog 26 true := ⟨by kernel_rfl⟩
instance sz26 : SzT Tryz.prog 26 9 := ⟨by kernel_rfl⟩
instance kt28 : KindT Tryz.prog 28 true := ⟨by kernel_rfl⟩
instance sz28 : SzT Tryz.prog 28 26 := ⟨by kernel_rfl⟩
instance kt30 : KindT Tryz.prog 30 true := ⟨by kernel_rfl⟩
instance sz30 : SzT Tryz.prog 30 2 := ⟨by kernel_rfl⟩
instance kt32 : KindT Tryz.prog 32 true := ⟨by kernel_rfl⟩
instance sz32 : SzT Tryz.prog 32 17 := ⟨by kernel_rfl⟩
instance kt41 : KindT Tryz.prog 41 false := ⟨by kernel_rfl⟩
instance sz41 : SzT Tryz.prog 41 1 := ⟨by kernel_rfl⟩
instance kt43 : KindT Tryz.prog 43 true := ⟨by kernel_rfl⟩
instance sz43 : SzT Tryz.prog 43 2 := ⟨by kernel_rfl⟩
instance kt45 : KindT Tryz.prog 45 true := ⟨by kernel_rfl⟩
instance sz45 : SzT Tryz.prog 45 4 := ⟨by kernel_rfl⟩
instance kt72 : KindT Tryz.prog 72 true := ⟨by kernel_rfl⟩
instance sz72 : SzT Tryz.prog 72 18 := ⟨by kernel_rfl⟩
instance kt123 : KindT Tryz.prog 123 false := ⟨by kernel_rfl⟩
instance sz123 : SzT Tryz.prog 123 1 := ⟨by kernel_rfl⟩
instance ar24 : ArrT Tryz.prog 24 8 22 1 := ⟨by kernel_rfl, by kernel_rfl⟩
instance sl41 : SliceT Tryz.prog 41 22 1 := ⟨by kernel_rfl, by kernel_rfl⟩
instance sl83 : SliceT Tryz.prog 83 24 8 := ⟨by kernel_rfl, by kernel_rfl⟩
instance ty0 : TyV Tryz.prog 0 .t := ⟨trivial⟩
instance ty3 : TyV Tryz.prog 3 .i := ⟨trivial⟩
instance ty4 : TyV Tryz.prog 4 .b := ⟨trivial⟩
instance ty5 : TyV Tryz.prog 5 .i := ⟨trivial⟩
instance ty22 : TyV Tryz.prog 22 .i := ⟨trivial⟩
instance ty24 : TyV Tryz.prog 24 .a := ⟨trivial⟩
instance ty26 : TyV Tryz.prog 26 .a := ⟨trivial⟩
instance ty28 : TyV Tryz.prog 28 .a := ⟨trivial⟩
instance ty30 : TyV Tryz.prog 30 .a := ⟨trivial⟩
instance ty32 : TyV Tryz.prog 32 .a := ⟨trivial⟩
instance ty33 : TyV Tryz.prog 33 .i := ⟨trivial⟩
instance ty34 : TyV Tryz.prog 34 .t := ⟨trivial⟩
instance ty41 : TyV Tryz.prog 41 .s := ⟨trivial⟩
instance ty43 : TyV Tryz.prog 43 .a := ⟨trivial⟩
instance ty45 : TyV Tryz.prog 45 .a := ⟨trivial⟩
instance ty52 : TyV Tryz.prog 52 .t := ⟨trivial⟩
instance ty61 : TyV Tryz.prog 61 .t := ⟨trivial⟩
instance ty72 : TyV Tryz.prog 72 .a := ⟨trivial⟩
instance ty83 : TyV Tryz.prog 83 .s := ⟨trivial⟩
instance ty85 : TyV Tryz.prog 85 .i := ⟨trivial⟩
instance ty88 : TyV Tryz.prog 88 .t := ⟨trivial⟩
instance ty90 : TyV Tryz.prog 90 .t := ⟨trivial⟩
instance ty92 : TyV Tryz.prog 92 .t := ⟨trivial⟩
instance ty98 : TyV Tryz.prog 98 .t := ⟨trivial⟩
instance ty101 : TyV Tryz.prog 101 .t := ⟨trivial⟩
instance ty103 : TyV Tryz.prog 103 .t := ⟨trivial⟩
instance ty106 : TyV Tryz.prog 106 .t := ⟨trivial⟩
instance ty108 : TyV Tryz.prog 108 .t := ⟨trivial⟩
instance ty116 : TyV Tryz.prog 116 .t := ⟨trivial⟩
instance ty119 : TyV Tryz.prog 119 .t := ⟨trivial⟩
instance el22 : ElemT Tryz.prog 22 (.int .u64 0) 1 8 := ⟨by kernel_rfl, by kernel_rfl, by decide⟩
instance el24 : ElemT Tryz.prog 24 (.agg #[.int .u64 0, .int .u64 0, .int .u64 0, .int .u64 0, .int .u64 0, .int .u64 0, .int .u64 0, .int .u64 0]) 8 64 := ⟨by kernel_rfl, by kernel_rfl, by decide⟩
instance de3 : DescT Tryz.prog 3 (.int .i64) := ⟨by kernel_rfl⟩
instance de4 : DescT Tryz.prog 4 .bool := ⟨by kernel_rfl⟩
instance de5 : DescT Tryz.prog 5 (.int .u8) := ⟨by kernel_rfl⟩
instance de22 : DescT Tryz.prog 22 (.int .u64) := ⟨by kernel_rfl⟩
instance de24 : DescT Tryz.prog 24 (.array 8 22) := ⟨by kernel_rfl⟩
instance de33 : DescT Tryz.prog 33 (.int .i64) := ⟨by kernel_rfl⟩
instance de85 : DescT Tryz.prog 85 (.int .u64) := ⟨by kernel_rfl⟩
instance ze24 : ZeroT Tryz.prog 24 (.agg #[.int .u64 0, .int .u64 0, .int .u64 0, .int .u64 0, .int .u64 0, .int .u64 0, .int .u64 0, .int .u64 0]) := ⟨fun _ => by kernel_rfl⟩
instance ze26 : ZeroT Tryz.prog 26 (.agg #[.bool false, .int .u64 0, .int .u64 0, .int .u64 0, .int .u64 0, .int .u64 0, .int .u64 0, .int .u64 0, .int .u64 0]) := ⟨fun _ => by kernel_rfl⟩
instance ze28 : ZeroT Tryz.prog 28 (.agg #[.bool false, .int .u64 0, .int .u64 0, .int .u64 0, .int .u64 0, .int .u64 0, .int .u64 0, .int .u64 0, .int .u64 0, .bool false, .int .u64 0, .int .u64 0, .int .u64 0, .int .u64 0, .int .u64 0, .int .u64 0, .int .u64 0, .int .u64 0, .int .u64 0, .int .u64 0, .int .u64 0, .int .u64 0, .int .u64 0, .int .u64 0, .int .u64 0, .int .u64 0]) := ⟨fun _ => by kernel_rfl⟩
instance ze32 : ZeroT Tryz.prog 32 (.agg #[.bool false, .int .u64 0, .int .u64 0, .int .u64 0, .int .u64 0, .int .u64 0, .int .u64 0, .int .u64 0, .int .u64 0, .int .u64 0, .int .u64 0, .int .u64 0, .int .u64 0, .int .u64 0, .int .u64 0, .int .u64 0, .int .u64 0]) := ⟨fun _ => by kernel_rfl⟩
instance ze43 : ZeroT Tryz.prog 43 (.agg #[.bool false, .slice none 0 0]) := ⟨fun _ => by kernel_rfl⟩
instance ze45 : ZeroT Tryz.prog 45 (.agg #[.bool false, .slice none 0 0, .bool false, .slice none 0 0]) := ⟨fun _ => by kernel_rfl⟩
instance ze72 : ZeroT Tryz.prog 72 (.agg #[.bool false, .int .u64 0, .int .u64 0, .int .u64 0, .int .u64 0, .int .u64 0, .int .u64 0, .int .u64 0, .int .u64 0, .bool false, .int .u64 0, .int .u64 0, .int .u64 0, .int .u64 0, .int .u64 0, .int .u64 0, .int .u64 0, .int .u64 0]) := ⟨fun _ => by kernel_rfl⟩
instance ze22 : ZeroT Tryz.prog 22 (.int .u64 0) := ⟨fun _ => by kernel_rfl⟩
instance fi26_0 : FieldT Tryz.prog 26 0 0 := ⟨fun _ _ => by kernel_rfl⟩
instance fi26_1 : FieldT Tryz.prog 26 1 1 := ⟨fun _ _ => by kernel_rfl⟩
instance fi28_0 : FieldT Tryz.prog 28 0 0 := ⟨fun _ _ => by kernel_rfl⟩
instance fi28_1 : FieldT Tryz.prog 28 1 9 := ⟨fun _ _ => by kernel_rfl⟩
instance fi28_2 : FieldT Tryz.prog 28 2 18 := ⟨fun _ _ => by kernel_rfl⟩
instance fi30_0 : FieldT Tryz.prog 30 0 0 := ⟨fun _ _ => by kernel_rfl⟩
instance fi30_1 : FieldT Tryz.prog 30 1 1 := ⟨fun _ _ => by kernel_rfl⟩
instance fi32_0 : FieldT Tryz.prog 32 0 0 := ⟨fun _ _ => by kernel_rfl⟩
instance fi32_1 : FieldT Tryz.prog 32 1 9 := ⟨fun _ _ => by kernel_rfl⟩
instance fi43_0 : FieldT Tryz.prog 43 0 0 := ⟨fun _ _ => by kernel_rfl⟩
instance fi43_1 : FieldT Tryz.prog 43 1 1 := ⟨fun _ _ => by kernel_rfl⟩
instance fi45_0 : FieldT Tryz.prog 45 0 0 := ⟨fun _ _ => by kernel_rfl⟩
instance fi45_1 : FieldT Tryz.prog 45 1 2 := ⟨fun _ _ => by kernel_rfl⟩
instance fi72_0 : FieldT Tryz.prog 72 0 0 := ⟨fun _ _ => by kernel_rfl⟩
instance fi72_1 : FieldT Tryz.prog 72 1 9 := ⟨fun _ _ => by kernel_rfl⟩
instance hb4 : HasBody Tryz.prog 4 := ⟨_, Tryz.func4, by kernel_rfl, by kernel_rfl⟩
instance hb5 : HasBody Tryz.prog 5 := ⟨_, Tryz.func5, by kernel_rfl, by kernel_rfl⟩
instance hb6 : HasBody Tryz.prog 6 := ⟨_, Tryz.func6, by kernel_rfl, by kernel_rfl⟩
instance hb7 : HasBody Tryz.prog 7 := ⟨_, Tryz.func7, by kernel_rfl, by kernel_rfl⟩
instance hb8 : HasBody Tryz.prog 8 := ⟨_, Tryz.func8, by kernel_rfl, by kernel_rfl⟩
instance hb9 : HasBody Tryz.prog 9 := ⟨_, Tryz.func9, by kernel_rfl, by kernel_rfl⟩
instance hb10 : HasBody Tryz.prog 10 := ⟨_, Tryz.func10, by kernel_rfl, by kernel_rfl⟩
instance hb11 : HasBody Tryz.prog 11 := ⟨_, Tryz.func11, by kernel_rfl, by kernel_rfl⟩
instance hb12 : HasBody Tryz.prog 12 := ⟨_, Tryz.func12, by kernel_rfl, by kernel_rfl⟩
instance hb13 : HasBody Tryz.prog 13 := ⟨_, Tryz.func13, by kernel_rfl, by kernel_rfl⟩
instance hb14 : HasBody Tryz.prog 14 := ⟨_, Tryz.func14, by kernel_rfl, by kernel_rfl⟩
instance hb15 : HasBody Tryz.prog 15 := ⟨_, Tryz.func15, by kernel_rfl, by kernel_rfl⟩
instance hb16 : HasBody Tryz.prog 16 := ⟨_, Tryz.func16, by kernel_rfl, by kernel_rfl⟩
instance hb17 : HasBody Tryz.prog 17 := ⟨_, Tryz.func17, by kernel_rfl, by kernel_rfl⟩
instance hb18 : HasBody Tryz.prog 18 := ⟨_, Tryz.func18, by kernel_rfl, by kernel_rfl⟩
instance hb19 : HasBody Tryz.prog 19 := ⟨_, Tryz.func19, by kernel_rfl, by kernel_rfl⟩
instance hb20 : HasBody Tryz.prog 20 := ⟨_, Tryz.func20, by kernel_rfl, by kernel_rfl⟩
instance hb21 : HasBody Tryz.prog 21 := ⟨_, Tryz.func21, by kernel_rfl, by kernel_rfl⟩
instance hb22 : HasBody Tryz.prog 22 := ⟨_, Tryz.func22, by kernel_rfl, by kernel_rfl⟩
instance hb23 : HasBody Tryz.prog 23 := ⟨_, Tryz.func23, by kernel_rfl, by kernel_rfl⟩
instance hb24 : HasBody Tryz.prog 24 := ⟨_, Tryz.func24, by kernel_rfl, by kernel_rfl⟩
instance hb25 : HasBody Tryz.prog 25 := ⟨_, Tryz.func25, by kernel_rfl, by kernel_rfl⟩
instance hb26 : HasBody Tryz.prog 26 := ⟨_, Tryz.func26, by kernel_rfl, by kernel_rfl⟩
instance hb27 : HasBody Tryz.prog 27 := ⟨_, Tryz.func27, by kernel_rfl, by kernel_rfl⟩
instance hb28 : HasBody Tryz.prog 28 := ⟨_, Tryz.func28, by kernel_rfl, by kernel_rfl⟩
instance hb29 : HasBody Tryz.prog 29 := ⟨_, Tryz.func29, by kernel_rfl, by kernel_rfl⟩
instance hb30 : HasBody Tryz.prog 30 := ⟨_, Tryz.func30, by kernel_rfl, by kernel_rfl⟩
instance hb31 : HasBody Tryz.prog 31 := ⟨_, Tryz.func31, by kernel_rfl, by kernel_rfl⟩
instance hb32 : HasBody Tryz.prog 32 := ⟨_, Tryz.func32, by kernel_rfl, by kernel_rfl⟩
instance hb33 : HasBody Tryz.prog 33 := ⟨_, Tryz.func33, by kernel_rfl, by kernel_rfl⟩
instance hb34 : HasBody Tryz.prog 34 := ⟨_, Tryz.func34, by kernel_rfl, by kernel_rfl⟩
instance hb35 : HasBody Tryz.prog 35 := ⟨_, Tryz.func35, by kernel_rfl, by kernel_rfl⟩
instance hb36 : HasBody Tryz.prog 36 := ⟨_, Tryz.func36, by kernel_rfl, by kernel_rfl⟩
instance hb37 : HasBody Tryz.prog 37 := ⟨_, Tryz.func37, by kernel_rfl, by kernel_rfl⟩
instance hb38 : HasBody Tryz.prog 38 := ⟨_, Tryz.func38, by kernel_rfl, by kernel_rfl⟩
instance hb39 : HasBody Tryz.prog 39 := ⟨_, Tryz.func39, by kernel_rfl, by kernel_rfl⟩
instance hb40 : HasBody Tryz.prog 40 := ⟨_, Tryz.func40, by kernel_rfl, by kernel_rfl⟩
instance hb41 : HasBody Tryz.prog 41 := ⟨_, Tryz.func41, by kernel_rfl, by kernel_rfl⟩
instance hb42 : HasBody Tryz.prog 42 := ⟨_, Tryz.func42, by kernel_rfl, by kernel_rfl⟩
instance hb43 : HasBody Tryz.prog 43 := ⟨_, Tryz.func43, by kernel_rfl, by kernel_rfl⟩
instance hb44 : HasBody Tryz.prog 44 := ⟨_, Tryz.func44, by kernel_rfl, by kernel_rfl⟩
instance hb45 : HasBody Tryz.prog 45 := ⟨_, Tryz.func45, by kernel_rfl, by kernel_rfl⟩
instance hb46 : HasBody Tryz.prog 46 := ⟨_, Tryz.func46, by kernel_rfl, by kernel_rfl⟩
instance hb47 : HasBody Tryz.prog 47 := ⟨_, Tryz.func47, by kernel_rfl, by kernel_rfl⟩
instance hb48 : HasBody Tryz.prog 48 := ⟨_, Tryz.func48, by kernel_rfl, by kernel_rfl⟩
instance hb49 : HasBody Tryz.prog 49 := ⟨_, Tryz.func49, by kernel_rfl, by kernel_rfl⟩
instance hb50 : HasBody Tryz.prog 50 := ⟨_, Tryz.func50, by kernel_rfl, by kernel_rfl⟩
instance hb51 : HasBody Tryz.prog 51 := ⟨_, Tryz.func51, by kernel_rfl, by kernel_rfl⟩
instance hb52 : HasBody Tryz.prog 52 := ⟨_, Tryz.func52, by kernel_rfl, by kernel_rfl⟩
instance hb53 : HasBody Tryz.prog 53 := ⟨_, Tryz.func53, by kernel_rfl, by kernel_rfl⟩
instance hb54 : HasBody Tryz.prog 54 := ⟨_, Tryz.func54, by kernel_rfl, by kernel_rfl⟩
instance hb55 : HasBody Tryz.prog 55 := ⟨_, Tryz.func55, by kernel_rfl, by kernel_rfl⟩
instance hb56 : HasBody Tryz.prog 56 := ⟨_, Tryz.func56, by kernel_rfl, by kernel_rfl⟩
instance hb57 : HasBody Tryz.prog 57 := ⟨_, Tryz.func57, by kernel_rfl, by kernel_rfl⟩
instance hb58 : HasBody Tryz.prog 58 := ⟨_, Tryz.func58, by kernel_rfl, by kernel_rfl⟩
instance hb59 : HasBody Tryz.prog 59 := ⟨_, Tryz.func59, by kernel_rfl, by kernel_rfl⟩
instance hb60 : HasBody Tryz.prog 60 := ⟨_, Tryz.func60, by kernel_rfl, by kernel_rfl⟩
instance hb61 : HasBody Tryz.prog 61 := ⟨_, Tryz.func61, by kernel_rfl, by kernel_rfl⟩
instance hb62 : HasBody Tryz.prog 62 := ⟨_, Tryz.func62, by kernel_rfl, by kernel_rfl⟩
instance hb63 : HasBody Tryz.prog 63 := ⟨_, Tryz.func63, by kernel_rfl, by kernel_rfl⟩
instance hb64 : HasBody Tryz.prog 64 := ⟨_, Tryz.func64, by kernel_rfl, by kernel_rfl⟩
instance hb65 : HasBody Tryz.prog 65 := ⟨_, Tryz.func65, by kernel_rfl, by kernel_rfl⟩
instance hb66 : HasBody Tryz.prog 66 := ⟨_, Tryz.func66, by kernel_rfl, by kernel_rfl⟩
instance hb67 : HasBody Tryz.prog 67 := ⟨_, Tryz.func67, by kernel_rfl, by kernel_rfl⟩
instance hb68 : HasBody Tryz.prog 68 := ⟨_, Tryz.func68, by kernel_rfl, by kernel_rfl⟩
instance hb69 : HasBody Tryz.prog 69 := ⟨_, Tryz.func69, by kernel_rfl, by kernel_rfl⟩
instance hb70 : HasBody Tryz.prog 70 := ⟨_, Tryz.func70, by kernel_rfl, by kernel_rfl⟩
instance hb71 : HasBody Tryz.prog 71 := ⟨_, Tryz.func71, by kernel_rfl, by kernel_rfl⟩
instance hb72 : HasBody Tryz.prog 72 := ⟨_, Tryz.func72, by kernel_rfl, by kernel_rfl⟩
instance hb73 : HasBody Tryz.prog 73 := ⟨_, Tryz.func73, by kernel_rfl, by kernel_rfl⟩
instance hb74 : HasBody Tryz.prog 74 := ⟨_, Tryz.func74, by kernel_rfl, by kernel_rfl⟩
instance hb75 : HasBody Tryz.prog 75 := ⟨_, Tryz.func75, by kernel_rfl, by kernel_rfl⟩
instance hb76 : HasBody Tryz.prog 76 := ⟨_, Tryz.func76, by kernel_rfl, by kernel_rfl⟩
instance hb77 : HasBody Tryz.prog 77 := ⟨_, Tryz.func77, by kernel_rfl, by kernel_rfl⟩
instance hb78 : HasBody Tryz.prog 78 := ⟨_, Tryz.func78, by kernel_rfl, by kernel_rfl⟩
instance hb79 : HasBody Tryz.prog 79 := ⟨_, Tryz.func79, by kernel_rfl, by kernel_rfl⟩
instance hb80 : HasBody Tryz.prog 80 := ⟨_, Tryz.func80, by kernel_rfl, by kernel_rfl⟩
instance hb81 : HasBody Tryz.prog 81 := ⟨_, Tryz.func81, by kernel_rfl, by kernel_rfl⟩
instance hb82 : HasBody Tryz.prog 82 := ⟨_, Tryz.func82, by kernel_rfl, by kernel_rfl⟩
instance hb83 : HasBody Tryz.prog 83 := ⟨_, Tryz.func83, by kernel_rfl, by kernel_rfl⟩
instance hb84 : HasBody Tryz.prog 84 := ⟨_, Tryz.func84, by kernel_rfl, by kernel_rfl⟩
instance hb85 : HasBody Tryz.prog 85 := ⟨_, Tryz.func85, by kernel_rfl, by kernel_rfl⟩
instance hb86 : HasBody Tryz.prog 86 := ⟨_, Tryz.func86, by kernel_rfl, by kernel_rfl⟩
instance hb87 : HasBody Tryz.prog 87 := ⟨_, Tryz.func87, by kernel_rfl, by kernel_rfl⟩
instance hb88 : HasBody Tryz.prog 88 := ⟨_, Tryz.func88, by kernel_rfl, by kernel_rfl⟩
instance hb89 : HasBody Tryz.prog 89 := ⟨_, Tryz.func89, by kernel_rfl, by kernel_rfl⟩
instance hb90 : HasBody Tryz.prog 90 := ⟨_, Tryz.func90, by kernel_rfl, by kernel_rfl⟩
instance hb91 : HasBody Tryz.prog 91 := ⟨_, Tryz.func91, by kernel_rfl, by kernel_rfl⟩
instance hb92 : HasBody Tryz.prog 92 := ⟨_, Tryz.func92, by kernel_rfl, by kernel_rfl⟩
instance hb93 : HasBody Tryz.prog 93 := ⟨_, Tryz.func93, by kernel_rfl, by kernel_rfl⟩
instance hb94 : HasBody Tryz.prog 94 := ⟨_, Tryz.func94, by kernel_rfl, by kernel_rfl⟩
instance hb95 : HasBody Tryz.prog 95 := ⟨_, Tryz.func95, by kernel_rfl, by kernel_rfl⟩
instance hb96 : HasBody Tryz.prog 96 := ⟨_, Tryz.func96, by kernel_rfl, by kernel_rfl⟩
instance hb97 : HasBody Tryz.prog 97 := ⟨_, Tryz.func97, by kernel_rfl, by kernel_rfl⟩
instance hb98 : HasBody Tryz.prog 98 := ⟨_, Tryz.func98, by kernel_rfl, by kernel_rfl⟩
instance hb99 : HasBody Tryz.prog 99 := ⟨_, Tryz.func99, by kernel_rfl, by kernel_rfl⟩
instance hb100 : HasBody Tryz.prog 100 := ⟨_, Tryz.func100, by kernel_rfl, by kernel_rfl⟩
instance hb101 : HasBody Tryz.prog 101 := ⟨_, Tryz.func101, by kernel_rfl, by kernel_rfl⟩
instance hb102 : HasBody Tryz.prog 102 := ⟨_, Tryz.func102, by kernel_rfl, by kernel_rfl⟩
instance hb103 : HasBody Tryz.prog 103 := ⟨_, Tryz.func103, by kernel_rfl, by kernel_rfl⟩
instance hb104 : HasBody Tryz.prog 104 := ⟨_, Tryz.func104, by kernel_rfl, by kernel_rfl⟩
instance hb107 : HasBody Tryz.prog 107 := ⟨_, Tryz.func107, by kernel_rfl, by kernel_rfl⟩
instance hb108 : HasBody Tryz.prog 108 := ⟨_, Tryz.func108, by kernel_rfl, by kernel_rfl⟩
instance hb109 : HasBody Tryz.prog 109 := ⟨_, Tryz.func109, by kernel_rfl, by kernel_rfl⟩
instance hb110 : HasBody Tryz.prog 110 := ⟨_, Tryz.func110, by kernel_rfl, by kernel_rfl⟩
theorem mixed : Tryz.prog.follows .mixedOrders = true := by kernel_rfl
end Go.Proofs.YtebgjcginmgoaaaGreat.R
