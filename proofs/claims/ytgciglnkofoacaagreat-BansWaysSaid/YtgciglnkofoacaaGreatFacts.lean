/- What the engine's rules ask of the program's tables: an instance each. Printed by program (facts.py). -/
import Derived.Test.YtgciglnkofoacaaGreatMem
import Derived.Test.YtgciglnkofoacaaGreatChecked
namespace Go.Proofs.YtgciglnkofoacaaGreat.R

instance kt3 : KindT Tryz.prog 3 false := ⟨by kernel_rfl⟩
instance sz3 : SzT Tryz.prog 3 1 := ⟨by kernel_rfl⟩
instance kt4 : KindT Tryz.prog 4 false := ⟨by kernel_rfl⟩
instance sz4 : SzT Tryz.prog 4 1 := ⟨by kernel_rfl⟩
instance kt22 : KindT Tryz.prog 22 false := ⟨by kernel_rfl⟩
instance sz22 : SzT Tryz.prog 22 1 := ⟨by kernel_rfl⟩
instance kt23 : KindT Tryz.prog 23 false := ⟨by kernel_rfl⟩
instance sz23 : SzT Tryz.prog 23 1 := ⟨by kernel_rfl⟩
instance kt24 : KindT Tryz.prog 24 false := ⟨by kernel_rfl⟩
instance sz24 : SzT Tryz.prog 24 1 := ⟨by kernel_rfl⟩
instance kt26 : KindT Tryz.prog 26 true := ⟨by kernel_rfl⟩
instance sz26 : SzT Tryz.prog 26 3 := ⟨by kernel_rfl⟩
instance kt27 : KindT Tryz.prog 27 false := ⟨by kernel_rfl⟩
instance sz27 : SzT Tryz.prog 27 1 := ⟨by kernel_rfl⟩
instance kt29 : KindT Tryz.prog 29 true := ⟨by kernel_rfl⟩
instance sz29 : SzT Tryz.prog 29 2 := ⟨by kernel_rfl⟩
instance kt50 : KindT Tryz.prog 50 true := ⟨by kernel_rfl⟩
instance sz50 : SzT Tryz.prog 50 3 := ⟨by kernel_rfl⟩
instance kt59 : KindT Tryz.prog 59 false := ⟨by kernel_rfl⟩
instance sz59 : SzT Tryz.prog 59 1 := ⟨by kernel_rfl⟩
instance kt61 : KindT Tryz.prog 61 true := ⟨by kernel_rfl⟩
instance sz61 : SzT Tryz.prog 61 8 := ⟨by kernel_rfl⟩
instance kt63 : KindT Tryz.prog 63 true := ⟨by kernel_rfl⟩
instance sz63 : SzT Tryz.prog 63 9 := ⟨by kernel_rfl⟩
instance kt65 : KindT Tryz.prog 65 true := ⟨by kernel_rfl⟩
instance sz65 : SzT Tryz.prog 65 26 := ⟨by kernel_rfl⟩
instance kt68 : KindT Tryz.prog 68 true := ⟨by kernel_rfl⟩
instance sz68 : SzT Tryz.prog 68 5 := ⟨by kernel_rfl⟩
instance kt69 : KindT Tryz.prog 69 false := ⟨by kernel_rfl⟩
instance sz69 : SzT Tryz.prog 69 1 := ⟨by kernel_rfl⟩
instance kt71 : KindT Tryz.prog 71 true := ⟨by kernel_rfl⟩
instance sz71 : SzT Tryz.prog 71 3 := ⟨by kernel_rfl⟩
instance kt92 : KindT Tryz.prog 92 true := ⟨by kernel_rfl⟩
instance sz92 : SzT Tryz.prog 92 2 := ⟨by kernel_rfl⟩
instance kt153 : KindT Tryz.prog 153 false := ⟨by kernel_rfl⟩
instance sz153 : SzT Tryz.prog 153 1 := ⟨by kernel_rfl⟩
instance sl22 : SliceT Tryz.prog 22 65 26 := ⟨by kernel_rfl, by kernel_rfl⟩
instance sl23 : SliceT Tryz.prog 23 68 5 := ⟨by kernel_rfl, by kernel_rfl⟩
instance sl24 : SliceT Tryz.prog 24 69 1 := ⟨by kernel_rfl, by kernel_rfl⟩
instance sl27 : SliceT Tryz.prog 27 50 3 := ⟨by kernel_rfl, by kernel_rfl⟩
instance ar30 : ArrT Tryz.prog 30 3 3 1 := ⟨by kernel_rfl, by kernel_rfl⟩
instance sl38 : SliceT Tryz.prog 38 3 1 := ⟨by kernel_rfl, by kernel_rfl⟩
instance ar61 : ArrT Tryz.prog 61 8 59 1 := ⟨by kernel_rfl, by kernel_rfl⟩
instance sl69 : SliceT Tryz.prog 69 71 3 := ⟨by kernel_rfl, by kernel_rfl⟩
instance sl106 : SliceT Tryz.prog 106 59 1 := ⟨by kernel_rfl, by kernel_rfl⟩
instance sl127 : SliceT Tryz.prog 127 61 8 := ⟨by kernel_rfl, by kernel_rfl⟩
instance ty0 : TyV Tryz.prog 0 .t := ⟨trivial⟩
instance ty3 : TyV Tryz.prog 3 .i := ⟨trivial⟩
instance ty4 : TyV Tryz.prog 4 .b := ⟨trivial⟩
instance ty5 : TyV Tryz.prog 5 .i := ⟨trivial⟩
instance ty22 : TyV Tryz.prog 22 .s := ⟨trivial⟩
instance ty23 : TyV Tryz.prog 23 .s := ⟨trivial⟩
instance ty24 : TyV Tryz.prog 24 .s := ⟨trivial⟩
instance ty26 : TyV Tryz.prog 26 .a := ⟨trivial⟩
instance ty27 : TyV Tryz.prog 27 .s := ⟨trivial⟩
instance ty29 : TyV Tryz.prog 29 .a := ⟨trivial⟩
instance ty38 : TyV Tryz.prog 38 .s := ⟨trivial⟩
instance ty39 : TyV Tryz.prog 39 .t := ⟨trivial⟩
instance ty45 : TyV Tryz.prog 45 .t := ⟨trivial⟩
instance ty50 : TyV Tryz.prog 50 .a := ⟨trivial⟩
instance ty51 : TyV Tryz.prog 51 .i := ⟨trivial⟩
instance ty52 : TyV Tryz.prog 52 .t := ⟨trivial⟩
instance ty59 : TyV Tryz.prog 59 .i := ⟨trivial⟩
instance ty61 : TyV Tryz.prog 61 .a := ⟨trivial⟩
instance ty63 : TyV Tryz.prog 63 .a := ⟨trivial⟩
instance ty65 : TyV Tryz.prog 65 .a := ⟨trivial⟩
instance ty68 : TyV Tryz.prog 68 .a := ⟨trivial⟩
instance ty69 : TyV Tryz.prog 69 .s := ⟨trivial⟩
instance ty71 : TyV Tryz.prog 71 .a := ⟨trivial⟩
instance ty73 : TyV Tryz.prog 73 .f := ⟨trivial⟩
instance ty74 : TyV Tryz.prog 74 .t := ⟨trivial⟩
instance ty77 : TyV Tryz.prog 77 .f := ⟨trivial⟩
instance ty83 : TyV Tryz.prog 83 .a := ⟨trivial⟩
instance ty92 : TyV Tryz.prog 92 .a := ⟨trivial⟩
instance ty96 : TyV Tryz.prog 96 .f := ⟨trivial⟩
instance ty97 : TyV Tryz.prog 97 .f := ⟨trivial⟩
instance ty98 : TyV Tryz.prog 98 .i := ⟨trivial⟩
instance ty106 : TyV Tryz.prog 106 .s := ⟨trivial⟩
instance ty109 : TyV Tryz.prog 109 .t := ⟨trivial⟩
instance ty112 : TyV Tryz.prog 112 .t := ⟨trivial⟩
instance ty117 : TyV Tryz.prog 117 .f := ⟨trivial⟩
instance ty121 : TyV Tryz.prog 121 .t := ⟨trivial⟩
instance ty123 : TyV Tryz.prog 123 .t := ⟨trivial⟩
instance ty127 : TyV Tryz.prog 127 .s := ⟨trivial⟩
instance ty129 : TyV Tryz.prog 129 .t := ⟨trivial⟩
instance ty136 : TyV Tryz.prog 136 .t := ⟨trivial⟩
instance ty146 : TyV Tryz.prog 146 .t := ⟨trivial⟩
instance ty148 : TyV Tryz.prog 148 .t := ⟨trivial⟩
instance el3 : ElemT Tryz.prog 3 (.int .i64 0) 1 8 := ⟨by kernel_rfl, by kernel_rfl, by decide⟩
instance el50 : ElemT Tryz.prog 50 (.agg #[.int .i64 0, .int .i64 0, .bool false]) 3 24 := ⟨by kernel_rfl, by kernel_rfl, by decide⟩
instance el59 : ElemT Tryz.prog 59 (.int .u64 0) 1 8 := ⟨by kernel_rfl, by kernel_rfl, by decide⟩
instance el61 : ElemT Tryz.prog 61 (.agg #[.int .u64 0, .int .u64 0, .int .u64 0, .int .u64 0, .int .u64 0, .int .u64 0, .int .u64 0, .int .u64 0]) 8 64 := ⟨by kernel_rfl, by kernel_rfl, by decide⟩
instance el65 : ElemT Tryz.prog 65 (.agg #[.bool false, .int .u64 0, .int .u64 0, .int .u64 0, .int .u64 0, .int .u64 0, .int .u64 0, .int .u64 0, .int .u64 0, .bool false, .int .u64 0, .int .u64 0, .int .u64 0, .int .u64 0, .int .u64 0, .int .u64 0, .int .u64 0, .int .u64 0, .int .u64 0, .int .u64 0, .int .u64 0, .int .u64 0, .int .u64 0, .int .u64 0, .int .u64 0, .int .u64 0]) 26 208 := ⟨by kernel_rfl, by kernel_rfl, by decide⟩
instance el68 : ElemT Tryz.prog 68 (.agg #[.int .i64 0, .int .i64 0, .int .i64 0, .bool false, .bool false]) 5 32 := ⟨by kernel_rfl, by kernel_rfl, by decide⟩
instance el69 : ElemT Tryz.prog 69 (.slice none 0 0) 1 24 := ⟨by kernel_rfl, by kernel_rfl, by decide⟩
instance el71 : ElemT Tryz.prog 71 (.agg #[.int .i64 0, .bool false, .int .i64 0]) 3 24 := ⟨by kernel_rfl, by kernel_rfl, by decide⟩
instance de3 : DescT Tryz.prog 3 (.int .i64) := ⟨by kernel_rfl⟩
instance de4 : DescT Tryz.prog 4 .bool := ⟨by kernel_rfl⟩
instance de5 : DescT Tryz.prog 5 (.int .u8) := ⟨by kernel_rfl⟩
instance de27 : DescT Tryz.prog 27 (.slice 50) := ⟨by kernel_rfl⟩
instance de51 : DescT Tryz.prog 51 (.int .i64) := ⟨by kernel_rfl⟩
instance de59 : DescT Tryz.prog 59 (.int .u64) := ⟨by kernel_rfl⟩
instance de61 : DescT Tryz.prog 61 (.array 8 59) := ⟨by kernel_rfl⟩
instance de98 : DescT Tryz.prog 98 (.int .u64) := ⟨by kernel_rfl⟩
instance ze26 : ZeroT Tryz.prog 26 (.agg #[.slice none 0 0, .slice none 0 0, .slice none 0 0]) := ⟨fun _ => by kernel_rfl⟩
instance ze29 : ZeroT Tryz.prog 29 (.agg #[.slice none 0 0, .int .i64 0]) := ⟨fun _ => by kernel_rfl⟩
instance ze50 : ZeroT Tryz.prog 50 (.agg #[.int .i64 0, .int .i64 0, .bool false]) := ⟨fun _ => by kernel_rfl⟩
instance ze61 : ZeroT Tryz.prog 61 (.agg #[.int .u64 0, .int .u64 0, .int .u64 0, .int .u64 0, .int .u64 0, .int .u64 0, .int .u64 0, .int .u64 0]) := ⟨fun _ => by kernel_rfl⟩
instance ze63 : ZeroT Tryz.prog 63 (.agg #[.bool false, .int .u64 0, .int .u64 0, .int .u64 0, .int .u64 0, .int .u64 0, .int .u64 0, .int .u64 0, .int .u64 0]) := ⟨fun _ => by kernel_rfl⟩
instance ze65 : ZeroT Tryz.prog 65 (.agg #[.bool false, .int .u64 0, .int .u64 0, .int .u64 0, .int .u64 0, .int .u64 0, .int .u64 0, .int .u64 0, .int .u64 0, .bool false, .int .u64 0, .int .u64 0, .int .u64 0, .int .u64 0, .int .u64 0, .int .u64 0, .int .u64 0, .int .u64 0, .int .u64 0, .int .u64 0, .int .u64 0, .int .u64 0, .int .u64 0, .int .u64 0, .int .u64 0, .int .u64 0]) := ⟨fun _ => by kernel_rfl⟩
instance ze68 : ZeroT Tryz.prog 68 (.agg #[.int .i64 0, .int .i64 0, .int .i64 0, .bool false, .bool false]) := ⟨fun _ => by kernel_rfl⟩
instance ze71 : ZeroT Tryz.prog 71 (.agg #[.int .i64 0, .bool false, .int .i64 0]) := ⟨fun _ => by kernel_rfl⟩
instance ze92 : ZeroT Tryz.prog 92 (.agg #[.int .i64 0, .int .i64 0]) := ⟨fun _ => by kernel_rfl⟩
instance ze3 : ZeroT Tryz.prog 3 (.int .i64 0) := ⟨fun _ => by kernel_rfl⟩
instance ze59 : ZeroT Tryz.prog 59 (.int .u64 0) := ⟨fun _ => by kernel_rfl⟩
instance ze69 : ZeroT Tryz.prog 69 (.slice none 0 0) := ⟨fun _ => by kernel_rfl⟩
instance fi26_0 : FieldT Tryz.prog 26 0 0 := ⟨fun _ _ => by kernel_rfl⟩
instance fi26_1 : FieldT Tryz.prog 26 1 1 := ⟨fun _ _ => by kernel_rfl⟩
instance fi26_2 : FieldT Tryz.prog 26 2 2 := ⟨fun _ _ => by kernel_rfl⟩
instance fi29_0 : FieldT Tryz.prog 29 0 0 := ⟨fun _ _ => by kernel_rfl⟩
instance fi29_1 : FieldT Tryz.prog 29 1 1 := ⟨fun _ _ => by kernel_rfl⟩
instance fi50_0 : FieldT Tryz.prog 50 0 0 := ⟨fun _ _ => by kernel_rfl⟩
instance fi50_1 : FieldT Tryz.prog 50 1 1 := ⟨fun _ _ => by kernel_rfl⟩
instance fi50_2 : FieldT Tryz.prog 50 2 2 := ⟨fun _ _ => by kernel_rfl⟩
instance fi63_0 : FieldT Tryz.prog 63 0 0 := ⟨fun _ _ => by kernel_rfl⟩
instance fi63_1 : FieldT Tryz.prog 63 1 1 := ⟨fun _ _ => by kernel_rfl⟩
instance fi65_0 : FieldT Tryz.prog 65 0 0 := ⟨fun _ _ => by kernel_rfl⟩
instance fi65_1 : FieldT Tryz.prog 65 1 9 := ⟨fun _ _ => by kernel_rfl⟩
instance fi65_2 : FieldT Tryz.prog 65 2 18 := ⟨fun _ _ => by kernel_rfl⟩
instance fi68_0 : FieldT Tryz.prog 68 0 0 := ⟨fun _ _ => by kernel_rfl⟩
instance fi68_1 : FieldT Tryz.prog 68 1 1 := ⟨fun _ _ => by kernel_rfl⟩
instance fi68_2 : FieldT Tryz.prog 68 2 2 := ⟨fun _ _ => by kernel_rfl⟩
instance fi68_3 : FieldT Tryz.prog 68 3 3 := ⟨fun _ _ => by kernel_rfl⟩
instance fi68_4 : FieldT Tryz.prog 68 4 4 := ⟨fun _ _ => by kernel_rfl⟩
instance fi71_0 : FieldT Tryz.prog 71 0 0 := ⟨fun _ _ => by kernel_rfl⟩
instance fi71_2 : FieldT Tryz.prog 71 2 2 := ⟨fun _ _ => by kernel_rfl⟩
instance fi83_0 : FieldT Tryz.prog 83 0 0 := ⟨fun _ _ => by kernel_rfl⟩
instance fi83_1 : FieldT Tryz.prog 83 1 1 := ⟨fun _ _ => by kernel_rfl⟩
instance fi92_0 : FieldT Tryz.prog 92 0 0 := ⟨fun _ _ => by kernel_rfl⟩
instance fi92_1 : FieldT Tryz.prog 92 1 1 := ⟨fun _ _ => by kernel_rfl⟩
instance hb8 : HasBody Tryz.prog 8 := ⟨_, Tryz.func8, by kernel_rfl, by kernel_rfl⟩
instance hb9 : HasBody Tryz.prog 9 := ⟨_, Tryz.func9, by kernel_rfl, by kernel_rfl⟩
instance hb10 : HasBody Tryz.prog 10 := ⟨_, Tryz.func10, by kernel_rfl, by kernel_rfl⟩
instance hb11 : HasBody Tryz.prog 11 := ⟨_, Tryz.func11, by kernel_rfl, by kernel_rfl⟩
instance hb12 : HasBody Tryz.prog 12 := ⟨_, Tryz.func12, by kernel_rfl, by kernel_rfl⟩
instance hb13 : HasBody Tryz.prog 13 := ⟨_, Tryz.func13, by kernel_rfl, by kernel_rfl⟩
instance hb14 : HasBody Tryz.prog 14 := ⟨_, Tryz.func14, by kernel_rfl, by kernel_rfl⟩
instance hb15 : HasBody Tryz.prog 15 := ⟨_, Tryz.func15, by kernel_rfl, by kernel_rfl⟩
instance hb16 : HasBody Tryz.prog 16 := ⟨_, Tryz.func16, by kernel_rfl, by kernel_rfl⟩
instance hb17 : HasBody Tryz.prog 17 := ⟨_, Tryz.func17, by kernel_rfl, by kernel_rfl⟩
instance hb18 : HasBody Tryz.prog 18 := ⟨_, Tryz.func18, by kernel_rfl, by kernel_rfl⟩
instance hb19 : HasBody Tryz.prog 19 := ⟨_, Tryz.func19, by kernel_rfl, by kernel_rfl⟩
instance hb20 : HasBody Tryz.prog 20 := ⟨_, Tryz.func20, by kernel_rfl, by kernel_rfl⟩
instance hb21 : HasBody Tryz.prog 21 := ⟨_, Tryz.func21, by kernel_rfl, by kernel_rfl⟩
instance hb22 : HasBody Tryz.prog 22 := ⟨_, Tryz.func22, by kernel_rfl, by kernel_rfl⟩
instance hb23 : HasBody Tryz.prog 23 := ⟨_, Tryz.func23, by kernel_rfl, by kernel_rfl⟩
instance hb24 : HasBody Tryz.prog 24 := ⟨_, Tryz.func24, by kernel_rfl, by kernel_rfl⟩
instance hb25 : HasBody Tryz.prog 25 := ⟨_, Tryz.func25, by kernel_rfl, by kernel_rfl⟩
instance hb26 : HasBody Tryz.prog 26 := ⟨_, Tryz.func26, by kernel_rfl, by kernel_rfl⟩
instance hb27 : HasBody Tryz.prog 27 := ⟨_, Tryz.func27, by kernel_rfl, by kernel_rfl⟩
instance hb28 : HasBody Tryz.prog 28 := ⟨_, Tryz.func28, by kernel_rfl, by kernel_rfl⟩
instance hb29 : HasBody Tryz.prog 29 := ⟨_, Tryz.func29, by kernel_rfl, by kernel_rfl⟩
instance hb30 : HasBody Tryz.prog 30 := ⟨_, Tryz.func30, by kernel_rfl, by kernel_rfl⟩
instance hb31 : HasBody Tryz.prog 31 := ⟨_, Tryz.func31, by kernel_rfl, by kernel_rfl⟩
instance hb32 : HasBody Tryz.prog 32 := ⟨_, Tryz.func32, by kernel_rfl, by kernel_rfl⟩
instance hb33 : HasBody Tryz.prog 33 := ⟨_, Tryz.func33, by kernel_rfl, by kernel_rfl⟩
instance hb34 : HasBody Tryz.prog 34 := ⟨_, Tryz.func34, by kernel_rfl, by kernel_rfl⟩
instance hb35 : HasBody Tryz.prog 35 := ⟨_, Tryz.func35, by kernel_rfl, by kernel_rfl⟩
instance hb36 : HasBody Tryz.prog 36 := ⟨_, Tryz.func36, by kernel_rfl, by kernel_rfl⟩
instance hb37 : HasBody Tryz.prog 37 := ⟨_, Tryz.func37, by kernel_rfl, by kernel_rfl⟩
instance hb38 : HasBody Tryz.prog 38 := ⟨_, Tryz.func38, by kernel_rfl, by kernel_rfl⟩
instance hb39 : HasBody Tryz.prog 39 := ⟨_, Tryz.func39, by kernel_rfl, by kernel_rfl⟩
instance hb40 : HasBody Tryz.prog 40 := ⟨_, Tryz.func40, by kernel_rfl, by kernel_rfl⟩
instance hb41 : HasBody Tryz.prog 41 := ⟨_, Tryz.func41, by kernel_rfl, by kernel_rfl⟩
instance hb42 : HasBody Tryz.prog 42 := ⟨_, Tryz.func42, by kernel_rfl, by kernel_rfl⟩
instance hb43 : HasBody Tryz.prog 43 := ⟨_, Tryz.func43, by kernel_rfl, by kernel_rfl⟩
instance hb44 : HasBody Tryz.prog 44 := ⟨_, Tryz.func44, by kernel_rfl, by kernel_rfl⟩
instance hb45 : HasBody Tryz.prog 45 := ⟨_, Tryz.func45, by kernel_rfl, by kernel_rfl⟩
instance hb46 : HasBody Tryz.prog 46 := ⟨_, Tryz.func46, by kernel_rfl, by kernel_rfl⟩
instance hb47 : HasBody Tryz.prog 47 := ⟨_, Tryz.func47, by kernel_rfl, by kernel_rfl⟩
instance hb48 : HasBody Tryz.prog 48 := ⟨_, Tryz.func48, by kernel_rfl, by kernel_rfl⟩
instance hb49 : HasBody Tryz.prog 49 := ⟨_, Tryz.func49, by kernel_rfl, by kernel_rfl⟩
instance hb50 : HasBody Tryz.prog 50 := ⟨_, Tryz.func50, by kernel_rfl, by kernel_rfl⟩
instance hb51 : HasBody Tryz.prog 51 := ⟨_, Tryz.func51, by kernel_rfl, by kernel_rfl⟩
instance hb52 : HasBody Tryz.prog 52 := ⟨_, Tryz.func52, by kernel_rfl, by kernel_rfl⟩
instance hb53 : HasBody Tryz.prog 53 := ⟨_, Tryz.func53, by kernel_rfl, by kernel_rfl⟩
instance hb54 : HasBody Tryz.prog 54 := ⟨_, Tryz.func54, by kernel_rfl, by kernel_rfl⟩
instance hb55 : HasBody Tryz.prog 55 := ⟨_, Tryz.func55, by kernel_rfl, by kernel_rfl⟩
instance hb56 : HasBody Tryz.prog 56 := ⟨_, Tryz.func56, by kernel_rfl, by kernel_rfl⟩
instance hb57 : HasBody Tryz.prog 57 := ⟨_, Tryz.func57, by kernel_rfl, by kernel_rfl⟩
instance hb58 : HasBody Tryz.prog 58 := ⟨_, Tryz.func58, by kernel_rfl, by kernel_rfl⟩
instance hb59 : HasBody Tryz.prog 59 := ⟨_, Tryz.func59, by kernel_rfl, by kernel_rfl⟩
instance hb60 : HasBody Tryz.prog 60 := ⟨_, Tryz.func60, by kernel_rfl, by kernel_rfl⟩
instance hb61 : HasBody Tryz.prog 61 := ⟨_, Tryz.func61, by kernel_rfl, by kernel_rfl⟩
instance hb62 : HasBody Tryz.prog 62 := ⟨_, Tryz.func62, by kernel_rfl, by kernel_rfl⟩
instance hb63 : HasBody Tryz.prog 63 := ⟨_, Tryz.func63, by kernel_rfl, by kernel_rfl⟩
instance hb64 : HasBody Tryz.prog 64 := ⟨_, Tryz.func64, by kernel_rfl, by kernel_rfl⟩
instance hb65 : HasBody Tryz.prog 65 := ⟨_, Tryz.func65, by kernel_rfl, by kernel_rfl⟩
instance hb66 : HasBody Tryz.prog 66 := ⟨_, Tryz.func66, by kernel_rfl, by kernel_rfl⟩
instance hb67 : HasBody Tryz.prog 67 := ⟨_, Tryz.func67, by kernel_rfl, by kernel_rfl⟩
instance hb68 : HasBody Tryz.prog 68 := ⟨_, Tryz.func68, by kernel_rfl, by kernel_rfl⟩
instance hb69 : HasBody Tryz.prog 69 := ⟨_, Tryz.func69, by kernel_rfl, by kernel_rfl⟩
instance hb70 : HasBody Tryz.prog 70 := ⟨_, Tryz.func70, by kernel_rfl, by kernel_rfl⟩
instance hb71 : HasBody Tryz.prog 71 := ⟨_, Tryz.func71, by kernel_rfl, by kernel_rfl⟩
instance hb72 : HasBody Tryz.prog 72 := ⟨_, Tryz.func72, by kernel_rfl, by kernel_rfl⟩
instance hb74 : HasBody Tryz.prog 74 := ⟨_, Tryz.func74, by kernel_rfl, by kernel_rfl⟩
instance hb75 : HasBody Tryz.prog 75 := ⟨_, Tryz.func75, by kernel_rfl, by kernel_rfl⟩
instance hb76 : HasBody Tryz.prog 76 := ⟨_, Tryz.func76, by kernel_rfl, by kernel_rfl⟩
instance hb77 : HasBody Tryz.prog 77 := ⟨_, Tryz.func77, by kernel_rfl, by kernel_rfl⟩
instance hb78 : HasBody Tryz.prog 78 := ⟨_, Tryz.func78, by kernel_rfl, by kernel_rfl⟩
instance hb79 : HasBody Tryz.prog 79 := ⟨_, Tryz.func79, by kernel_rfl, by kernel_rfl⟩
instance hb80 : HasBody Tryz.prog 80 := ⟨_, Tryz.func80, by kernel_rfl, by kernel_rfl⟩
instance hb81 : HasBody Tryz.prog 81 := ⟨_, Tryz.func81, by kernel_rfl, by kernel_rfl⟩
instance hb82 : HasBody Tryz.prog 82 := ⟨_, Tryz.func82, by kernel_rfl, by kernel_rfl⟩
instance hb83 : HasBody Tryz.prog 83 := ⟨_, Tryz.func83, by kernel_rfl, by kernel_rfl⟩
instance hb84 : HasBody Tryz.prog 84 := ⟨_, Tryz.func84, by kernel_rfl, by kernel_rfl⟩
instance hb85 : HasBody Tryz.prog 85 := ⟨_, Tryz.func85, by kernel_rfl, by kernel_rfl⟩
instance hb86 : HasBody Tryz.prog 86 := ⟨_, Tryz.func86, by kernel_rfl, by kernel_rfl⟩
instance hb87 : HasBody Tryz.prog 87 := ⟨_, Tryz.func87, by kernel_rfl, by kernel_rfl⟩
instance hb88 : HasBody Tryz.prog 88 := ⟨_, Tryz.func88, by kernel_rfl, by kernel_rfl⟩
instance hb89 : HasBody Tryz.prog 89 := ⟨_, Tryz.func89, by kernel_rfl, by kernel_rfl⟩
instance hb90 : HasBody Tryz.prog 90 := ⟨_, Tryz.func90, by kernel_rfl, by kernel_rfl⟩
instance hb91 : HasBody Tryz.prog 91 := ⟨_, Tryz.func91, by kernel_rfl, by kernel_rfl⟩
instance hb92 : HasBody Tryz.prog 92 := ⟨_, Tryz.func92, by kernel_rfl, by kernel_rfl⟩
instance hb93 : HasBody Tryz.prog 93 := ⟨_, Tryz.func93, by kernel_rfl, by kernel_rfl⟩
instance hb94 : HasBody Tryz.prog 94 := ⟨_, Tryz.func94, by kernel_rfl, by kernel_rfl⟩
instance hb95 : HasBody Tryz.prog 95 := ⟨_, Tryz.func95, by kernel_rfl, by kernel_rfl⟩
instance hb96 : HasBody Tryz.prog 96 := ⟨_, Tryz.func96, by kernel_rfl, by kernel_rfl⟩
instance hb97 : HasBody Tryz.prog 97 := ⟨_, Tryz.func97, by kernel_rfl, by kernel_rfl⟩
instance hb98 : HasBody Tryz.prog 98 := ⟨_, Tryz.func98, by kernel_rfl, by kernel_rfl⟩
instance hb99 : HasBody Tryz.prog 99 := ⟨_, Tryz.func99, by kernel_rfl, by kernel_rfl⟩
instance hb100 : HasBody Tryz.prog 100 := ⟨_, Tryz.func100, by kernel_rfl, by kernel_rfl⟩
instance hb101 : HasBody Tryz.prog 101 := ⟨_, Tryz.func101, by kernel_rfl, by kernel_rfl⟩
instance hb102 : HasBody Tryz.prog 102 := ⟨_, Tryz.func102, by kernel_rfl, by kernel_rfl⟩
instance hb103 : HasBody Tryz.prog 103 := ⟨_, Tryz.func103, by kernel_rfl, by kernel_rfl⟩
instance hb104 : HasBody Tryz.prog 104 := ⟨_, Tryz.func104, by kernel_rfl, by kernel_rfl⟩
instance hb105 : HasBody Tryz.prog 105 := ⟨_, Tryz.func105, by kernel_rfl, by kernel_rfl⟩
instance hb106 : HasBody Tryz.prog 106 := ⟨_, Tryz.func106, by kernel_rfl, by kernel_rfl⟩
instance hb107 : HasBody Tryz.prog 107 := ⟨_, Tryz.func107, by kernel_rfl, by kernel_rfl⟩
instance hb108 : HasBody Tryz.prog 108 := ⟨_, Tryz.func108, by kernel_rfl, by kernel_rfl⟩
instance hb109 : HasBody Tryz.prog 109 := ⟨_, Tryz.func109, by kernel_rfl, by kernel_rfl⟩
instance hb110 : HasBody Tryz.prog 110 := ⟨_, Tryz.func110, by kernel_rfl, by kernel_rfl⟩
instance hb111 : HasBody Tryz.prog 111 := ⟨_, Tryz.func111, by kernel_rfl, by kernel_rfl⟩
instance hb112 : HasBody Tryz.prog 112 := ⟨_, Tryz.func112, by kernel_rfl, by kernel_rfl⟩
instance hb113 : HasBody Tryz.prog 113 := ⟨_, Tryz.func113, by kernel_rfl, by kernel_rfl⟩
instance hb114 : HasBody Tryz.prog 114 := ⟨_, Tryz.func114, by kernel_rfl, by kernel_rfl⟩
instance hb115 : HasBody Tryz.prog 115 := ⟨_, Tryz.func115, by kernel_rfl, by kernel_rfl⟩
instance hb116 : HasBody Tryz.prog 116 := ⟨_, Tryz.func116, by kernel_rfl, by kernel_rfl⟩
instance hb117 : HasBody Tryz.prog 117 := ⟨_, Tryz.func117, by kernel_rfl, by kernel_rfl⟩
instance hb118 : HasBody Tryz.prog 118 := ⟨_, Tryz.func118, by kernel_rfl, by kernel_rfl⟩
instance hb119 : HasBody Tryz.prog 119 := ⟨_, Tryz.func119, by kernel_rfl, by kernel_rfl⟩
instance hb120 : HasBody Tryz.prog 120 := ⟨_, Tryz.func120, by kernel_rfl, by kernel_rfl⟩
instance hb121 : HasBody Tryz.prog 121 := ⟨_, Tryz.func121, by kernel_rfl, by kernel_rfl⟩
instance hb122 : HasBody Tryz.prog 122 := ⟨_, Tryz.func122, by kernel_rfl, by kernel_rfl⟩
instance hb123 : HasBody Tryz.prog 123 := ⟨_, Tryz.func123, by kernel_rfl, by kernel_rfl⟩
instance hb124 : HasBody Tryz.prog 124 := ⟨_, Tryz.func124, by kernel_rfl, by kernel_rfl⟩
instance hb125 : HasBody Tryz.prog 125 := ⟨_, Tryz.func125, by kernel_rfl, by kernel_rfl⟩
instance hb126 : HasBody Tryz.prog 126 := ⟨_, Tryz.func126, by kernel_rfl, by kernel_rfl⟩
instance hb127 : HasBody Tryz.prog 127 := ⟨_, Tryz.func127, by kernel_rfl, by kernel_rfl⟩
instance hb128 : HasBody Tryz.prog 128 := ⟨_, Tryz.func128, by kernel_rfl, by kernel_rfl⟩
instance hb129 : HasBody Tryz.prog 129 := ⟨_, Tryz.func129, by kernel_rfl, by kernel_rfl⟩
instance hb130 : HasBody Tryz.prog 130 := ⟨_, Tryz.func130, by kernel_rfl, by kernel_rfl⟩
instance hb131 : HasBody Tryz.prog 131 := ⟨_, Tryz.func131, by kernel_rfl, by kernel_rfl⟩
instance hb132 : HasBody Tryz.prog 132 := ⟨_, Tryz.func132, by kernel_rfl, by kernel_rfl⟩
instance hb133 : HasBody Tryz.prog 133 := ⟨_, Tryz.func133, by kernel_rfl, by kernel_rfl⟩
instance hb135 : HasBody Tryz.prog 135 := ⟨_, Tryz.func135, by kernel_rfl, by kernel_rfl⟩
instance hb137 : HasBody Tryz.prog 137 := ⟨_, Tryz.func137, by kernel_rfl, by kernel_rfl⟩
instance hb138 : HasBody Tryz.prog 138 := ⟨_, Tryz.func138, by kernel_rfl, by kernel_rfl⟩
instance hb139 : HasBody Tryz.prog 139 := ⟨_, Tryz.func139, by kernel_rfl, by kernel_rfl⟩
instance hb140 : HasBody Tryz.prog 140 := ⟨_, Tryz.func140, by kernel_rfl, by kernel_rfl⟩
instance hb141 : HasBody Tryz.prog 141 := ⟨_, Tryz.func141, by kernel_rfl, by kernel_rfl⟩
instance hb142 : HasBody Tryz.prog 142 := ⟨_, Tryz.func142, by kernel_rfl, by kernel_rfl⟩
theorem mixed : Tryz.prog.follows .mixedOrders = true := by kernel_rfl
end Go.Proofs.YtgciglnkofoacaaGreat.R
