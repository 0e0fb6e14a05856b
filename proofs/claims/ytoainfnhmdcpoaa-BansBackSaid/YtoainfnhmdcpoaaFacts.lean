/- What the engine's rules ask of the program's tables: an instance each. Printed by program (facts.py). -/
import Derived.Test.YtoainfnhmdcpoaaMem
import Derived.Test.YtoainfnhmdcpoaaChecked
namespace Go.Proofs.Ytoainfnhmdcpoaa.R

instance kt3 : KindT Try.prog 3 false := ⟨by kernel_rfl⟩
instance sz3 : SzT Try.prog 3 1 := ⟨by kernel_rfl⟩
instance kt4 : KindT Try.prog 4 false := ⟨by kernel_rfl⟩
instance sz4 : SzT Try.prog 4 1 := ⟨by kernel_rfl⟩
instance kt24 : KindT Try.prog 24 false := ⟨by kernel_rfl⟩
instance sz24 : SzT Try.prog 24 1 := ⟨by kernel_rfl⟩
instance kt30 : KindT Try.prog 30 true := ⟨by kernel_rfl⟩
instance sz30 : SzT Try.prog 30 2 := ⟨by kernel_rfl⟩
instance kt40 : KindT Try.prog 40 false := ⟨by kernel_rfl⟩
instance sz40 : SzT Try.prog 40 1 := ⟨by kernel_rfl⟩
instance kt41 : KindT Try.prog 41 false := ⟨by kernel_rfl⟩
instance sz41 : SzT Try.prog 41 1 := ⟨by kernel_rfl⟩
instance kt42 : KindT Try.prog 42 false := ⟨by kernel_rfl⟩
instance sz42 : SzT Try.prog 42 1 := ⟨by kernel_rfl⟩
instance kt44 : KindT Try.prog 44 true := ⟨by kernel_rfl⟩
instance sz44 : SzT Try.prog 44 3 := ⟨by kernel_rfl⟩
instance kt46 : KindT Try.prog 46 true := ⟨by kernel_rfl⟩
instance sz46 : SzT Try.prog 46 2 := ⟨by kernel_rfl⟩
instance kt48 : KindT Try.prog 48 false := ⟨by kernel_rfl⟩
instance sz48 : SzT Try.prog 48 1 := ⟨by kernel_rfl⟩
instance kt50 : KindT Try.prog 50 true := ⟨by kernel_rfl⟩
instance sz50 : SzT Try.prog 50 2 := ⟨by kernel_rfl⟩
instance kt52 : KindT Try.prog 52 true := ⟨by kernel_rfl⟩
instance sz52 : SzT Try.prog 52 2 := ⟨by kernel_rfl⟩
instance kt60 : KindT Try.prog 60 false := ⟨by kernel_rfl⟩
instance sz60 : SzT Try.prog 60 1 := ⟨by kernel_rfl⟩
instance kt63 : KindT Try.prog 63 true := ⟨by kernel_rfl⟩
instance sz63 : SzT Try.prog 63 2 := ⟨by kernel_rfl⟩
instance kt66 : KindT Try.prog 66 true := ⟨by kernel_rfl⟩
instance sz66 : SzT Try.prog 66 5 := ⟨by kernel_rfl⟩
instance kt74 : KindT Try.prog 74 true := ⟨by kernel_rfl⟩
instance sz74 : SzT Try.prog 74 2 := ⟨by kernel_rfl⟩
instance kt76 : KindT Try.prog 76 true := ⟨by kernel_rfl⟩
instance sz76 : SzT Try.prog 76 4 := ⟨by kernel_rfl⟩
instance kt79 : KindT Try.prog 79 false := ⟨by kernel_rfl⟩
instance sz79 : SzT Try.prog 79 1 := ⟨by kernel_rfl⟩
instance kt81 : KindT Try.prog 81 true := ⟨by kernel_rfl⟩
instance sz81 : SzT Try.prog 81 8 := ⟨by kernel_rfl⟩
instance kt83 : KindT Try.prog 83 true := ⟨by kernel_rfl⟩
instance sz83 : SzT Try.prog 83 9 := ⟨by kernel_rfl⟩
instance kt85 : KindT Try.prog 85 true := ⟨by kernel_rfl⟩
instance sz85 : SzT Try.prog 85 26 := ⟨by kernel_rfl⟩
instance kt89 : KindT Try.prog 89 true := ⟨by kernel_rfl⟩
instance sz89 : SzT Try.prog 89 17 := ⟨by kernel_rfl⟩
instance kt97 : KindT Try.prog 97 false := ⟨by kernel_rfl⟩
instance sz97 : SzT Try.prog 97 1 := ⟨by kernel_rfl⟩
instance kt99 : KindT Try.prog 99 true := ⟨by kernel_rfl⟩
instance sz99 : SzT Try.prog 99 2 := ⟨by kernel_rfl⟩
instance kt102 : KindT Try.prog 102 true := ⟨by kernel_rfl⟩
instance sz102 : SzT Try.prog 102 4 := ⟨by kernel_rfl⟩
instance kt110 : KindT Try.prog 110 false := ⟨by kernel_rfl⟩
instance sz110 : SzT Try.prog 110 1 := ⟨by kernel_rfl⟩
instance kt112 : KindT Try.prog 112 true := ⟨by kernel_rfl⟩
instance sz112 : SzT Try.prog 112 6 := ⟨by kernel_rfl⟩
instance kt118 : KindT Try.prog 118 true := ⟨by kernel_rfl⟩
instance sz118 : SzT Try.prog 118 3 := ⟨by kernel_rfl⟩
instance kt130 : KindT Try.prog 130 true := ⟨by kernel_rfl⟩
instance sz130 : SzT Try.prog 130 3 := ⟨by kernel_rfl⟩
instance kt145 : KindT Try.prog 145 false := ⟨by kernel_rfl⟩
instance sz145 : SzT Try.prog 145 1 := ⟨by kernel_rfl⟩
instance kt147 : KindT Try.prog 147 true := ⟨by kernel_rfl⟩
instance sz147 : SzT Try.prog 147 3 := ⟨by kernel_rfl⟩
instance kt203 : KindT Try.prog 203 true := ⟨by kernel_rfl⟩
instance sz203 : SzT Try.prog 203 2 := ⟨by kernel_rfl⟩
instance kt212 : KindT Try.prog 212 true := ⟨by kernel_rfl⟩
instance sz212 : SzT Try.prog 212 18 := ⟨by kernel_rfl⟩
instance kt239 : KindT Try.prog 239 false := ⟨by kernel_rfl⟩
instance sz239 : SzT Try.prog 239 1 := ⟨by kernel_rfl⟩
instance kt241 : KindT Try.prog 241 true := ⟨by kernel_rfl⟩
instance sz241 : SzT Try.prog 241 2 := ⟨by kernel_rfl⟩
instance kt263 : KindT Try.prog 263 false := ⟨by kernel_rfl⟩
instance sz263 : SzT Try.prog 263 1 := ⟨by kernel_rfl⟩
instance sl22 : SliceT Try.prog 22 30 2 := ⟨by kernel_rfl, by kernel_rfl⟩
instance sl24 : SliceT Try.prog 24 3 1 := ⟨by kernel_rfl, by kernel_rfl⟩
instance ar30 : ArrT Try.prog 30 2 3 1 := ⟨by kernel_rfl, by kernel_rfl⟩
instance sl40 : SliceT Try.prog 40 85 26 := ⟨by kernel_rfl, by kernel_rfl⟩
instance sl41 : SliceT Try.prog 41 66 5 := ⟨by kernel_rfl, by kernel_rfl⟩
instance sl42 : SliceT Try.prog 42 145 1 := ⟨by kernel_rfl, by kernel_rfl⟩
instance sl48 : SliceT Try.prog 48 130 3 := ⟨by kernel_rfl, by kernel_rfl⟩
instance sl60 : SliceT Try.prog 60 63 2 := ⟨by kernel_rfl, by kernel_rfl⟩
instance ar81 : ArrT Try.prog 81 8 79 1 := ⟨by kernel_rfl, by kernel_rfl⟩
instance sl97 : SliceT Try.prog 97 79 1 := ⟨by kernel_rfl, by kernel_rfl⟩
instance sl110 : SliceT Try.prog 110 24 1 := ⟨by kernel_rfl, by kernel_rfl⟩
instance sl145 : SliceT Try.prog 145 147 3 := ⟨by kernel_rfl, by kernel_rfl⟩
instance sl157 : SliceT Try.prog 157 3 1 := ⟨by kernel_rfl, by kernel_rfl⟩
instance sl170 : SliceT Try.prog 170 89 17 := ⟨by kernel_rfl, by kernel_rfl⟩
instance sl184 : SliceT Try.prog 184 60 1 := ⟨by kernel_rfl, by kernel_rfl⟩
instance sl234 : SliceT Try.prog 234 4 1 := ⟨by kernel_rfl, by kernel_rfl⟩
instance sl264 : SliceT Try.prog 264 81 8 := ⟨by kernel_rfl, by kernel_rfl⟩
instance ty0 : TyV Try.prog 0 .t := ⟨trivial⟩
instance ty3 : TyV Try.prog 3 .i := ⟨trivial⟩
instance ty4 : TyV Try.prog 4 .b := ⟨trivial⟩
instance ty5 : TyV Try.prog 5 .i := ⟨trivial⟩
instance ty22 : TyV Try.prog 22 .s := ⟨trivial⟩
instance ty24 : TyV Try.prog 24 .s := ⟨trivial⟩
instance ty25 : TyV Try.prog 25 .i := ⟨trivial⟩
instance ty26 : TyV Try.prog 26 .t := ⟨trivial⟩
instance ty28 : TyV Try.prog 28 .t := ⟨trivial⟩
instance ty30 : TyV Try.prog 30 .a := ⟨trivial⟩
instance ty34 : TyV Try.prog 34 .t := ⟨trivial⟩
instance ty40 : TyV Try.prog 40 .s := ⟨trivial⟩
instance ty41 : TyV Try.prog 41 .s := ⟨trivial⟩
instance ty42 : TyV Try.prog 42 .s := ⟨trivial⟩
instance ty44 : TyV Try.prog 44 .a := ⟨trivial⟩
instance ty46 : TyV Try.prog 46 .a := ⟨trivial⟩
instance ty48 : TyV Try.prog 48 .s := ⟨trivial⟩
instance ty50 : TyV Try.prog 50 .a := ⟨trivial⟩
instance ty52 : TyV Try.prog 52 .a := ⟨trivial⟩
instance ty53 : TyV Try.prog 53 .t := ⟨trivial⟩
instance ty58 : TyV Try.prog 58 .t := ⟨trivial⟩
instance ty60 : TyV Try.prog 60 .s := ⟨trivial⟩
instance ty63 : TyV Try.prog 63 .a := ⟨trivial⟩
instance ty66 : TyV Try.prog 66 .a := ⟨trivial⟩
instance ty68 : TyV Try.prog 68 .t := ⟨trivial⟩
instance ty74 : TyV Try.prog 74 .a := ⟨trivial⟩
instance ty76 : TyV Try.prog 76 .a := ⟨trivial⟩
instance ty79 : TyV Try.prog 79 .i := ⟨trivial⟩
instance ty81 : TyV Try.prog 81 .a := ⟨trivial⟩
instance ty83 : TyV Try.prog 83 .a := ⟨trivial⟩
instance ty85 : TyV Try.prog 85 .a := ⟨trivial⟩
instance ty89 : TyV Try.prog 89 .a := ⟨trivial⟩
instance ty90 : TyV Try.prog 90 .t := ⟨trivial⟩
instance ty97 : TyV Try.prog 97 .s := ⟨trivial⟩
instance ty99 : TyV Try.prog 99 .a := ⟨trivial⟩
instance ty102 : TyV Try.prog 102 .a := ⟨trivial⟩
instance ty110 : TyV Try.prog 110 .s := ⟨trivial⟩
instance ty112 : TyV Try.prog 112 .a := ⟨trivial⟩
instance ty118 : TyV Try.prog 118 .a := ⟨trivial⟩
instance ty126 : TyV Try.prog 126 .t := ⟨trivial⟩
instance ty130 : TyV Try.prog 130 .a := ⟨trivial⟩
instance ty131 : TyV Try.prog 131 .t := ⟨trivial⟩
instance ty136 : TyV Try.prog 136 .t := ⟨trivial⟩
instance ty143 : TyV Try.prog 143 .f := ⟨trivial⟩
instance ty145 : TyV Try.prog 145 .s := ⟨trivial⟩
instance ty147 : TyV Try.prog 147 .a := ⟨trivial⟩
instance ty152 : TyV Try.prog 152 .t := ⟨trivial⟩
instance ty157 : TyV Try.prog 157 .s := ⟨trivial⟩
instance ty158 : TyV Try.prog 158 .f := ⟨trivial⟩
instance ty166 : TyV Try.prog 166 .t := ⟨trivial⟩
instance ty170 : TyV Try.prog 170 .s := ⟨trivial⟩
instance ty176 : TyV Try.prog 176 .i := ⟨trivial⟩
instance ty178 : TyV Try.prog 178 .t := ⟨trivial⟩
instance ty183 : TyV Try.prog 183 .f := ⟨trivial⟩
instance ty184 : TyV Try.prog 184 .s := ⟨trivial⟩
instance ty186 : TyV Try.prog 186 .p := ⟨trivial⟩
instance ty187 : TyV Try.prog 187 .t := ⟨trivial⟩
instance ty191 : TyV Try.prog 191 .f := ⟨trivial⟩
instance ty196 : TyV Try.prog 196 .t := ⟨trivial⟩
instance ty198 : TyV Try.prog 198 .t := ⟨trivial⟩
instance ty203 : TyV Try.prog 203 .a := ⟨trivial⟩
instance ty207 : TyV Try.prog 207 .f := ⟨trivial⟩
instance ty208 : TyV Try.prog 208 .f := ⟨trivial⟩
instance ty212 : TyV Try.prog 212 .a := ⟨trivial⟩
instance ty218 : TyV Try.prog 218 .t := ⟨trivial⟩
instance ty222 : TyV Try.prog 222 .t := ⟨trivial⟩
instance ty224 : TyV Try.prog 224 .t := ⟨trivial⟩
instance ty226 : TyV Try.prog 226 .t := ⟨trivial⟩
instance ty228 : TyV Try.prog 228 .t := ⟨trivial⟩
instance ty233 : TyV Try.prog 233 .p := ⟨trivial⟩
instance ty234 : TyV Try.prog 234 .s := ⟨trivial⟩
instance ty237 : TyV Try.prog 237 .m := ⟨trivial⟩
instance ty239 : TyV Try.prog 239 .m := ⟨trivial⟩
instance ty241 : TyV Try.prog 241 .a := ⟨trivial⟩
instance ty243 : TyV Try.prog 243 .t := ⟨trivial⟩
instance ty258 : TyV Try.prog 258 .t := ⟨trivial⟩
instance ty260 : TyV Try.prog 260 .t := ⟨trivial⟩
instance ty264 : TyV Try.prog 264 .s := ⟨trivial⟩
instance el3 : ElemT Try.prog 3 (.int .i64 0) 1 8 := ⟨by kernel_rfl, by kernel_rfl, by decide⟩
instance el4 : ElemT Try.prog 4 (.bool false) 1 1 := ⟨by kernel_rfl, by kernel_rfl, by decide⟩
instance el24 : ElemT Try.prog 24 (.slice none 0 0) 1 24 := ⟨by kernel_rfl, by kernel_rfl, by decide⟩
instance el30 : ElemT Try.prog 30 (.agg #[.int .i64 0, .int .i64 0]) 2 16 := ⟨by kernel_rfl, by kernel_rfl, by decide⟩
instance el60 : ElemT Try.prog 60 (.slice none 0 0) 1 24 := ⟨by kernel_rfl, by kernel_rfl, by decide⟩
instance el63 : ElemT Try.prog 63 (.agg #[.int .i64 0, .int .i64 0]) 2 16 := ⟨by kernel_rfl, by kernel_rfl, by decide⟩
instance el66 : ElemT Try.prog 66 (.agg #[.int .i64 0, .int .i64 0, .int .i64 0, .bool false, .bool false]) 5 32 := ⟨by kernel_rfl, by kernel_rfl, by decide⟩
instance el79 : ElemT Try.prog 79 (.int .u64 0) 1 8 := ⟨by kernel_rfl, by kernel_rfl, by decide⟩
instance el81 : ElemT Try.prog 81 (.agg #[.int .u64 0, .int .u64 0, .int .u64 0, .int .u64 0, .int .u64 0, .int .u64 0, .int .u64 0, .int .u64 0]) 8 64 := ⟨by kernel_rfl, by kernel_rfl, by decide⟩
instance el85 : ElemT Try.prog 85 (.agg #[.bool false, .int .u64 0, .int .u64 0, .int .u64 0, .int .u64 0, .int .u64 0, .int .u64 0, .int .u64 0, .int .u64 0, .bool false, .int .u64 0, .int .u64 0, .int .u64 0, .int .u64 0, .int .u64 0, .int .u64 0, .int .u64 0, .int .u64 0, .int .u64 0, .int .u64 0, .int .u64 0, .int .u64 0, .int .u64 0, .int .u64 0, .int .u64 0, .int .u64 0]) 26 208 := ⟨by kernel_rfl, by kernel_rfl, by decide⟩
instance el89 : ElemT Try.prog 89 (.agg #[.bool false, .int .u64 0, .int .u64 0, .int .u64 0, .int .u64 0, .int .u64 0, .int .u64 0, .int .u64 0, .int .u64 0, .int .u64 0, .int .u64 0, .int .u64 0, .int .u64 0, .int .u64 0, .int .u64 0, .int .u64 0, .int .u64 0]) 17 136 := ⟨by kernel_rfl, by kernel_rfl, by decide⟩
instance el130 : ElemT Try.prog 130 (.agg #[.int .i64 0, .int .i64 0, .bool false]) 3 24 := ⟨by kernel_rfl, by kernel_rfl, by decide⟩
instance el145 : ElemT Try.prog 145 (.slice none 0 0) 1 24 := ⟨by kernel_rfl, by kernel_rfl, by decide⟩
instance el147 : ElemT Try.prog 147 (.agg #[.int .i64 0, .bool false, .int .i64 0]) 3 24 := ⟨by kernel_rfl, by kernel_rfl, by decide⟩
instance de3 : DescT Try.prog 3 (.int .i64) := ⟨by kernel_rfl⟩
instance de4 : DescT Try.prog 4 .bool := ⟨by kernel_rfl⟩
instance de5 : DescT Try.prog 5 (.int .u8) := ⟨by kernel_rfl⟩
instance de25 : DescT Try.prog 25 (.int .i64) := ⟨by kernel_rfl⟩
instance de48 : DescT Try.prog 48 (.slice 130) := ⟨by kernel_rfl⟩
instance de79 : DescT Try.prog 79 (.int .u64) := ⟨by kernel_rfl⟩
instance de81 : DescT Try.prog 81 (.array 8 79) := ⟨by kernel_rfl⟩
instance de176 : DescT Try.prog 176 (.int .u64) := ⟨by kernel_rfl⟩
instance de237 : DescT Try.prog 237 (.map 3 241) := ⟨by kernel_rfl⟩
instance de239 : DescT Try.prog 239 (.map 3 4) := ⟨by kernel_rfl⟩
instance ze30 : ZeroT Try.prog 30 (.agg #[.int .i64 0, .int .i64 0]) := ⟨fun _ => by kernel_rfl⟩
instance ze44 : ZeroT Try.prog 44 (.agg #[.slice none 0 0, .slice none 0 0, .slice none 0 0]) := ⟨fun _ => by kernel_rfl⟩
instance ze46 : ZeroT Try.prog 46 (.agg #[.int .i64 0, .int .i64 0]) := ⟨fun _ => by kernel_rfl⟩
instance ze50 : ZeroT Try.prog 50 (.agg #[.slice none 0 0, .int .i64 0]) := ⟨fun _ => by kernel_rfl⟩
instance ze52 : ZeroT Try.prog 52 (.agg #[.int .i64 0, .slice none 0 0]) := ⟨fun _ => by kernel_rfl⟩
instance ze63 : ZeroT Try.prog 63 (.agg #[.int .i64 0, .int .i64 0]) := ⟨fun _ => by kernel_rfl⟩
instance ze66 : ZeroT Try.prog 66 (.agg #[.int .i64 0, .int .i64 0, .int .i64 0, .bool false, .bool false]) := ⟨fun _ => by kernel_rfl⟩
instance ze74 : ZeroT Try.prog 74 (.agg #[.int .i64 0, .int .i64 0]) := ⟨fun _ => by kernel_rfl⟩
instance ze76 : ZeroT Try.prog 76 (.agg #[.int .i64 0, .int .i64 0, .int .i64 0, .int .i64 0]) := ⟨fun _ => by kernel_rfl⟩
instance ze81 : ZeroT Try.prog 81 (.agg #[.int .u64 0, .int .u64 0, .int .u64 0, .int .u64 0, .int .u64 0, .int .u64 0, .int .u64 0, .int .u64 0]) := ⟨fun _ => by kernel_rfl⟩
instance ze83 : ZeroT Try.prog 83 (.agg #[.bool false, .int .u64 0, .int .u64 0, .int .u64 0, .int .u64 0, .int .u64 0, .int .u64 0, .int .u64 0, .int .u64 0]) := ⟨fun _ => by kernel_rfl⟩
instance ze85 : ZeroT Try.prog 85 (.agg #[.bool false, .int .u64 0, .int .u64 0, .int .u64 0, .int .u64 0, .int .u64 0, .int .u64 0, .int .u64 0, .int .u64 0, .bool false, .int .u64 0, .int .u64 0, .int .u64 0, .int .u64 0, .int .u64 0, .int .u64 0, .int .u64 0, .int .u64 0, .int .u64 0, .int .u64 0, .int .u64 0, .int .u64 0, .int .u64 0, .int .u64 0, .int .u64 0, .int .u64 0]) := ⟨fun _ => by kernel_rfl⟩
instance ze89 : ZeroT Try.prog 89 (.agg #[.bool false, .int .u64 0, .int .u64 0, .int .u64 0, .int .u64 0, .int .u64 0, .int .u64 0, .int .u64 0, .int .u64 0, .int .u64 0, .int .u64 0, .int .u64 0, .int .u64 0, .int .u64 0, .int .u64 0, .int .u64 0, .int .u64 0]) := ⟨fun _ => by kernel_rfl⟩
instance ze99 : ZeroT Try.prog 99 (.agg #[.bool false, .slice none 0 0]) := ⟨fun _ => by kernel_rfl⟩
instance ze102 : ZeroT Try.prog 102 (.agg #[.bool false, .slice none 0 0, .bool false, .slice none 0 0]) := ⟨fun _ => by kernel_rfl⟩
instance ze112 : ZeroT Try.prog 112 (.agg #[.int .i64 0, .int .i64 0, .int .i64 0, .int .i64 0, .int .i64 0, .slice none 0 0]) := ⟨fun _ => by kernel_rfl⟩
instance ze118 : ZeroT Try.prog 118 (.agg #[.slice none 0 0, .slice none 0 0, .slice none 0 0]) := ⟨fun _ => by kernel_rfl⟩
instance ze130 : ZeroT Try.prog 130 (.agg #[.int .i64 0, .int .i64 0, .bool false]) := ⟨fun _ => by kernel_rfl⟩
instance ze147 : ZeroT Try.prog 147 (.agg #[.int .i64 0, .bool false, .int .i64 0]) := ⟨fun _ => by kernel_rfl⟩
instance ze203 : ZeroT Try.prog 203 (.agg #[.int .i64 0, .int .i64 0]) := ⟨fun _ => by kernel_rfl⟩
instance ze212 : ZeroT Try.prog 212 (.agg #[.bool false, .int .u64 0, .int .u64 0, .int .u64 0, .int .u64 0, .int .u64 0, .int .u64 0, .int .u64 0, .int .u64 0, .bool false, .int .u64 0, .int .u64 0, .int .u64 0, .int .u64 0, .int .u64 0, .int .u64 0, .int .u64 0, .int .u64 0]) := ⟨fun _ => by kernel_rfl⟩
instance ze241 : ZeroT Try.prog 241 (.agg #[.map none, .map none]) := ⟨fun _ => by kernel_rfl⟩
instance ze3 : ZeroT Try.prog 3 (.int .i64 0) := ⟨fun _ => by kernel_rfl⟩
instance ze4 : ZeroT Try.prog 4 (.bool false) := ⟨fun _ => by kernel_rfl⟩
instance ze24 : ZeroT Try.prog 24 (.slice none 0 0) := ⟨fun _ => by kernel_rfl⟩
instance ze60 : ZeroT Try.prog 60 (.slice none 0 0) := ⟨fun _ => by kernel_rfl⟩
instance ze79 : ZeroT Try.prog 79 (.int .u64 0) := ⟨fun _ => by kernel_rfl⟩
instance ze145 : ZeroT Try.prog 145 (.slice none 0 0) := ⟨fun _ => by kernel_rfl⟩
instance fi44_0 : FieldT Try.prog 44 0 0 := ⟨fun _ _ => by kernel_rfl⟩
instance fi44_1 : FieldT Try.prog 44 1 1 := ⟨fun _ _ => by kernel_rfl⟩
instance fi44_2 : FieldT Try.prog 44 2 2 := ⟨fun _ _ => by kernel_rfl⟩
instance fi46_0 : FieldT Try.prog 46 0 0 := ⟨fun _ _ => by kernel_rfl⟩
instance fi46_1 : FieldT Try.prog 46 1 1 := ⟨fun _ _ => by kernel_rfl⟩
instance fi50_0 : FieldT Try.prog 50 0 0 := ⟨fun _ _ => by kernel_rfl⟩
instance fi50_1 : FieldT Try.prog 50 1 1 := ⟨fun _ _ => by kernel_rfl⟩
instance fi52_0 : FieldT Try.prog 52 0 0 := ⟨fun _ _ => by kernel_rfl⟩
instance fi52_1 : FieldT Try.prog 52 1 1 := ⟨fun _ _ => by kernel_rfl⟩
instance fi63_0 : FieldT Try.prog 63 0 0 := ⟨fun _ _ => by kernel_rfl⟩
instance fi63_1 : FieldT Try.prog 63 1 1 := ⟨fun _ _ => by kernel_rfl⟩
instance fi66_0 : FieldT Try.prog 66 0 0 := ⟨fun _ _ => by kernel_rfl⟩
instance fi66_1 : FieldT Try.prog 66 1 1 := ⟨fun _ _ => by kernel_rfl⟩
instance fi66_2 : FieldT Try.prog 66 2 2 := ⟨fun _ _ => by kernel_rfl⟩
instance fi66_3 : FieldT Try.prog 66 3 3 := ⟨fun _ _ => by kernel_rfl⟩
instance fi66_4 : FieldT Try.prog 66 4 4 := ⟨fun _ _ => by kernel_rfl⟩
instance fi74_0 : FieldT Try.prog 74 0 0 := ⟨fun _ _ => by kernel_rfl⟩
instance fi74_1 : FieldT Try.prog 74 1 1 := ⟨fun _ _ => by kernel_rfl⟩
instance fi76_0 : FieldT Try.prog 76 0 0 := ⟨fun _ _ => by kernel_rfl⟩
instance fi76_1 : FieldT Try.prog 76 1 2 := ⟨fun _ _ => by kernel_rfl⟩
instance fi83_0 : FieldT Try.prog 83 0 0 := ⟨fun _ _ => by kernel_rfl⟩
instance fi83_1 : FieldT Try.prog 83 1 1 := ⟨fun _ _ => by kernel_rfl⟩
instance fi85_0 : FieldT Try.prog 85 0 0 := ⟨fun _ _ => by kernel_rfl⟩
instance fi85_1 : FieldT Try.prog 85 1 9 := ⟨fun _ _ => by kernel_rfl⟩
instance fi85_2 : FieldT Try.prog 85 2 18 := ⟨fun _ _ => by kernel_rfl⟩
instance fi89_0 : FieldT Try.prog 89 0 0 := ⟨fun _ _ => by kernel_rfl⟩
instance fi89_1 : FieldT Try.prog 89 1 9 := ⟨fun _ _ => by kernel_rfl⟩
instance fi99_0 : FieldT Try.prog 99 0 0 := ⟨fun _ _ => by kernel_rfl⟩
instance fi99_1 : FieldT Try.prog 99 1 1 := ⟨fun _ _ => by kernel_rfl⟩
instance fi102_0 : FieldT Try.prog 102 0 0 := ⟨fun _ _ => by kernel_rfl⟩
instance fi102_1 : FieldT Try.prog 102 1 2 := ⟨fun _ _ => by kernel_rfl⟩
instance fi112_0 : FieldT Try.prog 112 0 0 := ⟨fun _ _ => by kernel_rfl⟩
instance fi112_1 : FieldT Try.prog 112 1 2 := ⟨fun _ _ => by kernel_rfl⟩
instance fi112_2 : FieldT Try.prog 112 2 3 := ⟨fun _ _ => by kernel_rfl⟩
instance fi112_3 : FieldT Try.prog 112 3 4 := ⟨fun _ _ => by kernel_rfl⟩
instance fi112_4 : FieldT Try.prog 112 4 5 := ⟨fun _ _ => by kernel_rfl⟩
instance fi118_0 : FieldT Try.prog 118 0 0 := ⟨fun _ _ => by kernel_rfl⟩
instance fi118_1 : FieldT Try.prog 118 1 1 := ⟨fun _ _ => by kernel_rfl⟩
instance fi118_2 : FieldT Try.prog 118 2 2 := ⟨fun _ _ => by kernel_rfl⟩
instance fi130_0 : FieldT Try.prog 130 0 0 := ⟨fun _ _ => by kernel_rfl⟩
instance fi130_1 : FieldT Try.prog 130 1 1 := ⟨fun _ _ => by kernel_rfl⟩
instance fi130_2 : FieldT Try.prog 130 2 2 := ⟨fun _ _ => by kernel_rfl⟩
instance fi147_0 : FieldT Try.prog 147 0 0 := ⟨fun _ _ => by kernel_rfl⟩
instance fi147_2 : FieldT Try.prog 147 2 2 := ⟨fun _ _ => by kernel_rfl⟩
instance fi203_0 : FieldT Try.prog 203 0 0 := ⟨fun _ _ => by kernel_rfl⟩
instance fi203_1 : FieldT Try.prog 203 1 1 := ⟨fun _ _ => by kernel_rfl⟩
instance fi212_0 : FieldT Try.prog 212 0 0 := ⟨fun _ _ => by kernel_rfl⟩
instance fi212_1 : FieldT Try.prog 212 1 9 := ⟨fun _ _ => by kernel_rfl⟩
instance fi241_0 : FieldT Try.prog 241 0 0 := ⟨fun _ _ => by kernel_rfl⟩
instance fi241_1 : FieldT Try.prog 241 1 1 := ⟨fun _ _ => by kernel_rfl⟩
instance hb16 : HasBody Try.prog 16 := ⟨_, Try.func16, by kernel_rfl, by kernel_rfl⟩
instance hb17 : HasBody Try.prog 17 := ⟨_, Try.func17, by kernel_rfl, by kernel_rfl⟩
instance hb18 : HasBody Try.prog 18 := ⟨_, Try.func18, by kernel_rfl, by kernel_rfl⟩
instance hb19 : HasBody Try.prog 19 := ⟨_, Try.func19, by kernel_rfl, by kernel_rfl⟩
instance hb20 : HasBody Try.prog 20 := ⟨_, Try.func20, by kernel_rfl, by kernel_rfl⟩
instance hb21 : HasBody Try.prog 21 := ⟨_, Try.func21, by kernel_rfl, by kernel_rfl⟩
instance hb22 : HasBody Try.prog 22 := ⟨_, Try.func22, by kernel_rfl, by kernel_rfl⟩
instance hb23 : HasBody Try.prog 23 := ⟨_, Try.func23, by kernel_rfl, by kernel_rfl⟩
instance hb24 : HasBody Try.prog 24 := ⟨_, Try.func24, by kernel_rfl, by kernel_rfl⟩
instance hb25 : HasBody Try.prog 25 := ⟨_, Try.func25, by kernel_rfl, by kernel_rfl⟩
instance hb26 : HasBody Try.prog 26 := ⟨_, Try.func26, by kernel_rfl, by kernel_rfl⟩
instance hb27 : HasBody Try.prog 27 := ⟨_, Try.func27, by kernel_rfl, by kernel_rfl⟩
instance hb28 : HasBody Try.prog 28 := ⟨_, Try.func28, by kernel_rfl, by kernel_rfl⟩
instance hb29 : HasBody Try.prog 29 := ⟨_, Try.func29, by kernel_rfl, by kernel_rfl⟩
instance hb30 : HasBody Try.prog 30 := ⟨_, Try.func30, by kernel_rfl, by kernel_rfl⟩
instance hb31 : HasBody Try.prog 31 := ⟨_, Try.func31, by kernel_rfl, by kernel_rfl⟩
instance hb32 : HasBody Try.prog 32 := ⟨_, Try.func32, by kernel_rfl, by kernel_rfl⟩
instance hb33 : HasBody Try.prog 33 := ⟨_, Try.func33, by kernel_rfl, by kernel_rfl⟩
instance hb34 : HasBody Try.prog 34 := ⟨_, Try.func34, by kernel_rfl, by kernel_rfl⟩
instance hb35 : HasBody Try.prog 35 := ⟨_, Try.func35, by kernel_rfl, by kernel_rfl⟩
instance hb36 : HasBody Try.prog 36 := ⟨_, Try.func36, by kernel_rfl, by kernel_rfl⟩
instance hb37 : HasBody Try.prog 37 := ⟨_, Try.func37, by kernel_rfl, by kernel_rfl⟩
instance hb38 : HasBody Try.prog 38 := ⟨_, Try.func38, by kernel_rfl, by kernel_rfl⟩
instance hb39 : HasBody Try.prog 39 := ⟨_, Try.func39, by kernel_rfl, by kernel_rfl⟩
instance hb40 : HasBody Try.prog 40 := ⟨_, Try.func40, by kernel_rfl, by kernel_rfl⟩
instance hb41 : HasBody Try.prog 41 := ⟨_, Try.func41, by kernel_rfl, by kernel_rfl⟩
instance hb42 : HasBody Try.prog 42 := ⟨_, Try.func42, by kernel_rfl, by kernel_rfl⟩
instance hb43 : HasBody Try.prog 43 := ⟨_, Try.func43, by kernel_rfl, by kernel_rfl⟩
instance hb44 : HasBody Try.prog 44 := ⟨_, Try.func44, by kernel_rfl, by kernel_rfl⟩
instance hb45 : HasBody Try.prog 45 := ⟨_, Try.func45, by kernel_rfl, by kernel_rfl⟩
instance hb46 : HasBody Try.prog 46 := ⟨_, Try.func46, by kernel_rfl, by kernel_rfl⟩
instance hb47 : HasBody Try.prog 47 := ⟨_, Try.func47, by kernel_rfl, by kernel_rfl⟩
instance hb48 : HasBody Try.prog 48 := ⟨_, Try.func48, by kernel_rfl, by kernel_rfl⟩
instance hb49 : HasBody Try.prog 49 := ⟨_, Try.func49, by kernel_rfl, by kernel_rfl⟩
instance hb50 : HasBody Try.prog 50 := ⟨_, Try.func50, by kernel_rfl, by kernel_rfl⟩
instance hb51 : HasBody Try.prog 51 := ⟨_, Try.func51, by kernel_rfl, by kernel_rfl⟩
instance hb52 : HasBody Try.prog 52 := ⟨_, Try.func52, by kernel_rfl, by kernel_rfl⟩
instance hb53 : HasBody Try.prog 53 := ⟨_, Try.func53, by kernel_rfl, by kernel_rfl⟩
instance hb54 : HasBody Try.prog 54 := ⟨_, Try.func54, by kernel_rfl, by kernel_rfl⟩
instance hb55 : HasBody Try.prog 55 := ⟨_, Try.func55, by kernel_rfl, by kernel_rfl⟩
instance hb56 : HasBody Try.prog 56 := ⟨_, Try.func56, by kernel_rfl, by kernel_rfl⟩
instance hb57 : HasBody Try.prog 57 := ⟨_, Try.func57, by kernel_rfl, by kernel_rfl⟩
instance hb58 : HasBody Try.prog 58 := ⟨_, Try.func58, by kernel_rfl, by kernel_rfl⟩
instance hb59 : HasBody Try.prog 59 := ⟨_, Try.func59, by kernel_rfl, by kernel_rfl⟩
instance hb60 : HasBody Try.prog 60 := ⟨_, Try.func60, by kernel_rfl, by kernel_rfl⟩
instance hb61 : HasBody Try.prog 61 := ⟨_, Try.func61, by kernel_rfl, by kernel_rfl⟩
instance hb62 : HasBody Try.prog 62 := ⟨_, Try.func62, by kernel_rfl, by kernel_rfl⟩
instance hb63 : HasBody Try.prog 63 := ⟨_, Try.func63, by kernel_rfl, by kernel_rfl⟩
instance hb64 : HasBody Try.prog 64 := ⟨_, Try.func64, by kernel_rfl, by kernel_rfl⟩
instance hb65 : HasBody Try.prog 65 := ⟨_, Try.func65, by kernel_rfl, by kernel_rfl⟩
instance hb66 : HasBody Try.prog 66 := ⟨_, Try.func66, by kernel_rfl, by kernel_rfl⟩
instance hb67 : HasBody Try.prog 67 := ⟨_, Try.func67, by kernel_rfl, by kernel_rfl⟩
instance hb68 : HasBody Try.prog 68 := ⟨_, Try.func68, by kernel_rfl, by kernel_rfl⟩
instance hb69 : HasBody Try.prog 69 := ⟨_, Try.func69, by kernel_rfl, by kernel_rfl⟩
instance hb70 : HasBody Try.prog 70 := ⟨_, Try.func70, by kernel_rfl, by kernel_rfl⟩
instance hb71 : HasBody Try.prog 71 := ⟨_, Try.func71, by kernel_rfl, by kernel_rfl⟩
instance hb72 : HasBody Try.prog 72 := ⟨_, Try.func72, by kernel_rfl, by kernel_rfl⟩
instance hb73 : HasBody Try.prog 73 := ⟨_, Try.func73, by kernel_rfl, by kernel_rfl⟩
instance hb74 : HasBody Try.prog 74 := ⟨_, Try.func74, by kernel_rfl, by kernel_rfl⟩
instance hb75 : HasBody Try.prog 75 := ⟨_, Try.func75, by kernel_rfl, by kernel_rfl⟩
instance hb76 : HasBody Try.prog 76 := ⟨_, Try.func76, by kernel_rfl, by kernel_rfl⟩
instance hb77 : HasBody Try.prog 77 := ⟨_, Try.func77, by kernel_rfl, by kernel_rfl⟩
instance hb78 : HasBody Try.prog 78 := ⟨_, Try.func78, by kernel_rfl, by kernel_rfl⟩
instance hb79 : HasBody Try.prog 79 := ⟨_, Try.func79, by kernel_rfl, by kernel_rfl⟩
instance hb80 : HasBody Try.prog 80 := ⟨_, Try.func80, by kernel_rfl, by kernel_rfl⟩
instance hb81 : HasBody Try.prog 81 := ⟨_, Try.func81, by kernel_rfl, by kernel_rfl⟩
instance hb82 : HasBody Try.prog 82 := ⟨_, Try.func82, by kernel_rfl, by kernel_rfl⟩
instance hb83 : HasBody Try.prog 83 := ⟨_, Try.func83, by kernel_rfl, by kernel_rfl⟩
instance hb84 : HasBody Try.prog 84 := ⟨_, Try.func84, by kernel_rfl, by kernel_rfl⟩
instance hb85 : HasBody Try.prog 85 := ⟨_, Try.func85, by kernel_rfl, by kernel_rfl⟩
instance hb86 : HasBody Try.prog 86 := ⟨_, Try.func86, by kernel_rfl, by kernel_rfl⟩
instance hb87 : HasBody Try.prog 87 := ⟨_, Try.func87, by kernel_rfl, by kernel_rfl⟩
instance hb88 : HasBody Try.prog 88 := ⟨_, Try.func88, by kernel_rfl, by kernel_rfl⟩
instance hb89 : HasBody Try.prog 89 := ⟨_, Try.func89, by kernel_rfl, by kernel_rfl⟩
instance hb90 : HasBody Try.prog 90 := ⟨_, Try.func90, by kernel_rfl, by kernel_rfl⟩
instance hb91 : HasBody Try.prog 91 := ⟨_, Try.func91, by kernel_rfl, by kernel_rfl⟩
instance hb92 : HasBody Try.prog 92 := ⟨_, Try.func92, by kernel_rfl, by kernel_rfl⟩
instance hb93 : HasBody Try.prog 93 := ⟨_, Try.func93, by kernel_rfl, by kernel_rfl⟩
instance hb94 : HasBody Try.prog 94 := ⟨_, Try.func94, by kernel_rfl, by kernel_rfl⟩
instance hb95 : HasBody Try.prog 95 := ⟨_, Try.func95, by kernel_rfl, by kernel_rfl⟩
instance hb96 : HasBody Try.prog 96 := ⟨_, Try.func96, by kernel_rfl, by kernel_rfl⟩
instance hb97 : HasBody Try.prog 97 := ⟨_, Try.func97, by kernel_rfl, by kernel_rfl⟩
instance hb98 : HasBody Try.prog 98 := ⟨_, Try.func98, by kernel_rfl, by kernel_rfl⟩
instance hb99 : HasBody Try.prog 99 := ⟨_, Try.func99, by kernel_rfl, by kernel_rfl⟩
instance hb100 : HasBody Try.prog 100 := ⟨_, Try.func100, by kernel_rfl, by kernel_rfl⟩
instance hb101 : HasBody Try.prog 101 := ⟨_, Try.func101, by kernel_rfl, by kernel_rfl⟩
instance hb102 : HasBody Try.prog 102 := ⟨_, Try.func102, by kernel_rfl, by kernel_rfl⟩
instance hb103 : HasBody Try.prog 103 := ⟨_, Try.func103, by kernel_rfl, by kernel_rfl⟩
instance hb104 : HasBody Try.prog 104 := ⟨_, Try.func104, by kernel_rfl, by kernel_rfl⟩
instance hb105 : HasBody Try.prog 105 := ⟨_, Try.func105, by kernel_rfl, by kernel_rfl⟩
instance hb106 : HasBody Try.prog 106 := ⟨_, Try.func106, by kernel_rfl, by kernel_rfl⟩
instance hb107 : HasBody Try.prog 107 := ⟨_, Try.func107, by kernel_rfl, by kernel_rfl⟩
instance hb108 : HasBody Try.prog 108 := ⟨_, Try.func108, by kernel_rfl, by kernel_rfl⟩
instance hb109 : HasBody Try.prog 109 := ⟨_, Try.func109, by kernel_rfl, by kernel_rfl⟩
instance hb110 : HasBody Try.prog 110 := ⟨_, Try.func110, by kernel_rfl, by kernel_rfl⟩
instance hb111 : HasBody Try.prog 111 := ⟨_, Try.func111, by kernel_rfl, by kernel_rfl⟩
instance hb112 : HasBody Try.prog 112 := ⟨_, Try.func112, by kernel_rfl, by kernel_rfl⟩
instance hb113 : HasBody Try.prog 113 := ⟨_, Try.func113, by kernel_rfl, by kernel_rfl⟩
instance hb114 : HasBody Try.prog 114 := ⟨_, Try.func114, by kernel_rfl, by kernel_rfl⟩
instance hb115 : HasBody Try.prog 115 := ⟨_, Try.func115, by kernel_rfl, by kernel_rfl⟩
instance hb116 : HasBody Try.prog 116 := ⟨_, Try.func116, by kernel_rfl, by kernel_rfl⟩
instance hb117 : HasBody Try.prog 117 := ⟨_, Try.func117, by kernel_rfl, by kernel_rfl⟩
instance hb118 : HasBody Try.prog 118 := ⟨_, Try.func118, by kernel_rfl, by kernel_rfl⟩
instance hb119 : HasBody Try.prog 119 := ⟨_, Try.func119, by kernel_rfl, by kernel_rfl⟩
instance hb120 : HasBody Try.prog 120 := ⟨_, Try.func120, by kernel_rfl, by kernel_rfl⟩
instance hb121 : HasBody Try.prog 121 := ⟨_, Try.func121, by kernel_rfl, by kernel_rfl⟩
instance hb122 : HasBody Try.prog 122 := ⟨_, Try.func122, by kernel_rfl, by kernel_rfl⟩
instance hb123 : HasBody Try.prog 123 := ⟨_, Try.func123, by kernel_rfl, by kernel_rfl⟩
instance hb124 : HasBody Try.prog 124 := ⟨_, Try.func124, by kernel_rfl, by kernel_rfl⟩
instance hb125 : HasBody Try.prog 125 := ⟨_, Try.func125, by kernel_rfl, by kernel_rfl⟩
instance hb126 : HasBody Try.prog 126 := ⟨_, Try.func126, by kernel_rfl, by kernel_rfl⟩
instance hb127 : HasBody Try.prog 127 := ⟨_, Try.func127, by kernel_rfl, by kernel_rfl⟩
instance hb128 : HasBody Try.prog 128 := ⟨_, Try.func128, by kernel_rfl, by kernel_rfl⟩
instance hb129 : HasBody Try.prog 129 := ⟨_, Try.func129, by kernel_rfl, by kernel_rfl⟩
instance hb130 : HasBody Try.prog 130 := ⟨_, Try.func130, by kernel_rfl, by kernel_rfl⟩
instance hb131 : HasBody Try.prog 131 := ⟨_, Try.func131, by kernel_rfl, by kernel_rfl⟩
instance hb132 : HasBody Try.prog 132 := ⟨_, Try.func132, by kernel_rfl, by kernel_rfl⟩
instance hb133 : HasBody Try.prog 133 := ⟨_, Try.func133, by kernel_rfl, by kernel_rfl⟩
instance hb134 : HasBody Try.prog 134 := ⟨_, Try.func134, by kernel_rfl, by kernel_rfl⟩
instance hb135 : HasBody Try.prog 135 := ⟨_, Try.func135, by kernel_rfl, by kernel_rfl⟩
instance hb136 : HasBody Try.prog 136 := ⟨_, Try.func136, by kernel_rfl, by kernel_rfl⟩
instance hb137 : HasBody Try.prog 137 := ⟨_, Try.func137, by kernel_rfl, by kernel_rfl⟩
instance hb138 : HasBody Try.prog 138 := ⟨_, Try.func138, by kernel_rfl, by kernel_rfl⟩
instance hb139 : HasBody Try.prog 139 := ⟨_, Try.func139, by kernel_rfl, by kernel_rfl⟩
instance hb140 : HasBody Try.prog 140 := ⟨_, Try.func140, by kernel_rfl, by kernel_rfl⟩
instance hb141 : HasBody Try.prog 141 := ⟨_, Try.func141, by kernel_rfl, by kernel_rfl⟩
instance hb142 : HasBody Try.prog 142 := ⟨_, Try.func142, by kernel_rfl, by kernel_rfl⟩
instance hb143 : HasBody Try.prog 143 := ⟨_, Try.func143, by kernel_rfl, by kernel_rfl⟩
instance hb144 : HasBody Try.prog 144 := ⟨_, Try.func144, by kernel_rfl, by kernel_rfl⟩
instance hb145 : HasBody Try.prog 145 := ⟨_, Try.func145, by kernel_rfl, by kernel_rfl⟩
instance hb146 : HasBody Try.prog 146 := ⟨_, Try.func146, by kernel_rfl, by kernel_rfl⟩
instance hb147 : HasBody Try.prog 147 := ⟨_, Try.func147, by kernel_rfl, by kernel_rfl⟩
instance hb148 : HasBody Try.prog 148 := ⟨_, Try.func148, by kernel_rfl, by kernel_rfl⟩
instance hb149 : HasBody Try.prog 149 := ⟨_, Try.func149, by kernel_rfl, by kernel_rfl⟩
instance hb150 : HasBody Try.prog 150 := ⟨_, Try.func150, by kernel_rfl, by kernel_rfl⟩
instance hb151 : HasBody Try.prog 151 := ⟨_, Try.func151, by kernel_rfl, by kernel_rfl⟩
instance hb152 : HasBody Try.prog 152 := ⟨_, Try.func152, by kernel_rfl, by kernel_rfl⟩
instance hb153 : HasBody Try.prog 153 := ⟨_, Try.func153, by kernel_rfl, by kernel_rfl⟩
instance hb154 : HasBody Try.prog 154 := ⟨_, Try.func154, by kernel_rfl, by kernel_rfl⟩
instance hb155 : HasBody Try.prog 155 := ⟨_, Try.func155, by kernel_rfl, by kernel_rfl⟩
instance hb156 : HasBody Try.prog 156 := ⟨_, Try.func156, by kernel_rfl, by kernel_rfl⟩
instance hb157 : HasBody Try.prog 157 := ⟨_, Try.func157, by kernel_rfl, by kernel_rfl⟩
instance hb158 : HasBody Try.prog 158 := ⟨_, Try.func158, by kernel_rfl, by kernel_rfl⟩
instance hb159 : HasBody Try.prog 159 := ⟨_, Try.func159, by kernel_rfl, by kernel_rfl⟩
instance hb160 : HasBody Try.prog 160 := ⟨_, Try.func160, by kernel_rfl, by kernel_rfl⟩
instance hb161 : HasBody Try.prog 161 := ⟨_, Try.func161, by kernel_rfl, by kernel_rfl⟩
instance hb162 : HasBody Try.prog 162 := ⟨_, Try.func162, by kernel_rfl, by kernel_rfl⟩
instance hb163 : HasBody Try.prog 163 := ⟨_, Try.func163, by kernel_rfl, by kernel_rfl⟩
instance hb164 : HasBody Try.prog 164 := ⟨_, Try.func164, by kernel_rfl, by kernel_rfl⟩
instance hb165 : HasBody Try.prog 165 := ⟨_, Try.func165, by kernel_rfl, by kernel_rfl⟩
instance hb166 : HasBody Try.prog 166 := ⟨_, Try.func166, by kernel_rfl, by kernel_rfl⟩
instance hb167 : HasBody Try.prog 167 := ⟨_, Try.func167, by kernel_rfl, by kernel_rfl⟩
instance hb168 : HasBody Try.prog 168 := ⟨_, Try.func168, by kernel_rfl, by kernel_rfl⟩
instance hb169 : HasBody Try.prog 169 := ⟨_, Try.func169, by kernel_rfl, by kernel_rfl⟩
instance hb170 : HasBody Try.prog 170 := ⟨_, Try.func170, by kernel_rfl, by kernel_rfl⟩
instance hb171 : HasBody Try.prog 171 := ⟨_, Try.func171, by kernel_rfl, by kernel_rfl⟩
instance hb172 : HasBody Try.prog 172 := ⟨_, Try.func172, by kernel_rfl, by kernel_rfl⟩
instance hb173 : HasBody Try.prog 173 := ⟨_, Try.func173, by kernel_rfl, by kernel_rfl⟩
instance hb174 : HasBody Try.prog 174 := ⟨_, Try.func174, by kernel_rfl, by kernel_rfl⟩
instance hb175 : HasBody Try.prog 175 := ⟨_, Try.func175, by kernel_rfl, by kernel_rfl⟩
instance hb176 : HasBody Try.prog 176 := ⟨_, Try.func176, by kernel_rfl, by kernel_rfl⟩
instance hb177 : HasBody Try.prog 177 := ⟨_, Try.func177, by kernel_rfl, by kernel_rfl⟩
instance hb178 : HasBody Try.prog 178 := ⟨_, Try.func178, by kernel_rfl, by kernel_rfl⟩
instance hb179 : HasBody Try.prog 179 := ⟨_, Try.func179, by kernel_rfl, by kernel_rfl⟩
instance hb180 : HasBody Try.prog 180 := ⟨_, Try.func180, by kernel_rfl, by kernel_rfl⟩
instance hb181 : HasBody Try.prog 181 := ⟨_, Try.func181, by kernel_rfl, by kernel_rfl⟩
instance hb182 : HasBody Try.prog 182 := ⟨_, Try.func182, by kernel_rfl, by kernel_rfl⟩
instance hb183 : HasBody Try.prog 183 := ⟨_, Try.func183, by kernel_rfl, by kernel_rfl⟩
instance hb184 : HasBody Try.prog 184 := ⟨_, Try.func184, by kernel_rfl, by kernel_rfl⟩
instance hb185 : HasBody Try.prog 185 := ⟨_, Try.func185, by kernel_rfl, by kernel_rfl⟩
instance hb186 : HasBody Try.prog 186 := ⟨_, Try.func186, by kernel_rfl, by kernel_rfl⟩
instance hb187 : HasBody Try.prog 187 := ⟨_, Try.func187, by kernel_rfl, by kernel_rfl⟩
instance hb188 : HasBody Try.prog 188 := ⟨_, Try.func188, by kernel_rfl, by kernel_rfl⟩
instance hb189 : HasBody Try.prog 189 := ⟨_, Try.func189, by kernel_rfl, by kernel_rfl⟩
instance hb190 : HasBody Try.prog 190 := ⟨_, Try.func190, by kernel_rfl, by kernel_rfl⟩
instance hb191 : HasBody Try.prog 191 := ⟨_, Try.func191, by kernel_rfl, by kernel_rfl⟩
instance hb192 : HasBody Try.prog 192 := ⟨_, Try.func192, by kernel_rfl, by kernel_rfl⟩
instance hb193 : HasBody Try.prog 193 := ⟨_, Try.func193, by kernel_rfl, by kernel_rfl⟩
instance hb194 : HasBody Try.prog 194 := ⟨_, Try.func194, by kernel_rfl, by kernel_rfl⟩
instance hb195 : HasBody Try.prog 195 := ⟨_, Try.func195, by kernel_rfl, by kernel_rfl⟩
instance hb196 : HasBody Try.prog 196 := ⟨_, Try.func196, by kernel_rfl, by kernel_rfl⟩
instance hb197 : HasBody Try.prog 197 := ⟨_, Try.func197, by kernel_rfl, by kernel_rfl⟩
instance hb198 : HasBody Try.prog 198 := ⟨_, Try.func198, by kernel_rfl, by kernel_rfl⟩
instance hb199 : HasBody Try.prog 199 := ⟨_, Try.func199, by kernel_rfl, by kernel_rfl⟩
instance hb200 : HasBody Try.prog 200 := ⟨_, Try.func200, by kernel_rfl, by kernel_rfl⟩
instance hb201 : HasBody Try.prog 201 := ⟨_, Try.func201, by kernel_rfl, by kernel_rfl⟩
instance hb202 : HasBody Try.prog 202 := ⟨_, Try.func202, by kernel_rfl, by kernel_rfl⟩
instance hb203 : HasBody Try.prog 203 := ⟨_, Try.func203, by kernel_rfl, by kernel_rfl⟩
instance hb204 : HasBody Try.prog 204 := ⟨_, Try.func204, by kernel_rfl, by kernel_rfl⟩
instance hb205 : HasBody Try.prog 205 := ⟨_, Try.func205, by kernel_rfl, by kernel_rfl⟩
instance hb206 : HasBody Try.prog 206 := ⟨_, Try.func206, by kernel_rfl, by kernel_rfl⟩
instance hb208 : HasBody Try.prog 208 := ⟨_, Try.func208, by kernel_rfl, by kernel_rfl⟩
instance hb209 : HasBody Try.prog 209 := ⟨_, Try.func209, by kernel_rfl, by kernel_rfl⟩
instance hb210 : HasBody Try.prog 210 := ⟨_, Try.func210, by kernel_rfl, by kernel_rfl⟩
instance hb211 : HasBody Try.prog 211 := ⟨_, Try.func211, by kernel_rfl, by kernel_rfl⟩
instance hb212 : HasBody Try.prog 212 := ⟨_, Try.func212, by kernel_rfl, by kernel_rfl⟩
instance hb213 : HasBody Try.prog 213 := ⟨_, Try.func213, by kernel_rfl, by kernel_rfl⟩
instance hb214 : HasBody Try.prog 214 := ⟨_, Try.func214, by kernel_rfl, by kernel_rfl⟩
instance hb215 : HasBody Try.prog 215 := ⟨_, Try.func215, by kernel_rfl, by kernel_rfl⟩
instance hb216 : HasBody Try.prog 216 := ⟨_, Try.func216, by kernel_rfl, by kernel_rfl⟩
instance hb217 : HasBody Try.prog 217 := ⟨_, Try.func217, by kernel_rfl, by kernel_rfl⟩
instance hb218 : HasBody Try.prog 218 := ⟨_, Try.func218, by kernel_rfl, by kernel_rfl⟩
instance hb219 : HasBody Try.prog 219 := ⟨_, Try.func219, by kernel_rfl, by kernel_rfl⟩
instance hb220 : HasBody Try.prog 220 := ⟨_, Try.func220, by kernel_rfl, by kernel_rfl⟩
instance hb221 : HasBody Try.prog 221 := ⟨_, Try.func221, by kernel_rfl, by kernel_rfl⟩
instance hb222 : HasBody Try.prog 222 := ⟨_, Try.func222, by kernel_rfl, by kernel_rfl⟩
instance hb223 : HasBody Try.prog 223 := ⟨_, Try.func223, by kernel_rfl, by kernel_rfl⟩
instance hb224 : HasBody Try.prog 224 := ⟨_, Try.func224, by kernel_rfl, by kernel_rfl⟩
instance hb225 : HasBody Try.prog 225 := ⟨_, Try.func225, by kernel_rfl, by kernel_rfl⟩
instance hb226 : HasBody Try.prog 226 := ⟨_, Try.func226, by kernel_rfl, by kernel_rfl⟩
instance hb227 : HasBody Try.prog 227 := ⟨_, Try.func227, by kernel_rfl, by kernel_rfl⟩
instance hb228 : HasBody Try.prog 228 := ⟨_, Try.func228, by kernel_rfl, by kernel_rfl⟩
instance hb229 : HasBody Try.prog 229 := ⟨_, Try.func229, by kernel_rfl, by kernel_rfl⟩
instance hb230 : HasBody Try.prog 230 := ⟨_, Try.func230, by kernel_rfl, by kernel_rfl⟩
instance hb231 : HasBody Try.prog 231 := ⟨_, Try.func231, by kernel_rfl, by kernel_rfl⟩
instance hb232 : HasBody Try.prog 232 := ⟨_, Try.func232, by kernel_rfl, by kernel_rfl⟩
instance hb233 : HasBody Try.prog 233 := ⟨_, Try.func233, by kernel_rfl, by kernel_rfl⟩
instance hb234 : HasBody Try.prog 234 := ⟨_, Try.func234, by kernel_rfl, by kernel_rfl⟩
instance hb235 : HasBody Try.prog 235 := ⟨_, Try.func235, by kernel_rfl, by kernel_rfl⟩
instance hb236 : HasBody Try.prog 236 := ⟨_, Try.func236, by kernel_rfl, by kernel_rfl⟩
instance hb237 : HasBody Try.prog 237 := ⟨_, Try.func237, by kernel_rfl, by kernel_rfl⟩
instance hb238 : HasBody Try.prog 238 := ⟨_, Try.func238, by kernel_rfl, by kernel_rfl⟩
instance hb239 : HasBody Try.prog 239 := ⟨_, Try.func239, by kernel_rfl, by kernel_rfl⟩
instance hb240 : HasBody Try.prog 240 := ⟨_, Try.func240, by kernel_rfl, by kernel_rfl⟩
instance hb241 : HasBody Try.prog 241 := ⟨_, Try.func241, by kernel_rfl, by kernel_rfl⟩
instance hb242 : HasBody Try.prog 242 := ⟨_, Try.func242, by kernel_rfl, by kernel_rfl⟩
instance hb245 : HasBody Try.prog 245 := ⟨_, Try.func245, by kernel_rfl, by kernel_rfl⟩
instance hb246 : HasBody Try.prog 246 := ⟨_, Try.func246, by kernel_rfl, by kernel_rfl⟩
instance hb247 : HasBody Try.prog 247 := ⟨_, Try.func247, by kernel_rfl, by kernel_rfl⟩
instance hb248 : HasBody Try.prog 248 := ⟨_, Try.func248, by kernel_rfl, by kernel_rfl⟩
instance hb249 : HasBody Try.prog 249 := ⟨_, Try.func249, by kernel_rfl, by kernel_rfl⟩
instance hb250 : HasBody Try.prog 250 := ⟨_, Try.func250, by kernel_rfl, by kernel_rfl⟩
instance hb251 : HasBody Try.prog 251 := ⟨_, Try.func251, by kernel_rfl, by kernel_rfl⟩
instance hb252 : HasBody Try.prog 252 := ⟨_, Try.func252, by kernel_rfl, by kernel_rfl⟩
theorem mixed : Try.prog.follows .mixedOrders = true := by kernel_rfl
end Go.Proofs.Ytoainfnhmdcpoaa.R
