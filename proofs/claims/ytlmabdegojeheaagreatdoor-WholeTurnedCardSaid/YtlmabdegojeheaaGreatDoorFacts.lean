/- WholeTurned: parts of its proof (Facts). -/
import Derived.Test.YtlmabdegojeheaaGreatDoorMemOwn
import Derived.Test.YtlmabdegojeheaaGreatDoorChecked
namespace Go.Proofs.YtlmabdegojeheaaGreatDoor
open R
namespace R
instance kt3:aG Tryz.prog 3 false:=⟨by kernel_rfl⟩
instance sz3:dP Tryz.prog 3 1:=⟨by kernel_rfl⟩
instance kt4:aG Tryz.prog 4 false:=⟨by kernel_rfl⟩
instance sz4:dP Tryz.prog 4 1:=⟨by kernel_rfl⟩
instance kt9:aG Tryz.prog 9 false:=⟨by kernel_rfl⟩
instance sz9:dP Tryz.prog 9 1:=⟨by kernel_rfl⟩
instance aij:aG Tryz.prog 27 false:=⟨by kernel_rfl⟩
instance aik:dP Tryz.prog 27 1:=⟨by kernel_rfl⟩
instance ail:aG Tryz.prog 28 false:=⟨by kernel_rfl⟩
instance aim:dP Tryz.prog 28 1:=⟨by kernel_rfl⟩
instance ain:aG Tryz.prog 30 true:=⟨by kernel_rfl⟩
instance aio:dP Tryz.prog 30 4:=⟨by kernel_rfl⟩
instance aip:aG Tryz.prog 32 true:=⟨by kernel_rfl⟩
instance aiq:dP Tryz.prog 32 2:=⟨by kernel_rfl⟩
instance air:aG Tryz.prog 34 false:=⟨by kernel_rfl⟩
instance ais:dP Tryz.prog 34 1:=⟨by kernel_rfl⟩
instance ait:aG Tryz.prog 35 false:=⟨by kernel_rfl⟩
instance aiu:dP Tryz.prog 35 1:=⟨by kernel_rfl⟩
instance aiv:aG Tryz.prog 36 false:=⟨by kernel_rfl⟩
instance aiw:dP Tryz.prog 36 1:=⟨by kernel_rfl⟩
instance aix:aG Tryz.prog 38 true:=⟨by kernel_rfl⟩
instance aiy:dP Tryz.prog 38 3:=⟨by kernel_rfl⟩
instance aiz:aG Tryz.prog 56 true:=⟨by kernel_rfl⟩
instance aiA:dP Tryz.prog 56 4:=⟨by kernel_rfl⟩
instance aiB:aG Tryz.prog 58 true:=⟨by kernel_rfl⟩
instance aiC:dP Tryz.prog 58 8:=⟨by kernel_rfl⟩
instance aiD:aG Tryz.prog 65 false:=⟨by kernel_rfl⟩
instance aiE:aG Tryz.prog 67 false:=⟨by kernel_rfl⟩
instance aiF:aG Tryz.prog 69 false:=⟨by kernel_rfl⟩
instance aiG:dP Tryz.prog 69 1:=⟨by kernel_rfl⟩
instance aiH:aG Tryz.prog 71 true:=⟨by kernel_rfl⟩
instance aiI:dP Tryz.prog 71 2:=⟨by kernel_rfl⟩
instance aiJ:aG Tryz.prog 73 true:=⟨by kernel_rfl⟩
instance aiK:dP Tryz.prog 73 5:=⟨by kernel_rfl⟩
instance aiL:aG Tryz.prog 76 false:=⟨by kernel_rfl⟩
instance aiM:dP Tryz.prog 76 1:=⟨by kernel_rfl⟩
instance aiN:aG Tryz.prog 82 true:=⟨by kernel_rfl⟩
instance aiO:dP Tryz.prog 82 5:=⟨by kernel_rfl⟩
instance aiP:aG Tryz.prog 84 false:=⟨by kernel_rfl⟩
instance ae9:aG Tryz.prog 104 true:=⟨by kernel_rfl⟩
instance afa:dP Tryz.prog 104 2:=⟨by kernel_rfl⟩
instance afb:aG Tryz.prog 107 false:=⟨by kernel_rfl⟩
instance afc:dP Tryz.prog 107 1:=⟨by kernel_rfl⟩
instance afd:aG Tryz.prog 109 true:=⟨by kernel_rfl⟩
instance afe:dP Tryz.prog 109 8:=⟨by kernel_rfl⟩
instance aff:aG Tryz.prog 111 true:=⟨by kernel_rfl⟩
instance afg:dP Tryz.prog 111 9:=⟨by kernel_rfl⟩
instance afh:aG Tryz.prog 113 true:=⟨by kernel_rfl⟩
instance afi:dP Tryz.prog 113 26:=⟨by kernel_rfl⟩
instance afj:aG Tryz.prog 115 true:=⟨by kernel_rfl⟩
instance afk:dP Tryz.prog 115 28:=⟨by kernel_rfl⟩
instance afl:aG Tryz.prog 127 true:=⟨by kernel_rfl⟩
instance afm:dP Tryz.prog 127 3:=⟨by kernel_rfl⟩
instance afn:aG Tryz.prog 146 true:=⟨by kernel_rfl⟩
instance afo:dP Tryz.prog 146 5:=⟨by kernel_rfl⟩
instance afp:aG Tryz.prog 152 true:=⟨by kernel_rfl⟩
instance afq:dP Tryz.prog 152 8:=⟨by kernel_rfl⟩
instance afr:aG Tryz.prog 176 false:=⟨by kernel_rfl⟩
instance afs:dP Tryz.prog 176 1:=⟨by kernel_rfl⟩
instance aft:aG Tryz.prog 532 false:=⟨by kernel_rfl⟩
instance afu:aG Tryz.prog 653 true:=⟨by kernel_rfl⟩
instance afv:dP Tryz.prog 653 18:=⟨by kernel_rfl⟩
instance aiQ:bq Tryz.prog 22 30 4:=⟨by kernel_rfl,by kernel_rfl⟩
instance aiR:bq Tryz.prog 27 32 2:=⟨by kernel_rfl,by kernel_rfl⟩
instance aiS:bq Tryz.prog 28 3 1:=⟨by kernel_rfl,by kernel_rfl⟩
instance aiT:bq Tryz.prog 34 113 26:=⟨by kernel_rfl,by kernel_rfl⟩
instance aiU:bq Tryz.prog 35 82 5:=⟨by kernel_rfl,by kernel_rfl⟩
instance aiV:bq Tryz.prog 36 84 1:=⟨by kernel_rfl,by kernel_rfl⟩
instance aiW:bq Tryz.prog 51 58 8:=⟨by kernel_rfl,by kernel_rfl⟩
instance aiX:bq Tryz.prog 54 56 4:=⟨by kernel_rfl,by kernel_rfl⟩
instance aiY:bq Tryz.prog 59 69 1:=⟨by kernel_rfl,by kernel_rfl⟩
instance aiZ:bq Tryz.prog 66 67 1:=⟨by kernel_rfl,by kernel_rfl⟩
instance ai0:bq Tryz.prog 67 73 5:=⟨by kernel_rfl,by kernel_rfl⟩
instance ai1:bq Tryz.prog 69 115 28:=⟨by kernel_rfl,by kernel_rfl⟩
instance ai2:bq Tryz.prog 76 71 2:=⟨by kernel_rfl,by kernel_rfl⟩
instance ai3:bq Tryz.prog 84 127 3:=⟨by kernel_rfl,by kernel_rfl⟩
instance afw:bq Tryz.prog 100 104 2:=⟨by kernel_rfl,by kernel_rfl⟩
instance afx:FU Tryz.prog 104 2 3 1:=⟨by kernel_rfl,by kernel_rfl⟩
instance afy:FU Tryz.prog 109 8 107 1:=⟨by kernel_rfl,by kernel_rfl⟩
instance afz:bq Tryz.prog 143 146 5:=⟨by kernel_rfl,by kernel_rfl⟩
instance afA:bq Tryz.prog 176 9 1:=⟨by kernel_rfl,by kernel_rfl⟩
instance afB:bq Tryz.prog 206 109 8:=⟨by kernel_rfl,by kernel_rfl⟩
instance ty3:dQ Tryz.prog 3 .i:=⟨trivial⟩
instance ty4:dQ Tryz.prog 4 .b:=⟨trivial⟩
instance ty5:dQ Tryz.prog 5 .i:=⟨trivial⟩
instance ai4:dQ Tryz.prog 22 .s:=⟨trivial⟩
instance ai5:dQ Tryz.prog 24 .i:=⟨trivial⟩
instance ai6:dQ Tryz.prog 27 .s:=⟨trivial⟩
instance ai7:dQ Tryz.prog 28 .s:=⟨trivial⟩
instance ai8:dQ Tryz.prog 32 .a:=⟨trivial⟩
instance ai9:dQ Tryz.prog 34 .s:=⟨trivial⟩
instance aja:dQ Tryz.prog 36 .s:=⟨trivial⟩
instance ajb:dQ Tryz.prog 38 .a:=⟨trivial⟩
instance ajc:dQ Tryz.prog 39 .t:=⟨trivial⟩
instance ajd:dQ Tryz.prog 41 .t:=⟨trivial⟩
instance aje:dQ Tryz.prog 43 .t:=⟨trivial⟩
instance ajf:dQ Tryz.prog 50 .f:=⟨trivial⟩
instance ajg:dQ Tryz.prog 51 .s:=⟨trivial⟩
instance ajh:dQ Tryz.prog 52 .t:=⟨trivial⟩
instance aji:dQ Tryz.prog 54 .s:=⟨trivial⟩
instance ajj:dQ Tryz.prog 59 .s:=⟨trivial⟩
instance ajk:dQ Tryz.prog 60 .t:=⟨trivial⟩
instance ajl:dQ Tryz.prog 62 .m:=⟨trivial⟩
instance ajm:dQ Tryz.prog 63 .t:=⟨trivial⟩
instance ajn:dQ Tryz.prog 65 .m:=⟨trivial⟩
instance ajo:dQ Tryz.prog 66 .s:=⟨trivial⟩
instance ajp:dQ Tryz.prog 67 .s:=⟨trivial⟩
instance ajq:dQ Tryz.prog 69 .s:=⟨trivial⟩
instance ajr:dQ Tryz.prog 75 .m:=⟨trivial⟩
instance ajs:dQ Tryz.prog 76 .s:=⟨trivial⟩
instance ajt:dQ Tryz.prog 79 .f:=⟨trivial⟩
instance aju:dQ Tryz.prog 82 .a:=⟨trivial⟩
instance ajv:dQ Tryz.prog 83 .f:=⟨trivial⟩
instance ajw:dQ Tryz.prog 84 .s:=⟨trivial⟩
instance afC:dQ Tryz.prog 100 .s:=⟨trivial⟩
instance afD:dQ Tryz.prog 101 .t:=⟨trivial⟩
instance afE:dQ Tryz.prog 107 .i:=⟨trivial⟩
instance afF:dQ Tryz.prog 109 .a:=⟨trivial⟩
instance afG:dQ Tryz.prog 111 .a:=⟨trivial⟩
instance afH:dQ Tryz.prog 113 .a:=⟨trivial⟩
instance afI:dQ Tryz.prog 115 .a:=⟨trivial⟩
instance afJ:dQ Tryz.prog 116 .t:=⟨trivial⟩
instance afK:dQ Tryz.prog 120 .t:=⟨trivial⟩
instance afL:dQ Tryz.prog 129 .f:=⟨trivial⟩
instance afM:dQ Tryz.prog 133 .f:=⟨trivial⟩
instance afN:dQ Tryz.prog 134 .f:=⟨trivial⟩
instance afO:dQ Tryz.prog 143 .s:=⟨trivial⟩
instance afP:dQ Tryz.prog 154 .t:=⟨trivial⟩
instance afQ:dQ Tryz.prog 159 .f:=⟨trivial⟩
instance afR:dQ Tryz.prog 162 .f:=⟨trivial⟩
instance afS:dQ Tryz.prog 164 .f:=⟨trivial⟩
instance afT:dQ Tryz.prog 167 .t:=⟨trivial⟩
instance afU:dQ Tryz.prog 172 .i:=⟨trivial⟩
instance afV:dQ Tryz.prog 187 .f:=⟨trivial⟩
instance afW:dQ Tryz.prog 188 .t:=⟨trivial⟩
instance afX:dQ Tryz.prog 193 .t:=⟨trivial⟩
instance afY:dQ Tryz.prog 195 .t:=⟨trivial⟩
instance afZ:dQ Tryz.prog 202 .t:=⟨trivial⟩
instance af0:dQ Tryz.prog 222 .t:=⟨trivial⟩
instance af1:dQ Tryz.prog 284 .t:=⟨trivial⟩
instance af2:dQ Tryz.prog 290 .t:=⟨trivial⟩
instance af3:dQ Tryz.prog 292 .t:=⟨trivial⟩
instance af4:dQ Tryz.prog 331 .t:=⟨trivial⟩
instance af5:dQ Tryz.prog 333 .t:=⟨trivial⟩
instance af6:dQ Tryz.prog 377 .t:=⟨trivial⟩
instance af7:dQ Tryz.prog 582 .t:=⟨trivial⟩
instance el3:cV Tryz.prog 3 (.int .i64 0) 1 8:=⟨by kernel_rfl,by kernel_rfl,by decide⟩
instance ajx:cV Tryz.prog 30 (.agg #[.int .i64 0,.slice none 0 0,.slice none 0 0,.bool false]) 4 64:=⟨by kernel_rfl,by kernel_rfl,by decide⟩
instance ajy:cV Tryz.prog 32 (.agg #[.int .i64 0,.int .i64 0]) 2 16:=⟨by kernel_rfl,by kernel_rfl,by decide⟩
instance ajz:cV Tryz.prog 56 (.agg #[.int .i64 0,.int .i64 0,.int .i64 0,.int .i64 0]) 4 32:=⟨by kernel_rfl,by kernel_rfl,by decide⟩
instance ajA:cV Tryz.prog 58 (.agg #[.int .i64 0,.int .i64 0,.int .i64 0,.int .i64 0,.int .i64 0,.int .i64 0,.int .i64 0,.bool false]) 8 64:=⟨by kernel_rfl,by kernel_rfl,by decide⟩
instance ajB:cV Tryz.prog 67 (.slice none 0 0) 1 24:=⟨by kernel_rfl,by kernel_rfl,by decide⟩
instance ajC:cV Tryz.prog 69 (.slice none 0 0) 1 24:=⟨by kernel_rfl,by kernel_rfl,by decide⟩
instance ajD:cV Tryz.prog 71 (.agg #[.int .i64 0,.int .i64 0]) 2 16:=⟨by kernel_rfl,by kernel_rfl,by decide⟩
instance ajE:cV Tryz.prog 73 (.agg #[.int .i64 0,.int .i64 0,.bool false,.int .i64 0,.bool false]) 5 40:=⟨by kernel_rfl,by kernel_rfl,by decide⟩
instance ajF:cV Tryz.prog 82 (.agg #[.int .i64 0,.int .i64 0,.int .i64 0,.bool false,.bool false]) 5 32:=⟨by kernel_rfl,by kernel_rfl,by decide⟩
instance ajG:cV Tryz.prog 84 (.slice none 0 0) 1 24:=⟨by kernel_rfl,by kernel_rfl,by decide⟩
instance af8:cV Tryz.prog 104 (.agg #[.int .i64 0,.int .i64 0]) 2 16:=⟨by kernel_rfl,by kernel_rfl,by decide⟩
instance af9:cV Tryz.prog 109 (.agg #[.int .u64 0,.int .u64 0,.int .u64 0,.int .u64 0,.int .u64 0,.int .u64 0,.int .u64 0,.int .u64 0]) 8 64:=⟨by kernel_rfl,by kernel_rfl,by decide⟩
instance aga:cV Tryz.prog 113 (.agg #[.bool false,.int .u64 0,.int .u64 0,.int .u64 0,.int .u64 0,.int .u64 0,.int .u64 0,.int .u64 0,.int .u64 0,.bool false,.int .u64 0,.int .u64 0,.int .u64 0,.int .u64 0,.int .u64 0,.int .u64 0,.int .u64 0,.int .u64 0,.int .u64 0,.int .u64 0,.int .u64 0,.int .u64 0,.int .u64 0,.int .u64 0,.int .u64 0,.int .u64 0]) 26 208:=⟨by kernel_rfl,by kernel_rfl,by decide⟩
instance agb:cV Tryz.prog 115 (.agg #[.int .i64 0,.int .i64 0,.bool false,.int .u64 0,.int .u64 0,.int .u64 0,.int .u64 0,.int .u64 0,.int .u64 0,.int .u64 0,.int .u64 0,.bool false,.int .u64 0,.int .u64 0,.int .u64 0,.int .u64 0,.int .u64 0,.int .u64 0,.int .u64 0,.int .u64 0,.int .u64 0,.int .u64 0,.int .u64 0,.int .u64 0,.int .u64 0,.int .u64 0,.int .u64 0,.int .u64 0]) 28 224:=⟨by kernel_rfl,by kernel_rfl,by decide⟩
instance agc:cV Tryz.prog 127 (.agg #[.int .i64 0,.bool false,.int .i64 0]) 3 24:=⟨by kernel_rfl,by kernel_rfl,by decide⟩
instance agd:cV Tryz.prog 146 (.agg #[.int .i64 0,.int .i64 0,.int .i64 0,.int .i64 0,.int .i64 0]) 5 40:=⟨by kernel_rfl,by kernel_rfl,by decide⟩
instance de3:gK Tryz.prog 3 (.int .i64):=⟨by kernel_rfl⟩
instance de4:gK Tryz.prog 4 .bool:=⟨by kernel_rfl⟩
instance de5:gK Tryz.prog 5 (.int .u8):=⟨by kernel_rfl⟩
instance de9:gK Tryz.prog 9 .string:=⟨by kernel_rfl⟩
instance age:gK Tryz.prog 107 (.int .u64):=⟨by kernel_rfl⟩
instance agf:gK Tryz.prog 172 (.int .u64):=⟨by kernel_rfl⟩
instance ze3:bY Tryz.prog 3 (.int .i64 0):=⟨fun _=>by kernel_rfl⟩
instance ajH:bY Tryz.prog 30 (.agg #[.int .i64 0,.slice none 0 0,.slice none 0 0,.bool false]):=⟨fun _=>by kernel_rfl⟩
instance ajI:bY Tryz.prog 32 (.agg #[.int .i64 0,.int .i64 0]):=⟨fun _=>by kernel_rfl⟩
instance ajJ:bY Tryz.prog 38 (.agg #[.slice none 0 0,.slice none 0 0,.slice none 0 0]):=⟨fun _=>by kernel_rfl⟩
instance ajK:bY Tryz.prog 56 (.agg #[.int .i64 0,.int .i64 0,.int .i64 0,.int .i64 0]):=⟨fun _=>by kernel_rfl⟩
instance ajL:bY Tryz.prog 58 (.agg #[.int .i64 0,.int .i64 0,.int .i64 0,.int .i64 0,.int .i64 0,.int .i64 0,.int .i64 0,.bool false]):=⟨fun _=>by kernel_rfl⟩
instance ajM:bY Tryz.prog 71 (.agg #[.int .i64 0,.int .i64 0]):=⟨fun _=>by kernel_rfl⟩
instance ajN:bY Tryz.prog 73 (.agg #[.int .i64 0,.int .i64 0,.bool false,.int .i64 0,.bool false]):=⟨fun _=>by kernel_rfl⟩
instance ajO:bY Tryz.prog 82 (.agg #[.int .i64 0,.int .i64 0,.int .i64 0,.bool false,.bool false]):=⟨fun _=>by kernel_rfl⟩
instance agh:bY Tryz.prog 104 (.agg #[.int .i64 0,.int .i64 0]):=⟨fun _=>by kernel_rfl⟩
instance agi:bY Tryz.prog 109 (.agg #[.int .u64 0,.int .u64 0,.int .u64 0,.int .u64 0,.int .u64 0,.int .u64 0,.int .u64 0,.int .u64 0]):=⟨fun _=>by kernel_rfl⟩
instance agj:bY Tryz.prog 111 (.agg #[.bool false,.int .u64 0,.int .u64 0,.int .u64 0,.int .u64 0,.int .u64 0,.int .u64 0,.int .u64 0,.int .u64 0]):=⟨fun _=>by kernel_rfl⟩
instance agk:bY Tryz.prog 113 (.agg #[.bool false,.int .u64 0,.int .u64 0,.int .u64 0,.int .u64 0,.int .u64 0,.int .u64 0,.int .u64 0,.int .u64 0,.bool false,.int .u64 0,.int .u64 0,.int .u64 0,.int .u64 0,.int .u64 0,.int .u64 0,.int .u64 0,.int .u64 0,.int .u64 0,.int .u64 0,.int .u64 0,.int .u64 0,.int .u64 0,.int .u64 0,.int .u64 0,.int .u64 0]):=⟨fun _=>by kernel_rfl⟩
instance agl:bY Tryz.prog 115 (.agg #[.int .i64 0,.int .i64 0,.bool false,.int .u64 0,.int .u64 0,.int .u64 0,.int .u64 0,.int .u64 0,.int .u64 0,.int .u64 0,.int .u64 0,.bool false,.int .u64 0,.int .u64 0,.int .u64 0,.int .u64 0,.int .u64 0,.int .u64 0,.int .u64 0,.int .u64 0,.int .u64 0,.int .u64 0,.int .u64 0,.int .u64 0,.int .u64 0,.int .u64 0,.int .u64 0,.int .u64 0]):=⟨fun _=>by kernel_rfl⟩
instance agm:bY Tryz.prog 146 (.agg #[.int .i64 0,.int .i64 0,.int .i64 0,.int .i64 0,.int .i64 0]):=⟨fun _=>by kernel_rfl⟩
instance agn:bY Tryz.prog 152 (.agg #[.int .i64 0,.int .i64 0,.int .i64 0,.int .i64 0,.int .i64 0,.int .i64 0,.int .i64 0,.int .i64 0]):=⟨fun _=>by kernel_rfl⟩
instance ago:bY Tryz.prog 176 (.slice none 0 0):=⟨fun _=>by kernel_rfl⟩
instance agp:bY Tryz.prog 653 (.agg #[.bool false,.int .u64 0,.int .u64 0,.int .u64 0,.int .u64 0,.int .u64 0,.int .u64 0,.int .u64 0,.int .u64 0,.bool false,.int .u64 0,.int .u64 0,.int .u64 0,.int .u64 0,.int .u64 0,.int .u64 0,.int .u64 0,.int .u64 0]):=⟨fun _=>by kernel_rfl⟩
instance ajP:bY Tryz.prog 67 (.slice none 0 0):=⟨fun _=>by kernel_rfl⟩
instance ajQ:bY Tryz.prog 69 (.slice none 0 0):=⟨fun _=>by kernel_rfl⟩
instance ajR:bY Tryz.prog 84 (.slice none 0 0):=⟨fun _=>by kernel_rfl⟩
instance agq:bY Tryz.prog 127 (.agg #[.int .i64 0,.bool false,.int .i64 0]):=⟨fun _=>by kernel_rfl⟩
instance ads:aV Tryz.prog 30 0 0:=⟨fun _ _=>by kernel_rfl⟩
instance adt:aV Tryz.prog 30 1 1:=⟨fun _ _=>by kernel_rfl⟩
instance adu:aV Tryz.prog 30 2 2:=⟨fun _ _=>by kernel_rfl⟩
instance adv:aV Tryz.prog 30 3 3:=⟨fun _ _=>by kernel_rfl⟩
instance adw:aV Tryz.prog 32 0 0:=⟨fun _ _=>by kernel_rfl⟩
instance adx:aV Tryz.prog 32 1 1:=⟨fun _ _=>by kernel_rfl⟩
instance ady:aV Tryz.prog 38 0 0:=⟨fun _ _=>by kernel_rfl⟩
instance adz:aV Tryz.prog 38 1 1:=⟨fun _ _=>by kernel_rfl⟩
instance adA:aV Tryz.prog 38 2 2:=⟨fun _ _=>by kernel_rfl⟩
instance adB:aV Tryz.prog 56 0 0:=⟨fun _ _=>by kernel_rfl⟩
instance adC:aV Tryz.prog 56 1 2:=⟨fun _ _=>by kernel_rfl⟩
instance adD:aV Tryz.prog 58 2 2:=⟨fun _ _=>by kernel_rfl⟩
instance adE:aV Tryz.prog 58 3 6:=⟨fun _ _=>by kernel_rfl⟩
instance adF:aV Tryz.prog 58 4 7:=⟨fun _ _=>by kernel_rfl⟩
instance adG:aV Tryz.prog 71 0 0:=⟨fun _ _=>by kernel_rfl⟩
instance adH:aV Tryz.prog 71 1 1:=⟨fun _ _=>by kernel_rfl⟩
instance adI:aV Tryz.prog 73 0 0:=⟨fun _ _=>by kernel_rfl⟩
instance adJ:aV Tryz.prog 73 1 2:=⟨fun _ _=>by kernel_rfl⟩
instance adK:aV Tryz.prog 73 2 3:=⟨fun _ _=>by kernel_rfl⟩
instance adL:aV Tryz.prog 73 3 4:=⟨fun _ _=>by kernel_rfl⟩
instance adM:aV Tryz.prog 82 0 0:=⟨fun _ _=>by kernel_rfl⟩
instance adN:aV Tryz.prog 82 1 1:=⟨fun _ _=>by kernel_rfl⟩
instance adO:aV Tryz.prog 82 2 2:=⟨fun _ _=>by kernel_rfl⟩
instance adP:aV Tryz.prog 82 3 3:=⟨fun _ _=>by kernel_rfl⟩
instance adQ:aV Tryz.prog 82 4 4:=⟨fun _ _=>by kernel_rfl⟩
instance ab8:aV Tryz.prog 111 0 0:=⟨fun _ _=>by kernel_rfl⟩
instance ab9:aV Tryz.prog 111 1 1:=⟨fun _ _=>by kernel_rfl⟩
instance aca:aV Tryz.prog 113 0 0:=⟨fun _ _=>by kernel_rfl⟩
instance acb:aV Tryz.prog 113 1 9:=⟨fun _ _=>by kernel_rfl⟩
instance acd:aV Tryz.prog 113 2 18:=⟨fun _ _=>by kernel_rfl⟩
instance ace:aV Tryz.prog 115 0 0:=⟨fun _ _=>by kernel_rfl⟩
instance acf:aV Tryz.prog 115 1 1:=⟨fun _ _=>by kernel_rfl⟩
instance acg:aV Tryz.prog 115 2 2:=⟨fun _ _=>by kernel_rfl⟩
instance ach:aV Tryz.prog 127 0 0:=⟨fun _ _=>by kernel_rfl⟩
instance aci:aV Tryz.prog 127 2 2:=⟨fun _ _=>by kernel_rfl⟩
instance acj:aV Tryz.prog 146 0 0:=⟨fun _ _=>by kernel_rfl⟩
instance ack:aV Tryz.prog 146 1 2:=⟨fun _ _=>by kernel_rfl⟩
instance acm:aV Tryz.prog 146 2 4:=⟨fun _ _=>by kernel_rfl⟩
instance acn:aV Tryz.prog 152 0 0:=⟨fun _ _=>by kernel_rfl⟩
instance aco:aV Tryz.prog 152 1 1:=⟨fun _ _=>by kernel_rfl⟩
instance acp:aV Tryz.prog 152 3 3:=⟨fun _ _=>by kernel_rfl⟩
instance acq:aV Tryz.prog 152 4 4:=⟨fun _ _=>by kernel_rfl⟩
instance acr:aV Tryz.prog 152 5 6:=⟨fun _ _=>by kernel_rfl⟩
instance acs:aV Tryz.prog 653 0 0:=⟨fun _ _=>by kernel_rfl⟩
instance acu:aV Tryz.prog 653 1 9:=⟨fun _ _=>by kernel_rfl⟩
instance NC:ab Tryz.prog 4:=⟨_,Tryz.func4,by kernel_rfl,by kernel_rfl⟩
instance hb5:ab Tryz.prog 5:=⟨_,Tryz.func5,by kernel_rfl,by kernel_rfl⟩
instance hb6:ab Tryz.prog 6:=⟨_,Tryz.func6,by kernel_rfl,by kernel_rfl⟩
instance hb7:ab Tryz.prog 7:=⟨_,Tryz.func7,by kernel_rfl,by kernel_rfl⟩
instance hb8:ab Tryz.prog 8:=⟨_,Tryz.func8,by kernel_rfl,by kernel_rfl⟩
instance hb9:ab Tryz.prog 9:=⟨_,Tryz.func9,by kernel_rfl,by kernel_rfl⟩
instance ajS:ab Tryz.prog 10:=⟨_,Tryz.func10,by kernel_rfl,by kernel_rfl⟩
instance aaA:ab Tryz.prog 11:=⟨_,Tryz.func11,by kernel_rfl,by kernel_rfl⟩
instance aaB:ab Tryz.prog 12:=⟨_,Tryz.func12,by kernel_rfl,by kernel_rfl⟩
instance aaC:ab Tryz.prog 13:=⟨_,Tryz.func13,by kernel_rfl,by kernel_rfl⟩
instance ajT:ab Tryz.prog 15:=⟨_,Tryz.func15,by kernel_rfl,by kernel_rfl⟩
instance ajU:ab Tryz.prog 16:=⟨_,Tryz.func16,by kernel_rfl,by kernel_rfl⟩
instance ajV:ab Tryz.prog 17:=⟨_,Tryz.func17,by kernel_rfl,by kernel_rfl⟩
instance ajW:ab Tryz.prog 18:=⟨_,Tryz.func18,by kernel_rfl,by kernel_rfl⟩
instance ajX:ab Tryz.prog 19:=⟨_,Tryz.func19,by kernel_rfl,by kernel_rfl⟩
instance ajY:ab Tryz.prog 20:=⟨_,Tryz.func20,by kernel_rfl,by kernel_rfl⟩
instance ajZ:ab Tryz.prog 21:=⟨_,Tryz.func21,by kernel_rfl,by kernel_rfl⟩
instance aj0:ab Tryz.prog 22:=⟨_,Tryz.func22,by kernel_rfl,by kernel_rfl⟩
instance aj1:ab Tryz.prog 23:=⟨_,Tryz.func23,by kernel_rfl,by kernel_rfl⟩
instance aj2:ab Tryz.prog 24:=⟨_,Tryz.func24,by kernel_rfl,by kernel_rfl⟩
instance aj3:ab Tryz.prog 25:=⟨_,Tryz.func25,by kernel_rfl,by kernel_rfl⟩
instance aj4:ab Tryz.prog 26:=⟨_,Tryz.func26,by kernel_rfl,by kernel_rfl⟩
instance aj5:ab Tryz.prog 27:=⟨_,Tryz.func27,by kernel_rfl,by kernel_rfl⟩
instance aj6:ab Tryz.prog 33:=⟨_,Tryz.func33,by kernel_rfl,by kernel_rfl⟩
instance aj7:ab Tryz.prog 34:=⟨_,Tryz.func34,by kernel_rfl,by kernel_rfl⟩
instance aj8:ab Tryz.prog 35:=⟨_,Tryz.func35,by kernel_rfl,by kernel_rfl⟩
instance aj9:ab Tryz.prog 36:=⟨_,Tryz.func36,by kernel_rfl,by kernel_rfl⟩
instance aka:ab Tryz.prog 37:=⟨_,Tryz.func37,by kernel_rfl,by kernel_rfl⟩
instance akb:ab Tryz.prog 38:=⟨_,Tryz.func38,by kernel_rfl,by kernel_rfl⟩
instance akc:ab Tryz.prog 39:=⟨_,Tryz.func39,by kernel_rfl,by kernel_rfl⟩
instance akd:ab Tryz.prog 40:=⟨_,Tryz.func40,by kernel_rfl,by kernel_rfl⟩
instance ake:ab Tryz.prog 41:=⟨_,Tryz.func41,by kernel_rfl,by kernel_rfl⟩
instance akf:ab Tryz.prog 42:=⟨_,Tryz.func42,by kernel_rfl,by kernel_rfl⟩
instance akg:ab Tryz.prog 43:=⟨_,Tryz.func43,by kernel_rfl,by kernel_rfl⟩
instance akh:ab Tryz.prog 44:=⟨_,Tryz.func44,by kernel_rfl,by kernel_rfl⟩
instance aki:ab Tryz.prog 45:=⟨_,Tryz.func45,by kernel_rfl,by kernel_rfl⟩
instance akj:ab Tryz.prog 46:=⟨_,Tryz.func46,by kernel_rfl,by kernel_rfl⟩
instance akk:ab Tryz.prog 47:=⟨_,Tryz.func47,by kernel_rfl,by kernel_rfl⟩
instance akl:ab Tryz.prog 48:=⟨_,Tryz.func48,by kernel_rfl,by kernel_rfl⟩
instance akm:ab Tryz.prog 49:=⟨_,Tryz.func49,by kernel_rfl,by kernel_rfl⟩
instance akn:ab Tryz.prog 50:=⟨_,Tryz.func50,by kernel_rfl,by kernel_rfl⟩
instance ako:ab Tryz.prog 51:=⟨_,Tryz.func51,by kernel_rfl,by kernel_rfl⟩
instance akp:ab Tryz.prog 52:=⟨_,Tryz.func52,by kernel_rfl,by kernel_rfl⟩
instance akq:ab Tryz.prog 57:=⟨_,Tryz.func57,by kernel_rfl,by kernel_rfl⟩
instance akr:ab Tryz.prog 58:=⟨_,Tryz.func58,by kernel_rfl,by kernel_rfl⟩
instance aks:ab Tryz.prog 59:=⟨_,Tryz.func59,by kernel_rfl,by kernel_rfl⟩
instance akt:ab Tryz.prog 60:=⟨_,Tryz.func60,by kernel_rfl,by kernel_rfl⟩
instance aku:ab Tryz.prog 61:=⟨_,Tryz.func61,by kernel_rfl,by kernel_rfl⟩
instance akv:ab Tryz.prog 62:=⟨_,Tryz.func62,by kernel_rfl,by kernel_rfl⟩
instance akw:ab Tryz.prog 63:=⟨_,Tryz.func63,by kernel_rfl,by kernel_rfl⟩
instance akx:ab Tryz.prog 64:=⟨_,Tryz.func64,by kernel_rfl,by kernel_rfl⟩
instance aky:ab Tryz.prog 65:=⟨_,Tryz.func65,by kernel_rfl,by kernel_rfl⟩
instance akz:ab Tryz.prog 66:=⟨_,Tryz.func66,by kernel_rfl,by kernel_rfl⟩
instance akA:ab Tryz.prog 67:=⟨_,Tryz.func67,by kernel_rfl,by kernel_rfl⟩
instance akB:ab Tryz.prog 68:=⟨_,Tryz.func68,by kernel_rfl,by kernel_rfl⟩
instance akC:ab Tryz.prog 69:=⟨_,Tryz.func69,by kernel_rfl,by kernel_rfl⟩
instance akD:ab Tryz.prog 70:=⟨_,Tryz.func70,by kernel_rfl,by kernel_rfl⟩
instance akE:ab Tryz.prog 71:=⟨_,Tryz.func71,by kernel_rfl,by kernel_rfl⟩
instance akF:ab Tryz.prog 72:=⟨_,Tryz.func72,by kernel_rfl,by kernel_rfl⟩
instance akG:ab Tryz.prog 73:=⟨_,Tryz.func73,by kernel_rfl,by kernel_rfl⟩
instance akH:ab Tryz.prog 74:=⟨_,Tryz.func74,by kernel_rfl,by kernel_rfl⟩
instance akI:ab Tryz.prog 75:=⟨_,Tryz.func75,by kernel_rfl,by kernel_rfl⟩
instance akJ:ab Tryz.prog 76:=⟨_,Tryz.func76,by kernel_rfl,by kernel_rfl⟩
instance akK:ab Tryz.prog 77:=⟨_,Tryz.func77,by kernel_rfl,by kernel_rfl⟩
instance akL:ab Tryz.prog 78:=⟨_,Tryz.func78,by kernel_rfl,by kernel_rfl⟩
instance akM:ab Tryz.prog 79:=⟨_,Tryz.func79,by kernel_rfl,by kernel_rfl⟩
instance akN:ab Tryz.prog 82:=⟨_,Tryz.func82,by kernel_rfl,by kernel_rfl⟩
instance akO:ab Tryz.prog 83:=⟨_,Tryz.func83,by kernel_rfl,by kernel_rfl⟩
instance akP:ab Tryz.prog 84:=⟨_,Tryz.func84,by kernel_rfl,by kernel_rfl⟩
instance akQ:ab Tryz.prog 85:=⟨_,Tryz.func85,by kernel_rfl,by kernel_rfl⟩
instance akR:ab Tryz.prog 87:=⟨_,Tryz.func87,by kernel_rfl,by kernel_rfl⟩
instance akS:ab Tryz.prog 91:=⟨_,Tryz.func91,by kernel_rfl,by kernel_rfl⟩
instance akT:ab Tryz.prog 92:=⟨_,Tryz.func92,by kernel_rfl,by kernel_rfl⟩
instance akU:ab Tryz.prog 93:=⟨_,Tryz.func93,by kernel_rfl,by kernel_rfl⟩
instance akV:ab Tryz.prog 94:=⟨_,Tryz.func94,by kernel_rfl,by kernel_rfl⟩
instance akW:ab Tryz.prog 95:=⟨_,Tryz.func95,by kernel_rfl,by kernel_rfl⟩
instance akX:ab Tryz.prog 96:=⟨_,Tryz.func96,by kernel_rfl,by kernel_rfl⟩
instance akY:ab Tryz.prog 97:=⟨_,Tryz.func97,by kernel_rfl,by kernel_rfl⟩
instance akZ:ab Tryz.prog 98:=⟨_,Tryz.func98,by kernel_rfl,by kernel_rfl⟩
instance ak0:ab Tryz.prog 99:=⟨_,Tryz.func99,by kernel_rfl,by kernel_rfl⟩
instance agr:ab Tryz.prog 100:=⟨_,Tryz.func100,by kernel_rfl,by kernel_rfl⟩
instance ags:ab Tryz.prog 101:=⟨_,Tryz.func101,by kernel_rfl,by kernel_rfl⟩
instance agt:ab Tryz.prog 102:=⟨_,Tryz.func102,by kernel_rfl,by kernel_rfl⟩
instance agu:ab Tryz.prog 104:=⟨_,Tryz.func104,by kernel_rfl,by kernel_rfl⟩
instance agv:ab Tryz.prog 105:=⟨_,Tryz.func105,by kernel_rfl,by kernel_rfl⟩
instance agw:ab Tryz.prog 106:=⟨_,Tryz.func106,by kernel_rfl,by kernel_rfl⟩
instance agx:ab Tryz.prog 107:=⟨_,Tryz.func107,by kernel_rfl,by kernel_rfl⟩
instance agy:ab Tryz.prog 108:=⟨_,Tryz.func108,by kernel_rfl,by kernel_rfl⟩
instance agz:ab Tryz.prog 109:=⟨_,Tryz.func109,by kernel_rfl,by kernel_rfl⟩
instance agA:ab Tryz.prog 110:=⟨_,Tryz.func110,by kernel_rfl,by kernel_rfl⟩
instance agB:ab Tryz.prog 111:=⟨_,Tryz.func111,by kernel_rfl,by kernel_rfl⟩
instance agC:ab Tryz.prog 112:=⟨_,Tryz.func112,by kernel_rfl,by kernel_rfl⟩
instance agD:ab Tryz.prog 114:=⟨_,Tryz.func114,by kernel_rfl,by kernel_rfl⟩
instance agE:ab Tryz.prog 115:=⟨_,Tryz.func115,by kernel_rfl,by kernel_rfl⟩
instance agF:ab Tryz.prog 116:=⟨_,Tryz.func116,by kernel_rfl,by kernel_rfl⟩
instance agG:ab Tryz.prog 117:=⟨_,Tryz.func117,by kernel_rfl,by kernel_rfl⟩
instance agH:ab Tryz.prog 118:=⟨_,Tryz.func118,by kernel_rfl,by kernel_rfl⟩
instance agI:ab Tryz.prog 119:=⟨_,Tryz.func119,by kernel_rfl,by kernel_rfl⟩
instance agJ:ab Tryz.prog 120:=⟨_,Tryz.func120,by kernel_rfl,by kernel_rfl⟩
instance agK:ab Tryz.prog 121:=⟨_,Tryz.func121,by kernel_rfl,by kernel_rfl⟩
instance agL:ab Tryz.prog 122:=⟨_,Tryz.func122,by kernel_rfl,by kernel_rfl⟩
instance agM:ab Tryz.prog 123:=⟨_,Tryz.func123,by kernel_rfl,by kernel_rfl⟩
instance agN:ab Tryz.prog 124:=⟨_,Tryz.func124,by kernel_rfl,by kernel_rfl⟩
instance agO:ab Tryz.prog 125:=⟨_,Tryz.func125,by kernel_rfl,by kernel_rfl⟩
instance agP:ab Tryz.prog 126:=⟨_,Tryz.func126,by kernel_rfl,by kernel_rfl⟩
instance agQ:ab Tryz.prog 127:=⟨_,Tryz.func127,by kernel_rfl,by kernel_rfl⟩
instance agR:ab Tryz.prog 137:=⟨_,Tryz.func137,by kernel_rfl,by kernel_rfl⟩
instance agS:ab Tryz.prog 138:=⟨_,Tryz.func138,by kernel_rfl,by kernel_rfl⟩
instance agT:ab Tryz.prog 139:=⟨_,Tryz.func139,by kernel_rfl,by kernel_rfl⟩
instance agU:ab Tryz.prog 140:=⟨_,Tryz.func140,by kernel_rfl,by kernel_rfl⟩
instance agV:ab Tryz.prog 147:=⟨_,Tryz.func147,by kernel_rfl,by kernel_rfl⟩
instance agW:ab Tryz.prog 148:=⟨_,Tryz.func148,by kernel_rfl,by kernel_rfl⟩
instance agX:ab Tryz.prog 149:=⟨_,Tryz.func149,by kernel_rfl,by kernel_rfl⟩
instance agY:ab Tryz.prog 150:=⟨_,Tryz.func150,by kernel_rfl,by kernel_rfl⟩
instance agZ:ab Tryz.prog 160:=⟨_,Tryz.func160,by kernel_rfl,by kernel_rfl⟩
instance ag0:ab Tryz.prog 161:=⟨_,Tryz.func161,by kernel_rfl,by kernel_rfl⟩
instance ag1:ab Tryz.prog 162:=⟨_,Tryz.func162,by kernel_rfl,by kernel_rfl⟩
instance ag2:ab Tryz.prog 163:=⟨_,Tryz.func163,by kernel_rfl,by kernel_rfl⟩
instance ag3:ab Tryz.prog 164:=⟨_,Tryz.func164,by kernel_rfl,by kernel_rfl⟩
instance ag4:ab Tryz.prog 165:=⟨_,Tryz.func165,by kernel_rfl,by kernel_rfl⟩
instance ag5:ab Tryz.prog 166:=⟨_,Tryz.func166,by kernel_rfl,by kernel_rfl⟩
instance ag6:ab Tryz.prog 167:=⟨_,Tryz.func167,by kernel_rfl,by kernel_rfl⟩
instance ag7:ab Tryz.prog 176:=⟨_,Tryz.func176,by kernel_rfl,by kernel_rfl⟩
instance ag8:ab Tryz.prog 177:=⟨_,Tryz.func177,by kernel_rfl,by kernel_rfl⟩
instance ag9:ab Tryz.prog 178:=⟨_,Tryz.func178,by kernel_rfl,by kernel_rfl⟩
instance aha:ab Tryz.prog 179:=⟨_,Tryz.func179,by kernel_rfl,by kernel_rfl⟩
instance ahb:ab Tryz.prog 180:=⟨_,Tryz.func180,by kernel_rfl,by kernel_rfl⟩
instance ahc:ab Tryz.prog 181:=⟨_,Tryz.func181,by kernel_rfl,by kernel_rfl⟩
instance ahd:ab Tryz.prog 182:=⟨_,Tryz.func182,by kernel_rfl,by kernel_rfl⟩
instance ahe:ab Tryz.prog 184:=⟨_,Tryz.func184,by kernel_rfl,by kernel_rfl⟩
instance ahf:ab Tryz.prog 185:=⟨_,Tryz.func185,by kernel_rfl,by kernel_rfl⟩
instance ahg:ab Tryz.prog 186:=⟨_,Tryz.func186,by kernel_rfl,by kernel_rfl⟩
instance ahh:ab Tryz.prog 193:=⟨_,Tryz.func193,by kernel_rfl,by kernel_rfl⟩
instance ahi:ab Tryz.prog 194:=⟨_,Tryz.func194,by kernel_rfl,by kernel_rfl⟩
instance ahj:ab Tryz.prog 224:=⟨_,Tryz.func224,by kernel_rfl,by kernel_rfl⟩
instance ahk:ab Tryz.prog 225:=⟨_,Tryz.func225,by kernel_rfl,by kernel_rfl⟩
instance ahl:ab Tryz.prog 226:=⟨_,Tryz.func226,by kernel_rfl,by kernel_rfl⟩
instance ahm:ab Tryz.prog 227:=⟨_,Tryz.func227,by kernel_rfl,by kernel_rfl⟩
instance ahn:ab Tryz.prog 228:=⟨_,Tryz.func228,by kernel_rfl,by kernel_rfl⟩
instance aho:ab Tryz.prog 229:=⟨_,Tryz.func229,by kernel_rfl,by kernel_rfl⟩
instance ahp:ab Tryz.prog 233:=⟨_,Tryz.func233,by kernel_rfl,by kernel_rfl⟩
instance ahq:ab Tryz.prog 234:=⟨_,Tryz.func234,by kernel_rfl,by kernel_rfl⟩
instance ahr:ab Tryz.prog 235:=⟨_,Tryz.func235,by kernel_rfl,by kernel_rfl⟩
instance ahs:ab Tryz.prog 236:=⟨_,Tryz.func236,by kernel_rfl,by kernel_rfl⟩
instance aht:ab Tryz.prog 237:=⟨_,Tryz.func237,by kernel_rfl,by kernel_rfl⟩
instance ahu:ab Tryz.prog 246:=⟨_,Tryz.func246,by kernel_rfl,by kernel_rfl⟩
instance ahv:ab Tryz.prog 247:=⟨_,Tryz.func247,by kernel_rfl,by kernel_rfl⟩
instance ahw:ab Tryz.prog 248:=⟨_,Tryz.func248,by kernel_rfl,by kernel_rfl⟩
instance ahx:ab Tryz.prog 250:=⟨_,Tryz.func250,by kernel_rfl,by kernel_rfl⟩
instance ahy:ab Tryz.prog 251:=⟨_,Tryz.func251,by kernel_rfl,by kernel_rfl⟩
instance ahz:ab Tryz.prog 283:=⟨_,Tryz.func283,by kernel_rfl,by kernel_rfl⟩
instance ahA:ab Tryz.prog 284:=⟨_,Tryz.func284,by kernel_rfl,by kernel_rfl⟩
instance ahB:ab Tryz.prog 287:=⟨_,Tryz.func287,by kernel_rfl,by kernel_rfl⟩
instance ahC:ab Tryz.prog 288:=⟨_,Tryz.func288,by kernel_rfl,by kernel_rfl⟩
instance ahD:ab Tryz.prog 289:=⟨_,Tryz.func289,by kernel_rfl,by kernel_rfl⟩
instance ahE:ab Tryz.prog 290:=⟨_,Tryz.func290,by kernel_rfl,by kernel_rfl⟩
instance ahF:ab Tryz.prog 291:=⟨_,Tryz.func291,by kernel_rfl,by kernel_rfl⟩
instance ahG:ab Tryz.prog 295:=⟨_,Tryz.func295,by kernel_rfl,by kernel_rfl⟩
instance ahH:ab Tryz.prog 296:=⟨_,Tryz.func296,by kernel_rfl,by kernel_rfl⟩
instance ahI:ab Tryz.prog 364:=⟨_,Tryz.func364,by kernel_rfl,by kernel_rfl⟩
instance ahJ:ab Tryz.prog 428:=⟨_,Tryz.func428,by kernel_rfl,by kernel_rfl⟩
instance ahK:ab Tryz.prog 429:=⟨_,Tryz.func429,by kernel_rfl,by kernel_rfl⟩
instance ahL:ab Tryz.prog 478:=⟨_,Tryz.func478,by kernel_rfl,by kernel_rfl⟩
instance ahM:ab Tryz.prog 479:=⟨_,Tryz.func479,by kernel_rfl,by kernel_rfl⟩
instance ahN:ab Tryz.prog 480:=⟨_,Tryz.func480,by kernel_rfl,by kernel_rfl⟩
instance ahO:ab Tryz.prog 513:=⟨_,Tryz.func513,by kernel_rfl,by kernel_rfl⟩
instance ahP:ab Tryz.prog 537:=⟨_,Tryz.func537,by kernel_rfl,by kernel_rfl⟩
instance ahQ:ab Tryz.prog 541:=⟨_,Tryz.func541,by kernel_rfl,by kernel_rfl⟩
instance ahR:ab Tryz.prog 542:=⟨_,Tryz.func542,by kernel_rfl,by kernel_rfl⟩
instance ahS:ab Tryz.prog 543:=⟨_,Tryz.func543,by kernel_rfl,by kernel_rfl⟩
instance ahT:ab Tryz.prog 544:=⟨_,Tryz.func544,by kernel_rfl,by kernel_rfl⟩
instance ahU:ab Tryz.prog 553:=⟨_,Tryz.func553,by kernel_rfl,by kernel_rfl⟩
instance ahV:ab Tryz.prog 555:=⟨_,Tryz.func555,by kernel_rfl,by kernel_rfl⟩
instance ahW:ab Tryz.prog 556:=⟨_,Tryz.func556,by kernel_rfl,by kernel_rfl⟩
instance ahX:ab Tryz.prog 557:=⟨_,Tryz.func557,by kernel_rfl,by kernel_rfl⟩
instance ahY:ab Tryz.prog 559:=⟨_,Tryz.func559,by kernel_rfl,by kernel_rfl⟩
instance ahZ:ab Tryz.prog 561:=⟨_,Tryz.func561,by kernel_rfl,by kernel_rfl⟩
theorem mixed:Tryz.prog.follows .mixedOrders=true:=by kernel_rfl
end R
end Go.Proofs.YtlmabdegojeheaaGreatDoor
