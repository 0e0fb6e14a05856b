/- WholeTurned: parts of its proof (Rm Rn Rk). -/
import Derived.Test.YtlmabdegojeheaaGreatDoorEtEx
import Derived.Test.YtlmabdegojeheaaGreatDoorRjUu
namespace Go.Proofs.YtlmabdegojeheaaGreatDoor
open R Go.RowKit
namespace R
section
variable {P:Program} {C:bO} {o:Oper} {f:Fr} {w:World} {K:Value→World→Prop} {t:TypeId} {x i:Operand}
theorem ix {s:ByteArray} (hop:o.op=.call { callee:=.builtin .len,args:=#[x],argTypes:=#[t] }) [ht:gK P t .string] (hx:ev f x=.string s) (hk:K (.int .i64 s.size) w):WO P C o f w K:=by
 refine aO ?_ hk
 simp [execOp,hop,hx,resolve,invoke,builtin,Builtin.len_,run_underlying ht.h,goInt]
theorem DF {s:ByteArray} {k:IntKind} {lo:Int} (hop:o.op=.slice t x (some i) none none) [hu:gK P t .string] (hx:ev f x=.string s) (h1:ev f i=.int k lo) (h0:0≤lo) (hc:lo≤s.size) (hk:K (.string (s.extract lo.toNat s.size)) w):WO P C o f w K:=by
 refine aO ?_ hk
 have hr:=run_slice_string_l (P:=P) w t s hu.h k lo h0 hc
 simp [execOp,hop,hx,h1,Instr.sliceAt,run_underlying hu.h,hr]
theorem DG {s:ByteArray} {k:IntKind} {hi:Int} (hop:o.op=.slice t x none (some i) none) [hu:gK P t .string] (hx:ev f x=.string s) (h1:ev f i=.int k hi) (h0:0≤hi) (hc:hi≤s.size) (hk:K (.string (s.extract 0 hi.toNat)) w):WO P C o f w K:=by
 refine aO ?_ hk
 have hr:=run_slice_string_h (P:=P) w t s hu.h k hi h0 hc
 simp [execOp,hop,hx,h1,Instr.sliceAt,run_underlying hu.h,hr]
end
theorem aa2 {P:Program} {fn:Func} {f:Fr} {w:World} {t:Nat} {v:Value} {R:Ending→World→Prop} (h:fn.results=#[.tmp t]) (hv:f t=v) (hr:R (.returned v) w):kD P fn R .ret f w:=CZ (Vw h hv hr)
theorem tB {P:Program} {fn:Func} {n:Nat} {f:Fr} {w:World} {t:Nat} {v:Value} {R:Ending→World→Prop} (h:fn.results=#[.tmp t]) (hv:f t=v) (hr:R (.returned v) w):WC P n (kD P fn R) .ret f w:=jV (aa2 h hv hr)
def qI (a b:ByteArray):Bool:=decide (b.size≤a.size)&&((a.extract (a.size-b.size) a.size).toList == b.toList)
def qJ (a b:ByteArray):ByteArray:=if qI a b then a.extract 0 (a.size-b.size) else a
abbrev ZN (a:ByteArray):Prop:=a.size≤1000000
theorem TI (a b:ByteArray) (ha:ZN a) (hb:ZN b) (w:World):Calls Tryz.prog 251 #[.string a,.string b] w fun e w'=>e=.returned (.bool (qI a b))∧w'=w:=by
 have ha:a.size≤1000000:=ha
 have hb:b.size≤1000000:=hb
 show Calls _ _ [Value.string a,.string b].toArray w _
 refine aa (fn:=Tryz.f251) Tryz.func251 rfl Tryz.ntmps251 (Nat.le_of_ble_eq_true rfl) ?_
 refine aU (a7 (bf rfl rfl (aH (x:=.const (.bool false)) rfl rfl (cm (aI ?_)))))
 refine aU (a7 (bf rfl rfl (aH (x:=.tmp 0) (v:=.string a) rfl rfl ?_)))
 refine bf rfl rfl (ix (s:=a) rfl rfl ?_)
 refine bf rfl rfl (aH (x:=.tmp 1) (v:=.string b) rfl rfl ?_)
 refine bf rfl rfl (ix (s:=b) rfl rfl ?_)
 refine bf rfl rfl (rM (a:=(a.size:Int)) (b:=(b.size:Int)) rfl rfl rfl ?_)
 by_cases hle:b.size≤a.size
 ·rw [decide_eq_true (show ((b.size:Int)≤(a.size:Int)) by omega)]
  refine bf rfl rfl (aH (x:=.tmp 9) (v:=.bool true) rfl rfl ?_)
  refine iD rfl rfl (b:=true) rfl rfl (aH (x:=.tmp 0) (v:=.string a) rfl rfl ?_)
  refine iD rfl rfl (b:=true) rfl rfl (aH (x:=.tmp 0) (v:=.string a) rfl rfl ?_)
  refine iD rfl rfl (b:=true) rfl rfl (ix (s:=a) rfl rfl ?_)
  refine iD rfl rfl (b:=true) rfl rfl (aH (x:=.tmp 1) (v:=.string b) rfl rfl ?_)
  refine iD rfl rfl (b:=true) rfl rfl (ix (s:=b) rfl rfl ?_)
  refine iD rfl rfl (b:=true) rfl rfl (lM (a:=(a.size:Int)) (b:=(b.size:Int)) rfl rfl rfl (by constructor <;> omega) ?_)
  refine iD rfl rfl (b:=true) rfl rfl (DF (s:=a) (lo:=(a.size:Int)-b.size) rfl rfl rfl xj xj ?_)
  refine iD rfl rfl (b:=true) rfl rfl (aH (x:=.tmp 1) (v:=.string b) rfl rfl ?_)
  refine iD rfl rfl (b:=true) rfl rfl (sx (a:=a.extract ((a.size:Int)-b.size).toNat a.size) (b:=b) rfl rfl rfl ?_)
  have e1:((a.size:Int)-b.size).toNat=a.size-b.size:=by omega
  have e2:qI a b=((a.extract (a.size-b.size) a.size).toList == b.toList):=by unfold qI;rw [decide_eq_true hle,Bool.true_and]
  rw [e1,← e2]
  refine bf rfl rfl (lK (v:=.bool (qI a b)) rfl rfl rfl ?_)
  refine bf rfl rfl (aH (x:=.tmp 20) (v:=.bool (qI a b)) rfl rfl (cm (aI ?_)))
  exact tB rfl rfl ⟨rfl,rfl⟩
 ·rw [decide_eq_false (show ¬ ((b.size:Int)≤(a.size:Int)) by omega)]
  have e2:qI a b=false:=by unfold qI;rw [decide_eq_false hle,Bool.false_and]
  rw [e2]
  refine bf rfl rfl (aH (x:=.tmp 9) (v:=.bool false) rfl rfl ?_)
  iterate 9 refine Il rfl rfl (c:=false) rfl rfl rfl ?_
  refine bf rfl rfl (lL (v:=.bool false) rfl rfl rfl ?_)
  refine bf rfl rfl (aH (x:=.tmp 20) (v:=.bool false) rfl rfl (cm (aI ?_)))
  exact tB rfl rfl ⟨rfl,rfl⟩
theorem Lf (a b:ByteArray) (ha:ZN a) (hb:ZN b) (w:World):Calls Tryz.prog 194 #[.string a,.string b] w fun e w'=>e=.returned (.string (qJ a b))∧w'=w:=by
 have ha':a.size≤1000000:=ha
 have hb':b.size≤1000000:=hb
 show Calls _ _ [Value.string a,.string b].toArray w _
 refine aa (fn:=Tryz.f194) Tryz.func194 rfl Tryz.ntmps194 (Nat.le_of_ble_eq_true rfl) ?_
 refine aU (a7 (bf rfl rfl (aH (x:=.const (.string ⟨#[]⟩)) rfl rfl (cm (aI ?_)))))
 refine aU (aU (a7 (bf rfl rfl (aH (x:=.tmp 0) (v:=.string a) rfl rfl ?_))))
 refine bf rfl rfl (aH (x:=.tmp 1) (v:=.string b) rfl rfl ?_)
 refine bf rfl rfl (ar (v0:=.string a) (v1:=.string b) rfl rfl rfl rfl ((TI a b ha hb w).mono ?_))
 rintro _ w' ⟨rfl,rfl⟩
 refine ⟨_,rfl,cm (aI (kN (t:=qI a b) rfl (fun h=>?_) (fun h=>d5 (aI ?_))))⟩
 ·have hle:b.size≤a.size:=by
   unfold qI at h
   rw [Bool.and_eq_true] at h
   exact of_decide_eq_true h.1
  have e1:qJ a b=a.extract 0 (a.size-b.size):=if_pos h
  have e2:((a.size:Int)-b.size).toNat=a.size-b.size:=by omega
  refine aU (a7 (bf rfl rfl (aH (x:=.tmp 0) (v:=.string a) rfl rfl ?_)))
  refine bf rfl rfl (aH (x:=.tmp 0) (v:=.string a) rfl rfl ?_)
  refine bf rfl rfl (ix (s:=a) rfl rfl ?_)
  refine bf rfl rfl (aH (x:=.tmp 1) (v:=.string b) rfl rfl ?_)
  refine bf rfl rfl (ix (s:=b) rfl rfl ?_)
  refine bf rfl rfl (lM (a:=(a.size:Int)) (b:=(b.size:Int)) rfl rfl rfl (by constructor <;> omega) ?_)
  refine bf rfl rfl (DG (s:=a) (hi:=(a.size:Int)-b.size) rfl rfl rfl xj xj ?_)
  rw [e2,← e1]
  refine bf rfl rfl (aH (x:=.tmp 14) (v:=.string (qJ a b)) rfl rfl (cm (aI ?_)))
  exact jV (jU (aa2 rfl rfl ⟨rfl,rfl⟩))
 ·have e1:qJ a b=a:=if_neg (by rw [h];exact Bool.false_ne_true)
  rw [e1]
  refine aU (a7 (bf rfl rfl (aH (x:=.tmp 0) (v:=.string a) rfl rfl ?_)))
  refine bf rfl rfl (aH (x:=.tmp 15) (v:=.string a) rfl rfl (cm (aI ?_)))
  exact tB rfl rfl ⟨rfl,rfl⟩
theorem AJ (a b:ByteArray) (ha:ZN a) (hb:ZN b) (w:World):Calls Tryz.prog 140 #[.string a,.string b] w fun e w'=>e=.returned (.string (qJ a b))∧w'=w:=by
 show Calls _ _ [Value.string a,.string b].toArray w _
 refine aa (fn:=Tryz.f140) Tryz.func140 rfl Tryz.ntmps140 (Nat.le_of_ble_eq_true rfl) ?_
 refine aU (a7 (bf rfl rfl (aH (x:=.const (.string ⟨#[]⟩)) rfl rfl (cm (aI ?_)))))
 refine aU (a7 (bf rfl rfl (aH (x:=.tmp 0) (v:=.string a) rfl rfl ?_)))
 refine bf rfl rfl (aH (x:=.tmp 1) (v:=.string b) rfl rfl ?_)
 refine bf rfl rfl (ar (v0:=.string a) (v1:=.string b) rfl rfl rfl rfl ((Lf a b ha hb w).mono ?_))
 rintro _ w' ⟨rfl,rfl⟩
 refine ⟨_,rfl,?_⟩
 refine bf rfl rfl (aH (x:=.tmp 7) (v:=.string (qJ a b)) rfl rfl (cm (aI ?_)))
 exact tB rfl rfl ⟨rfl,rfl⟩
theorem Oz (a:ByteArray) (c:UInt8) (w:World):Calls Tryz.prog 250 #[.string a,.int .u8 c.toNat] w fun e w'=>e=.returned (.int .i64 (Lib.indexByte a.data.toList c))∧w'=w:=by
 have hrun:(callFunc 297 #[Value.string a,Value.int .u8 (c.toNat:Int)]).run Tryz.prog w=.ok (.value (.int .i64 (Lib.indexByte a.data.toList c))) w:=by
  rw [run_callFunc_extern Tryz.func297 wq wq wq (e:=Extern.BytealgIndexByte.indexByte) wq,Lib.run_indexByteString]
  simp
 show Calls _ _ [Value.string a,.int .u8 c.toNat].toArray w _
 refine aa (fn:=Tryz.f250) Tryz.func250 rfl Tryz.ntmps250 (Nat.le_of_ble_eq_true rfl) ?_
 refine aU (a7 (bf rfl rfl (aH (x:=.const (.int .i64 0)) rfl rfl (cm (aI ?_)))))
 refine aU (a7 (bf rfl rfl (aH (x:=.tmp 0) (v:=.string a) rfl rfl ?_)))
 refine bf rfl rfl (aH (x:=.tmp 1) (v:=.int .u8 c.toNat) rfl rfl ?_)
 refine bf rfl rfl (FY (v0:=.string a) (v1:=.int .u8 c.toNat) rfl rfl rfl rfl hrun ?_)
 refine bf rfl rfl (aH (x:=.tmp 7) (v:=.int .i64 (Lib.indexByte a.data.toList c)) rfl rfl (cm (aI ?_)))
 exact tB rfl rfl ⟨rfl,rfl⟩
theorem TJ (a:ByteArray) (c:UInt8) (w:World):Calls Tryz.prog 193 #[.string a,.int .u8 c.toNat] w fun e w'=>e=.returned (.int .i64 (Lib.indexByte a.data.toList c))∧w'=w:=by
 show Calls _ _ [Value.string a,.int .u8 c.toNat].toArray w _
 refine aa (fn:=Tryz.f193) Tryz.func193 rfl Tryz.ntmps193 (Nat.le_of_ble_eq_true rfl) ?_
 refine aU (a7 (bf rfl rfl (aH (x:=.const (.int .i64 0)) rfl rfl (cm (aI ?_)))))
 refine aU (a7 (bf rfl rfl (aH (x:=.tmp 0) (v:=.string a) rfl rfl ?_)))
 refine bf rfl rfl (aH (x:=.tmp 1) (v:=.int .u8 c.toNat) rfl rfl ?_)
 refine bf rfl rfl (ar (v0:=.string a) (v1:=.int .u8 c.toNat) rfl rfl rfl rfl ((Oz a c w).mono ?_))
 rintro _ w' ⟨rfl,rfl⟩
 refine ⟨_,rfl,?_⟩
 refine bf rfl rfl (aH (x:=.tmp 7) (v:=.int .i64 (Lib.indexByte a.data.toList c)) rfl rfl (cm (aI ?_)))
 exact tB rfl rfl ⟨rfl,rfl⟩
end R
namespace R
def bs (l:List UInt8):ByteArray:=⟨l.toArray⟩
theorem fk (l:List UInt8):(bs l).size=l.length:=by simp [bs,ByteArray.size]
theorem ua (l:List UInt8):(bs l).data.toList=l:=by simp [bs]
def fS (l:List UInt8):List UInt8×List UInt8:=if 0≤Lib.indexByte l 10 then (l.take ((Lib.indexByte l 10).toNat+1),l.drop ((Lib.indexByte l 10).toNat+1)) else (l,[])
def GJ:Nat→List UInt8→List (List UInt8)
 | 0,_=>[]
 | k+1,l=>match l with
  | []=>[]
  | c::r=>(fS (c::r)).1::GJ k (fS (c::r)).2
def GK (l:List UInt8):List (List UInt8):=GJ l.length l
theorem GL (c:UInt8):∀ l:List UInt8,Lib.indexByte l c<(l.length:Int)∨(l=[]∧Lib.indexByte l c=-1)
 | []=>.inr ⟨rfl,rfl⟩
 | x::l=>.inl (by
  show (if (x == c)=true then 0 else if (Lib.indexByte l c == -1)=true then -1 else Lib.indexByte l c+1)<_
  rcases GL c l with h|⟨rfl,h⟩
  ·split
   ·simp only [List.length_cons];omega
   ·split
    ·simp only [List.length_cons];omega
    ·simp only [List.length_cons];omega
  ·split
   ·simp
   ·rw [h]
    simp)
theorem qK {l:List UInt8} (h:l≠[]):(fS l).1.length+(fS l).2.length=l.length∧0<(fS l).1.length:=by
 have hp:0<l.length:=List.length_pos_iff.2 h
 unfold fS
 split
 ·have h1:=GL 10 l
  have h2:Lib.indexByte l 10<(l.length:Int):=by
   rcases h1 with h1|h1
   ·exact h1
   ·exact absurd h1.1 h
  simp only [List.length_take,List.length_drop]
  omega
 ·simp only [List.length_nil]
  omega
theorem yl:∀ (k m:Nat) (l:List UInt8),l.length≤k→l.length≤m→GJ k l=GJ m l
 | 0,0,l,_,_=>rfl
 | 0,m+1,l,h,_=>by
  obtain rfl:=List.length_eq_zero_iff.1 (Nat.le_zero.1 h)
  rfl
 | k+1,0,l,_,h=>by
  obtain rfl:=List.length_eq_zero_iff.1 (Nat.le_zero.1 h)
  rfl
 | k+1,m+1,[],_,_=>rfl
 | k+1,m+1,c::r,h1,h2=>by
  have:=qK (l:=c::r) (by simp)
  show _::GJ k _=_::GJ m _
  rw [yl k m _ xj (by omega)]
theorem TK:GK []=[]:=rfl
theorem DH {l:List UInt8} (h:l≠[]):GK l=(fS l).1::GK (fS l).2:=by
 cases l with
 | nil=>exact absurd rfl h
 | cons c r =>
  have:=qK (l:=c::r) (by simp)
  show _::GJ r.length _=_
  unfold GK
  rw [yl r.length _ _ (by simp only [List.length_cons] at this;omega) (Nat.le_refl _)]
theorem j9 (l:List UInt8) (a b:Nat):(bs l).extract a b=bs ((l.drop a).take (b-a)):=by
 unfold bs
 ext1
 simp
set_option maxRecDepth 20000 in
set_option maxHeartbeats 2000000 in
theorem GM (l B:Nat) (J:List (List UInt8)→World→Prop) (W:World) (s:List UInt8) (hs:s.length≤1000000)
  (hJ2:∀ xs X Y t,J xs X→X.grownBy Y (some B)→Y.heap[B]?=some (.cells #[.string t] 9 (0,0))→J xs Y)
  (hY:∀ pre x W1,J pre W1→pre.length<s.length→x.length≤s.length→YieldAt Fence.wide 3 Tryz.prog l #[.string (bs x)] W1 fun e W'=>e=.returned (.bool true)∧J (pre++[x]) W'∧W'.heap[B]?=W1.heap[B]?)
  (hB:W.heap[B]?=some (.cells #[.string (bs s)] 9 (0,0))) (h0:J [] W) :
  CallsIn Fence.wide 4 Tryz.prog 192 #[.func (.yield l) #[] #[],.pointer (some ⟨B,0,none⟩)] W fun e W'=>(∃ v,e=.returned v)∧J (GK s) W':=by
 refine callsIn_wide.2 ?_
 show Calls Tryz.prog 192 [Value.func (.yield l) #[] #[],Value.pointer (some ⟨B,0,none⟩)].toArray W fun e W'=>(∃ v,e=.returned v)∧J (GK s) W'
 refine aa (fn:=Tryz.f192) Tryz.func192 rfl Tryz.ntmps192 (Nat.le_of_ble_eq_true rfl) ?_
 have cell:∀ (X:World) (v:Value),X.heap[B]?=some (.cells #[v] 9 (0,0))→X.cell? ⟨B,0,none⟩=some v:=fun X v h=>by simp [World.cell?,h]
 refine cU (au (ι:=List UInt8×List (List UInt8)) (fun _=>[(0,.func (.yield l) #[] #[]),(1,.pointer (some ⟨B,0,none⟩))])
  (fun i wr=>wr.heap[B]?=some (.cells #[.string (bs i.1)] 9 (0,0))∧J i.2 wr∧i.2++GK i.1=GK s∧i.2.length+i.1.length≤s.length) (fun i=>i.1.length)
  ⟨(s,[]),⟨rfl,rfl,trivial⟩,hB,h0,rfl,by simp⟩ ?_)
 rintro ⟨r,pre⟩ f wr ⟨hBr,hJr,hl,hn⟩
 dsimp only at hBr hJr hl hn
 refine aU (aU (a7 (bf rfl rfl (bu (a:=⟨B,0,none⟩) rfl rfl (cell _ _ hBr) ?_))))
 refine bf rfl rfl (ix (s:=bs r) rfl rfl ?_)
 refine bf rfl rfl (u7 (a:=((bs r).size:Int)) (b:=0) rfl rfl rfl (cm (aI ?_)))
 refine dq (p:=(0:Int)<((bs r).size:Int)) rfl (fun hp=>d5 (aI ?_)) (fun hp=>gH ?_)
 ·rw [fk] at hp
  have hrn:r≠[]:=fun h=>by subst h;simp at hp
  have hcl:=qK hrn
  have hls:=DH hrn
  refine cU (aU (a7 (bf rfl rfl (aH (x:=.const (.string ⟨#[]⟩)) rfl rfl (cm (aI ?_))))))
  refine XA (ι:=Unit) (fun _=>[(0,.func (.yield l) #[] #[]),(1,.pointer (some ⟨B,0,none⟩)),(3,.string (bs (fS r).1))]) (fun _ w3=>w3.heap[B]?=some (.cells #[.string (bs (fS r).2)] 9 (0,0))∧J pre w3) ?h1 ?h2
  case h1 =>
   refine aU (a7 (bf rfl rfl (bu (a:=⟨B,0,none⟩) rfl rfl (cell _ _ hBr) ?_)))
   refine bf rfl rfl (ar (v0:=.string (bs r)) (v1:=.int .u8 10) rfl rfl rfl rfl ((TJ (bs r) 10 wr).mono ?_))
   rintro _ w' ⟨rfl,rfl⟩
   rw [ua]
   refine ⟨_,rfl,bf rfl rfl (aH (x:=.tmp 9) (v:=.int .i64 (Lib.indexByte r 10)) rfl rfl (cm (aI ?_)))⟩
   refine aU (a7 (bf rfl rfl (aH (x:=.tmp 4) (v:=.int .i64 (Lib.indexByte r 10)) rfl rfl ?_)))
   refine bf rfl rfl (rM (a:=Lib.indexByte r 10) (b:=0) rfl rfl rfl (cm (aI ?_)))
   have hM:Own [B] w' w' [.blk B 9 [.string (bs r)]]:=Own.sa (l:=[.blk B 9 [.string (bs r)]]) ⟨fun x hx=>by cases List.mem_singleton.1 hx;exact hBr,by show [B].Nodup;simp⟩
   refine dq (p:=(0:Int)≤Lib.indexByte r 10) rfl (fun hi=>?_) (fun hi=>?_)
   ·have hil:Lib.indexByte r 10<(r.length:Int):=by
     rcases GL 10 r with h1|h1
     ·exact h1
     ·exact absurd h1.1 hrn
    have e0:(Lib.indexByte r 10+1).toNat=(Lib.indexByte r 10).toNat+1:=by omega
    have e1:(bs r).extract 0 (Lib.indexByte r 10+1).toNat=bs (fS r).1:=by
     rw [j9,e0]
     unfold fS
     rw [if_pos hi]
     rfl
    have e2:(bs r).extract (Lib.indexByte r 10+1).toNat (bs r).size=bs (fS r).2:=by
     rw [j9,e0,fk,List.take_of_length_le (by rw [List.length_drop];omega)]
     unfold fS
     rw [if_pos hi]
    refine bB [(0,false),(1,false),(2,false),(3,false),(4,false),(5,false),(6,false),(7,false),(8,false),(9,true)] R.mixed wx hM fun w1 hM1=>?_
    refine JB (v:=.string (bs r)) wx iZ rfl rfl (fun w0 hS=>dt (j:=0) (g:=B) rfl rfl rfl hS (.head _) rfl ⟨rfl,rfl⟩) rfl ?_
    refine rj (v:=.int .i64 (Lib.indexByte r 10)) rfl rfl (fun w0 _=>aH (x:=.tmp 4) rfl rfl ⟨rfl,rfl⟩) rfl ?_
    refine rj (v:=.int .i64 (Lib.indexByte r 10+1)) rfl rfl (fun w0 _=>jW (a:=Lib.indexByte r 10) (b:=1) rfl rfl rfl (by constructor <;> omega) ⟨rfl,rfl⟩) rfl ?_
    refine rj (v:=.string (bs (fS r).1)) rfl rfl (fun w0 _=>DG (s:=bs r) (hi:=Lib.indexByte r 10+1) rfl rfl rfl xj (by rw [fk];omega) ⟨by rw [e1],rfl⟩) rfl ?_
    refine JB (v:=.string (bs r)) wx iZ rfl rfl (fun w0 hS=>dt (j:=0) (g:=B) rfl rfl rfl hS (.head _) rfl ⟨rfl,rfl⟩) rfl ?_
    refine rj (v:=.int .i64 (Lib.indexByte r 10)) rfl rfl (fun w0 _=>aH (x:=.tmp 4) rfl rfl ⟨rfl,rfl⟩) rfl ?_
    refine rj (v:=.int .i64 (Lib.indexByte r 10+1)) rfl rfl (fun w0 _=>jW (a:=Lib.indexByte r 10) (b:=1) rfl rfl rfl (by constructor <;> omega) ⟨rfl,rfl⟩) rfl ?_
    refine rj (v:=.string (bs (fS r).2)) rfl rfl (fun w0 _=>DF (s:=bs r) (lo:=Lib.indexByte r 10+1) rfl rfl rfl xj (by rw [fk];omega) ⟨by rw [e2],rfl⟩) rfl ?_
    refine rj (v:=.string (bs (fS r).1)) rfl rfl (fun w0 _=>aH (x:=.tmp 15) rfl rfl ⟨rfl,rfl⟩) rfl ?_
    refine Hu rfl wx (fh (g:=B) (j:=0) (v:=.string (bs (fS r).2)) (l':=[.blk B 9 [.string (bs (fS r).2)]]) rfl rfl rfl rfl rfl hM1 .head Nat.zero_lt_one fun w2 hM2=>?_)
    refine Ht (aI ⟨(),⟨rfl,rfl,rfl,trivial⟩,hM2.ok _ (.head _),hJ2 _ _ _ _ hJr ⟨hM2.os,hM2.tape,hM2.output,hM2.size,fun k hk hne=>hM2.kept k hk (by simpa using fun e=>hne (by rw [e]))⟩ (hM2.ok _ (.head _))⟩)
   ·have e1:(fS r).1=r:=by unfold fS;rw [if_neg hi]
    have e2:(fS r).2=[]:=by unfold fS;rw [if_neg hi]
    refine a7 (bf rfl rfl (dt (j:=0) (g:=B) rfl rfl rfl hM (.head _) rfl ?_))
    refine bf rfl rfl (aH (x:=.tmp 20) (v:=.string (bs r)) rfl rfl ?_)
    refine bf rfl rfl (fh (g:=B) (j:=0) (v:=.string (bs [])) (l':=[.blk B 9 [.string (bs [])]]) rfl rfl rfl rfl rfl hM .head Nat.zero_lt_one fun w2 hM2=>?_)
    refine cm (aI ⟨(),⟨rfl,rfl,by rw [e1];rfl,trivial⟩,by rw [e2];exact hM2.ok _ (.head _),hJ2 _ _ _ _ hJr ⟨hM2.os,hM2.tape,hM2.output,hM2.size,fun k hk hne=>hM2.kept k hk (by simpa using fun e=>hne (by rw [e]))⟩ (hM2.ok _ (.head _))⟩)
  case h2 =>
   rintro _ f3 w3 ⟨hB3,hJ3⟩
   refine aU (dI 4 ?_)
   refine aJ (fun _=>trivial) rfl (fun c h=>by cases h) rfl ?_
   refine aH (x:=.tmp 0) (v:=.func (.yield l) #[] #[]) rfl rfl ?_
   refine aJ (fun _=>trivial) rfl (fun c h=>by cases h) rfl ?_
   refine aH (x:=.tmp 3) (v:=.string (bs (fS r).1)) rfl rfl ?_
   refine qH rfl (fun _=>trivial) rfl rfl vj rfl (hY pre (fS r).1 w3 hJ3 xj xj) ?_
   rintro e w4 ⟨rfl,hJ4,hB4⟩
   refine ⟨_,rfl,?_⟩
   refine aJ (fun _=>trivial) rfl (fun c h=>by cases h) rfl ?_
   refine jY (b:=true) rfl rfl ?_
   refine dy (aI ?_)
   refine cM rfl (d5 (iE (aI ?_)))
   refine ⟨((fS r).2,pre++[(fS r).1]),⟨rfl,rfl,trivial⟩,⟨hB4.trans hB3,hJ4,?_,?_⟩,?_⟩
   ·rw [← hl,hls,List.append_assoc]
    rfl
   ·simp only [List.length_append,List.length_singleton]
    omega
   ·show (fS r).2.length<r.length
    omega
 ·obtain rfl:r=[]:=by
   rw [fk] at hp
   exact List.length_eq_zero_iff.1 xj
  rw [TK,List.append_nil] at hl
  subst hl
  exact fC (fC (gG rfl (xN ⟨_,fun tmps _=>results_none rfl tmps _ _,⟨_,rfl⟩,hJr⟩)))
end R
namespace R
open Go.ChangeMaps (setBlock)
def I9 (M E Y:TypeId):Code :=
 (Code.region 0 #[{ dst:=some 4,op:=.load M (.tmp 1),type:=M,pos:= "iter.go:27",after:=#[],guard:=none },{ dst:=some 5,op:=.range M (.tmp 4),type:=0,pos:= "iter.go:27",after:=#[{ on:=0,ground:=.data }],guard:=none }] false).seq
  (.block 0 ((Code.region 1 #[{ dst:=some 6,op:=.next (.tmp 5) false,type:=0,pos:= "iter.go:27",after:=#[],guard:=none },{ dst:=some 7,op:=.extract (.tmp 6) 0,type:=4,pos:= "iter.go:27",after:=#[{ on:=0,ground:=.data }],guard:=none }] false).seq
   ((Code.cond (.tmp 7) .skip (.exit 0)).seq
    (Code.block 1 ((Code.region 2 #[{ dst:=some 8,op:=.entry (.tmp 5),type:=0,pos:= "iter.go:27",after:=#[],guard:=none },{ dst:=some 9,op:=.extract (.tmp 8) 0,type:=E,pos:= "iter.go:27",after:=#[{ on:=0,ground:=.data }],guard:=none },{ dst:=some 3,op:=.assign (.tmp 9),type:=E,pos:= "iter.go:27",after:=#[{ on:=1,ground:=.data },{ on:=0,ground:=.phase },{ on:=1,ground:=.phase }],guard:=none }] false).seq
     ((Code.region 3 #[{ dst:=some 10,op:=.move (.tmp 0),type:=Y,pos:= "iter.go:28",after:=#[],guard:=none },{ dst:=some 11,op:=.move (.tmp 3),type:=E,pos:= "iter.go:28",after:=#[],guard:=none },{ dst:=some 12,op:=.call { callee:=.value (.tmp 10),args:=#[.tmp 11],argTypes:=#[E] },type:=4,pos:= "iter.go:28",after:=#[{ on:=0,ground:=.data },{ on:=1,ground:=.data }],guard:=none },{ dst:=some 13,op:=.unOp .not 4 (.tmp 12),type:=4,pos:= "iter.go:28",after:=#[{ on:=2,ground:=.data }],guard:=none }] false).seq
      (Code.cond (.tmp 13) .ret .skip)))))).loop)
section
variable {P:Program} {g:FuncId} {fn:Func} {M E Y kt et:TypeId} {T:Type} {val:T→Value} {w0:World} {b B clock:Nat} {es:Array MapEntry} {Kf:MapEntry→T}
set_option maxHeartbeats 2000000 in
theorem yj (hfn:P.funcs[g]?=some fn) (hb:fn.body=some (I9 M E Y)) (hn:fn.ntmps=14) (hr:fn.results=#[]) (ht:P.underlying M=some (.map kt et)) [aG P M false]
  (hB:w0.cell? ⟨B,0,none⟩=some (.map (some b))) (hBl:B<w0.heap.size) (hm:w0.heap[b]?=some (.map es clock)) (hnd:(es.toList.map (·.born)).Nodup) (hborn:∀ x∈es.toList,x.born<clock)
  (hkey:∀ e∈es.toList,e.key=val (Kf e)) (w1:World) (hw1:Below w0.heap.size w0 w1) :
  SeqStopsK Fence.wide 4 P g #[.pointer (some ⟨B,0,none⟩)] (fun x:T=>#[val x]) (Oo w0.heap.size) (fun xs=>xs.Perm (es.toList.map Kf)) (fun _=>True) es.size w1:=by
 intro l J Jx W hW hJ hJx hY h0
 have hWb:Below w0.heap.size w0 W:=hw1.trans (hW.mono hw1.size)
 have hbl:b<w0.heap.size:=(Array.getElem?_eq_some_iff.1 hm).1
 refine callsIn_wide.2 ?_
 show Calls P g [.func (.yield l) #[] #[],.pointer (some ⟨B,0,none⟩)].toArray W _
 refine aa hfn hb hn (Nat.le_of_ble_eq_true rfl) ?_
 unfold I9
 refine aU (dI 4 ?_)
 refine aJ (fun _=>trivial) rfl (fun c h=>by cases h) rfl ?_
 refine bu (a:=⟨B,0,none⟩) (v:=.map (some b)) rfl rfl ((hWb.cell (p:=⟨B,0,none⟩) hBl).trans hB) ?_
 refine aJ (fun _=>trivial) rfl (fun c h=>by cases h) rfl ?_
 refine DC rfl rfl ht ((hWb.block b hbl).trans hm) ?_
 refine dy (aI ?_)
 have hga:W.grownBy (W.alloc (.mapIter (some b) clock #[] clock)) none:=World.grownBy_alloc W _ none
 refine cU (au (ι:=List T×Array Nat) (fun _=>[(0,.func (.yield l) #[] #[]),(5,.pointer (some ⟨W.heap.size,0,none⟩))])
  (fun i wr=>J i.1 wr∧Below w0.heap.size w0 wr∧W.heap.size≤wr.heap.size∧i.1.Perm ((es.toList.filter fun x=>i.2.contains x.born).map Kf)∧∃ c0,clock≤c0∧wr.heap[W.heap.size]?=some (.mapIter (some b) clock i.2 c0)) (fun i=>(leftOf es i.2).size)
  ⟨([],#[]),⟨rfl,rfl,trivial⟩,hJ _ W _ none h0 hga (fun r e=>by cases e),hWb.trans ((Below.refl _ W).alloc hWb.size _),hga.size,by simp,clock,Nat.le_refl _,World.alloc_heap_new W _⟩ ?_)
 rintro ⟨xs,seen⟩ f wr ⟨hJk,hbk,hsz,hperm,c0,hc0,hit⟩
 refine aU (dI 4 ?_)
 refine aJ (fun _=>trivial) rfl (fun c h=>by cases h) rfl ?_
 refine I8 rfl rfl hit ((hbk.block b hbl).trans hm) hborn hc0 (fun hz=>?_) (fun e he w2 hg2 hs2 hr2 hb2=>?_)
 ·refine aJ (fun _=>trivial) rfl (fun c h=>by cases h) rfl ?_
  refine cz (v:=.bool false) rfl rfl rfl ?_
  refine dy (aI (aU (cM rfl (gH ?_))))
  have hall:=all_seen es seen hz
  have hfe:(es.toList.filter fun x=>seen.contains x.born)=es.toList:=List.filter_eq_self.2 hall
  dsimp only at hperm
  rw [hfe] at hperm
  exact fC (fC (gG rfl (xN ⟨_,fun tmps _=>results_none hr tmps P _,⟨_,rfl⟩,.inl ⟨_,hperm,hJk⟩⟩)))
 ·obtain ⟨hem,hes⟩:=mem_left he
  have hw0W:w0.heap.size≤W.heap.size:=hWb.size
  have hb2':Below w0.heap.size w0 w2:=hbk.grown hg2 hbk.size (fun k e=>by cases e;exact hw0W)
  have hJ2:J xs w2:=hJ _ wr w2 _ hJk hg2 (fun r e=>by cases e;exact ⟨Nat.le_refl _,_,hit,rfl⟩)
  refine aJ (fun _=>trivial) rfl (fun c h=>by cases h) rfl ?_
  refine cz (v:=.bool true) rfl rfl rfl ?_
  refine dy (aI (aU (dN rfl (d5 (aI (cU (aU (dI 4 ?_))))))))
  refine aJ (fun _=>trivial) rfl (fun c h=>by cases h) rfl ?_
  refine DD rfl rfl hr2 hb2 hem hnd ?_
  refine aJ (fun _=>trivial) rfl (fun c h=>by cases h) rfl ?_
  refine cz (v:=val (Kf e)) rfl rfl (by rw [← hkey e hem];rfl) ?_
  refine aJ (fun _=>trivial) rfl (fun c h=>by cases h) rfl ?_
  refine aH (x:=.tmp 9) (v:=val (Kf e)) rfl rfl ?_
  refine dy (aI ?_)
  refine aU (dI 4 ?_)
  refine aJ (fun _=>trivial) rfl (fun c h=>by cases h) rfl ?_
  refine aH (x:=.tmp 0) (v:=.func (.yield l) #[] #[]) rfl rfl ?_
  refine aJ (fun _=>trivial) rfl (fun c h=>by cases h) rfl ?_
  refine aH (x:=.tmp 3) (v:=val (Kf e)) rfl rfl ?_
  have hlx:xs.length<es.size:=by
   have h1:=hperm.length_eq
   have h2:=DB (fun x=>seen.contains x.born) hem hes
   simp only [List.length_map] at h1
   simp only [Array.length_toList] at h2
   omega
  have hp2:(xs++[Kf e]).Perm ((es.toList.filter fun x=>(seen.push e.born).contains x.born).map Kf):=by
   have h1:=(se (fun x=>seen.contains x.born) hnd hem hes).map Kf
   have h2:(es.toList.filter fun x=>(seen.push e.born).contains x.born)=es.toList.filter fun x=>seen.contains x.born||x.born == e.born:=List.filter_congr fun x _=>contains_push _ _ _
   rw [h2]
   refine List.Perm.trans ?_ h1.symm
   rw [List.map_append]
   exact hperm.append_right _
  refine qH rfl (fun _=>trivial) rfl rfl vj rfl (hY _ (Kf e) w2 hJ2 hlx) ?_
  rintro e' w5 (⟨rfl,hJ5,hK5⟩|⟨rfl,hJx5⟩)
  ·refine ⟨_,rfl,?_⟩
   refine aJ (fun _=>trivial) rfl (fun c h=>by cases h) rfl ?_
   refine jY (b:=true) rfl rfl ?_
   refine dy (aI ?_)
   refine cM rfl (d5 (iE (aI ?_)))
   refine ⟨(xs++[Kf e],seen.push e.born),⟨rfl,rfl,trivial⟩,⟨hJ5,?_,?_,hp2,clock,Nat.le_refl _,hK5.2.same _ _ hr2 rfl⟩,left_shrinks es seen e he⟩
   ·exact hb2'.trans hK5.1
   ·have:=hK5.1.size
    omega
  ·refine ⟨_,rfl,?_⟩
   refine aJ (fun _=>trivial) rfl (fun c h=>by cases h) rfl ?_
   refine jY (b:=false) rfl rfl ?_
   refine dy (aI ?_)
   refine dN rfl (jV (fN (jU (fN (CZ ?_)))))
   exact ⟨_,fun tmps _=>results_none hr tmps P _,⟨_,rfl⟩,.inr ⟨_,trivial,hJx5⟩⟩
end
def Oy (M:TypeId) (X:Code):Code :=
 (Code.region 0 #[{ dst:=some 4,op:=.load M (.tmp 1),type:=M,pos:= "iter.go:27",after:=#[],guard:=none },{ dst:=some 5,op:=.range M (.tmp 4),type:=0,pos:= "iter.go:27",after:=#[{ on:=0,ground:=.data }],guard:=none }] false).seq
  (.block 0 ((Code.region 1 #[{ dst:=some 6,op:=.next (.tmp 5) false,type:=0,pos:= "iter.go:27",after:=#[],guard:=none },{ dst:=some 7,op:=.extract (.tmp 6) 0,type:=4,pos:= "iter.go:27",after:=#[{ on:=0,ground:=.data }],guard:=none }] false).seq
   ((Code.cond (.tmp 7) .skip (.exit 0)).seq X)).loop)
set_option maxHeartbeats 2000000 in
theorem keys_nil {P:Program} {g:FuncId} {fn:Func} {M kt et:TypeId} {X:Code} {T:Type} {encs:T→Array Value} {w0:World} {B N:Nat} (hfn:P.funcs[g]?=some fn) (hb:fn.body=some (Oy M X)) (hn:fn.ntmps=14) (hr:fn.results=#[]) (ht:P.underlying M=some (.map kt et)) [aG P M false]
  (hB:w0.cell? ⟨B,0,none⟩=some (.map none)) (hBl:B<w0.heap.size) (w1:World) (hw1:Below w0.heap.size w0 w1) :
  SeqStopsK Fence.wide 4 P g #[.pointer (some ⟨B,0,none⟩)] encs (Oo w0.heap.size) (fun xs=>xs=[]) (fun _=>True) N w1:=by
 intro l J Jx W hW hJ hJx hY h0
 have hWb:Below w0.heap.size w0 W:=hw1.trans (hW.mono hw1.size)
 refine callsIn_wide.2 ?_
 show Calls P g [.func (.yield l) #[] #[],.pointer (some ⟨B,0,none⟩)].toArray W _
 refine aa hfn hb hn (Nat.le_of_ble_eq_true rfl) ?_
 unfold Oy
 refine aU (dI 4 ?_)
 refine aJ (fun _=>trivial) rfl (fun c h=>by cases h) rfl ?_
 refine bu (a:=⟨B,0,none⟩) (v:=.map none) rfl rfl ((hWb.cell (p:=⟨B,0,none⟩) hBl).trans hB) ?_
 refine aJ (fun _=>trivial) rfl (fun c h=>by cases h) rfl ?_
 refine Ld rfl rfl ht ?_
 refine dy (aI ?_)
 refine cU (au (ι:=Unit) (fun _=>[(0,.func (.yield l) #[] #[]),(5,.pointer (some ⟨W.heap.size,0,none⟩))])
  (fun _ wr=>wr=W.alloc (.mapIter none 0 #[] 0)) (fun _=>0) ⟨(),⟨rfl,rfl,trivial⟩,rfl⟩ ?_)
 rintro _ f wr rfl
 refine aU (dI 4 ?_)
 refine aJ (fun _=>trivial) rfl (fun c h=>by cases h) rfl ?_
 refine Ox rfl rfl (World.alloc_heap_new W _) ?_
 refine aJ (fun _=>trivial) rfl (fun c h=>by cases h) rfl ?_
 refine cz (v:=.bool false) rfl rfl rfl ?_
 refine dy (aI (aU (cM rfl (gH ?_))))
 exact fC (fC (gG rfl (xN ⟨_,fun tmps _=>results_none hr tmps P _,⟨_,rfl⟩,.inl ⟨_,rfl,hJ _ W _ none h0 (World.grownBy_alloc W _ none) (fun r e=>by cases e)⟩⟩)))
theorem TG {v:Value} (h:v.oneCell'=true):v.cells=[v].toArray:=by cases v <;> first|rfl|(simp [Value.oneCell'] at h)
def Le (E:TypeId):Code:=.region 2 #[{ dst:=some 5,op:=.assign (.tmp 7),type:=E,pos:= "iter.go:51",after:=#[],guard:=none }] false
def TH (S E:TypeId):Code:=.block 1 (.region 3 #[{ dst:=some 8,op:=.load S (.tmp 2),type:=S,pos:= "iter.go:52",after:=#[],guard:=none },{ dst:=some 9,op:=.move (.tmp 5),type:=E,pos:= "iter.go:52",after:=#[],guard:=none },{ dst:=some 10,op:=.buildSlice S 1 #[(0,.tmp 9)],type:=S,pos:= "iter.go:52",after:=#[{ on:=1,ground:=.data }],guard:=none },{ dst:=some 11,op:=.call { callee:=.builtin .append,args:=#[.tmp 8,.tmp 10],argTypes:=#[S,S] },type:=S,pos:= "iter.go:52",after:=#[{ on:=0,ground:=.data },{ on:=2,ground:=.data }],guard:=none },{ dst:=none,op:=.store S (.tmp 2) (.tmp 11),type:=0,pos:= "iter.go:52",after:=#[{ on:=3,ground:=.data },{ on:=3,ground:=.chain },{ on:=0,ground:=.phase },{ on:=1,ground:=.phase },{ on:=2,ground:=.phase },{ on:=3,ground:=.phase }],guard:=none }] false)
def Ja (S E Y:TypeId):Code :=
 (Code.region 0 #[{ dst:=some 2,op:=.box S (.tmp 0),type:=0,pos:= "iter.go:50",after:=#[],guard:=none },{ dst:=some 4,op:=.assign (.const (.slice none 0 0)),type:=S,pos:= "iter.go:50",after:=#[],guard:=none }] false).seq
  (((Code.region 1 #[{ dst:=some 6,op:=.move (.tmp 1),type:=Y,pos:= "iter.go:51",after:=#[],guard:=none }] false).seq (.block 0 (.rangeFunc (.tmp 6) #[7] (Le E) (TH S E)))).seq
   ((Code.region 4 #[{ dst:=some 12,op:=.load S (.tmp 2),type:=S,pos:= "iter.go:54",after:=#[],guard:=none },{ dst:=some 4,op:=.assign (.tmp 12),type:=S,pos:= "iter.go:54",after:=#[{ on:=0,ground:=.data },{ on:=0,ground:=.phase }],guard:=none }] false).seq .ret))
section
variable {P:Program} {g gf:FuncId} {fn:Func} {S E Y:TypeId} {T:Type} {val:T→Value} {bytes:Nat} {z:Value} {lb:Array Value} {w:World} {N:Nat} {Sx:List T→Prop}
set_option maxHeartbeats 2000000 in
theorem vQ (hfn:P.funcs[g]?=some fn) (hb:fn.body=some (Ja S E Y)) (hn:fn.ntmps=13) (hr:fn.results=#[.tmp 4]) [ab P gf] [bq P S E 1] [cV P E z 1 bytes] [bY P E z] [iU P E T (fun x=>[val x]) 1] [aG P S false] [dP P S 1]
  (hone:∀ x,(val x).oneCell'=true) (hNb:N*bytes≤140737488355328) (hN:N≤9223372036854775807)
  (hseq:∀ w1,Below w.heap.size w w1→SeqStopsK Fence.wide 4 P gf lb (fun x:T=>#[val x]) (Oo w.heap.size) Sx (fun _=>True) N w1) :
  Calls P g #[.slice none 0 0,.func (.func gf) #[] lb] w fun e w'=>∃ A c xs,Sx xs∧(xs=[]→A=none∧c=0)∧e=.returned (.slice A xs.length c)∧Own [] w w' [.row A xs.length c E 1 (xs.flatMap fun x=>[val x])]:=by
 have hnm:∀ (A:Option Addr) (k c B:Nat) (cs:List Value) (v:List Value),vL [.row A k c E 1 cs,.blk B S v]:=fun A k c B cs v r hr b es q e=>by
  subst e
  rcases List.mem_cons.1 hr with h|h
  ·cases h
  ·cases List.mem_singleton.1 h
 refine (callsIn_wide (n:=5)).1 (callsIn_of_wp_marks hfn hb trivial ?_ rfl)
 rw [hn]
 have ha0:=vN 13 [.slice none 0 0,.func (.func gf) #[] lb] (Nat.le_of_ble_eq_true rfl)
 generalize hact:({ tmps:=[Value.slice none 0 0,.func (.func gf) #[] lb].toArray++Array.replicate (13-[Value.slice none 0 0,.func (.func gf) #[] lb].toArray.size) Go.undef,defers:=[] }:Act)=a0 at ha0
 have hd0:a0.defers=[]:=by rw [← hact]
 unfold Ja
 refine wpIn_seq (wpIn_region_lit ((show IL P Fence.wide 5 13 _ _ [] _ (inits [.slice none 0 0,.func (.func gf) #[] lb]) w from ?_) a0 ha0 hd0))
 refine aJ (fun _=>trivial) rfl (fun c h=>by cases h) rfl ?_
 refine lT (v:=.slice none 0 0) rfl rfl rfl (Own.start [] w) fun gB w1 hM1=>?_
 refine aJ (fun _=>trivial) rfl (fun c h=>by cases h) rfl ?_
 refine aH (x:=.const (.slice none 0 0)) rfl rfl ?_
 refine fD fun a1 ha1 hd1=>?_
 refine wpIn_seq (wpIn_seq (wpIn_region_lit ((show IL P Fence.wide 5 13 _ _ [] _ _ w1 from ?_) a1 ha1 hd1)))
 refine aJ (fun _=>trivial) rfl (fun c h=>by cases h) rfl ?_
 refine aH (x:=.tmp 1) (v:=.func (.func gf) #[] lb) rfl rfl ?_
 refine fD fun a2 ha2 hd2=>?_
 have hev6:a2.eval (.tmp 6)=.func (.func gf) #[] lb:=by rw [ha2.eval];rfl
 have hM1':Own [] w w1 [.row none 0 0 E 1 [],.blk gB S [.slice none 0 0]]:=hM1.nil E 1
 have hB1:=hM1.below
 refine wpIn_block ?_
 refine wpIn_rangeFunc_ownH (F:=Fence.wide) (n:=5) (w:=w1) rfl vj (gf:=gf) (lb:=lb) hev6 trivial (fun args w=>aM inferInstance args w) (hseq w1 hB1)
  (fun h k=>h.trans k) (fun W l o o' hl ho hc hwk=>⟨belowK_b (w:=w1) hB1.size W l o o' hl ho hc hwk,walksK_b (w:=w1) W l o o' hl ho hc hwk⟩) (Below.refl _ _) (fun _=>rfl)
  (fun pre W=>∃ x:Option Addr×Nat,Own [] w W [.row x.1 pre.length x.2 E 1 (pre.flatMap fun x=>[val x]),.blk gB S [.slice x.1 pre.length x.2]]∧(pre=[]→x.1=none∧x.2=0))
  (fun _ _ _=>False)
  (DA hM1.size (fun (pre:List T) (x:Option Addr×Nat)=>[.row x.1 pre.length x.2 E 1 (pre.flatMap fun x=>[val x]),.blk gB S [.slice x.1 pre.length x.2]]) _ (fun s x=>hnm _ _ _ _ _ _))
  (fun _ _ _ _ _ hs _ _=>hs)
  ⟨(none,0),hM1',fun _=>⟨rfl,rfl⟩⟩
  (fun x a' _=>∃ f,vM 13 a' f∧a'.defers=[]∧f 2=.pointer (some ⟨gB,0,none⟩)∧f 5=val x)
  (fun x a' u X Z row hs hg hrw=>hs)
  ?assign ?body ?done ?stop
 case assign =>
  rintro l pre x W K ⟨⟨A,c⟩,hI,hnil⟩ hK
  have hIs:vM 13 { tmps:=((#[7]:Array Tmp).zip #[val x]).foldl (fun t (p,v)=>t.setIfInBounds p v) a2.tmps,defers:=[] } (cw (cH (cH (cH (inits [.slice none 0 0,.func (.func gf) #[] lb]) (some 2) (.pointer (some ⟨gB,0,none⟩))) (some 4) (.slice none 0 0)) (some 6) (.func (.func gf) #[] lb)) 7 (val x)):=by
   have:=(ha2.put (some 7) (val x) rfl).1
   have e:((#[7]:Array Tmp).zip #[val x]).foldl (fun t (p,v)=>t.setIfInBounds p v) a2.tmps=a2.tmps.setIfInBounds 7 (val x):=by
    rw [← Array.foldl_toList,Array.toList_zip]
    rfl
   rw [e]
   exact ⟨this.size,this.get⟩
  have hF:=Own.sa hI.N3
  refine wpIn_region_lit ((show IL P (Fence.wide.inRound l) _ 13 _ _ [] _ _ W from ?_) _ hIs rfl)
  refine aJ (d7 l) rfl (fun c h=>by cases h) rfl ?_
  refine aH (x:=.tmp 7) (v:=val x) rfl rfl ?_
  refine fD fun a3 ha3 hd3=>?_
  have hk:=j8 hI (hnm _ _ _ _ _ _) hF
  exact hK a3 W (hk.2 _) hk.1 ⟨(A,c),hI,hnil⟩ ⟨_,ha3,hd3,rfl,rfl⟩
 case body =>
  rintro l pre x a' W hl ⟨r,hr'⟩ ⟨⟨A,c⟩,hI,hnil⟩ ⟨f,ha,hd,h2,h5⟩ hlen
  dsimp only at hI hnil
  have hF:=Own.sa hI.N3
  refine wpIn_block (wpIn_region_lit ((show IL P (Fence.wide.inRound l) _ 13 _ _ [] _ f W from ?_) a' ha hd))
  refine aJ (d7 l) rfl (fun c h=>by cases h) rfl ?_
  refine dt (j:=0) rfl h2 rfl hF (.tail _ (.head _)) rfl ?_
  refine aJ (d7 l) rfl (fun c h=>by cases h) rfl ?_
  refine aH (x:=.tmp 5) (v:=val x) rfl (show cH f (some 8) _ 5=_ from h5) ?_
  refine aJ (d7 l) rfl (fun c h=>by cases h) rfl ?_
  refine ou (v0:=val x) (d0:=[val x]) rfl rfl (Nat.le_of_ble_eq_true rfl) hF (TG (hone x)) rfl fun A1 c1 w2 hM2=>?_
  refine aJ (d7 l) rfl (fun c h=>by cases h) rfl ?_
  refine mD (enc:=fun x=>[val x]) (L:=pre) (M:=[x]) (l':=fun A2 c2=>[.row A1 1 c1 E 1 [val x],.row A2 (pre.length+1) c2 E 1 ((pre++[x]).flatMap fun x=>[val x]),.blk gB S [.slice A pre.length c]]) rfl rfl rfl hM2 (fun A2 c2=>.tail .head) ⟨rfl⟩ (hM2.rd (.head _)) ⟨by simp⟩ xj ?_ fun A2 c2 w3 hM3=>?_
  ·exact Nat.le_trans (Nat.mul_le_mul_right _ (show pre.length+1≤N by omega)) hNb
  refine aJ (d7 l) rfl (fun c h=>by cases h) rfl ?_
  refine fh (g:=gB) (j:=0) (v:=.slice A2 (pre.length+1) c2) (l':=[.row A1 1 c1 E 1 [val x],.row A2 (pre.length+1) c2 E 1 ((pre++[x]).flatMap fun x=>[val x]),.blk gB S [.slice A2 (pre.length+1) c2]]) rfl h2 rfl rfl rfl hM3 (.tail (.tail .head)) Nat.zero_lt_one fun w4 hM4=>?_
  refine fD fun a3 ha3 hd3=>?_
  have hM5:=hM4.tl
  have hk:=j8 hI (hnm _ _ _ _ _ _) hM5
  refine ⟨hk.2 _,hk.1,(A2,c2),?_,fun h=>by simp at h⟩
  have:=Own.Ay hI hM5
  simpa using this
 case done =>
  rintro D xs W hD hS ⟨⟨A,c⟩,hM,hnil⟩ hK
  dsimp only at hM hnil
  have ha3:vM 13 { a2 with defers:={ target:=.collected D,args:=#[] }::a2.defers } _:=⟨ha2.size,ha2.get⟩
  refine wpIn_seq (wpIn_region_lit ((show IL P Fence.wide 5 13 _ _ ({ target:=.collected D,args:=#[] }::a2.defers) _ _ W from ?_) _ ha3 rfl))
  refine aJ (fun _=>trivial) rfl (fun c h=>by cases h) rfl ?_
  refine dt (j:=0) (g:=gB) rfl rfl rfl hM (.tail _ (.head _)) rfl ?_
  refine aJ (fun _=>trivial) rfl (fun c h=>by cases h) rfl ?_
  refine aH (x:=.tmp 12) (v:=.slice A xs.length c) rfl rfl ?_
  refine fD fun a4 ha4 hd4=>?_
  refine wpIn_ret ?_
  show LeavesInM Fence.wide 5 P fn a4.tmps _ a4.defers .returning W
  rw [hd4,hd2]
  refine ⟨by simp,.inl ⟨_,_,rfl,run_takeDeferred hK,?_⟩⟩
  refine ⟨_,results_tmp hr _ _ _,A,c,xs,hS,hnil,?_,?_⟩
  ·rw [ha4.get]
   rfl
  ·have hM':Own [] w W [.row A xs.length c E 1 (xs.flatMap fun x=>[val x])]:=hM.sub (by simp)
   refine hM'.turn (grownBy_putObj' W D _) fun k e=>?_
   cases e
   refine ⟨Nat.le_trans hM1.size hD,fun r hm hk=>?_⟩
   obtain ⟨o,ho,hc⟩:=hM.cells (hnm _ _ _ _ _ _) (List.mem_of_mem_head? (by rw [List.mem_singleton.1 hm];rfl)) hk
   rw [hK] at ho
   cases ho
   cases hc
 case stop =>
  rintro D c pre W _ _ h _
  exact h.elim
end
end R
end Go.Proofs.YtlmabdegojeheaaGreatDoor
