/- WholeTurned: parts of its proof (Ev Ex Rm Rn). -/
import Derived.Test.YtlmabdegojeheaaGreatDoorEsEu
import Derived.Lib.Builder
import Derived.Lib.Bytealg
import Derived.Lib.MakeNoZero
import Derived.Test.YtlmabdegojeheaaGreatDoorRjUu
namespace Go.Proofs.YtlmabdegojeheaaGreatDoor
open R Go.RowKit
namespace E
noncomputable def Gb:List V→H→Nat→HR:=fun vs h nx=>match vs with|[x]=>some (x,h,nx)|_=>none
noncomputable def Da (c:Nat) (l:List UInt8):Nat→Int:=List.rec (motive:=fun _=>Nat→Int) (fun _=>.negSucc 0) (fun x _ ih i=>bif Nat.beq x.toNat c then .ofNat i else ih (Nat.succ i)) l
noncomputable def Nu:List V→H→Nat→HR:=fun vs h nx=>match vs with|[.s l,.i k (.ofNat c)]=>bif kb k .u8&&Nat.blt c 256 then some (.i .i64 (Da c l 0),h,nx) else none|_=>none
noncomputable def Db (c:Nat) (l:List UInt8):Nat→Nat:=List.rec (motive:=fun _=>Nat→Nat) (fun n=>n) (fun x _ ih n=>bif Nat.beq x.toNat c then ih (Nat.succ n) else ih n) l
noncomputable def XW:List V→H→Nat→HR:=fun vs h nx=>match vs with|[.s l,.i k (.ofNat c)]=>bif kb k .u8&&Nat.blt c 256 then some (Ft (Db c l 0),h,nx) else none|_=>none
noncomputable def XX (e:TypeId):List V→H→Nat→HR:=fun vs h nx=>match vs with|[.i k (.ofNat n)]=>bif kb k .i64&&Nat.blt n 1000000 then h.dE nx (.row [] true e) fun h'=>some (.sl (some (nx,0)) n (.u 1),h',Nat.succ nx) else none|_=>none
noncomputable def z6 (e:TypeId) (sz:Nat) (cs:List V) (n:Nat) (h:H) (nx:Nat):HR:=bif Nat.beq n 0 then some (.sl none 0 (.k 0),h,nx) else h.dE nx (.row cs true e) fun h'=>some (.sl (some (nx,0)) n (.u sz),h',Nat.succ nx)
noncomputable def s4 (g:Nat) (e:TypeId) (sz:Nat):List V→H→Nat→HR:=fun vs h nx=>match vs with
 | [.sl none 0 (.k 0),.f (.func g') [] [.p (some (b,0))]]=>bif Nat.beq g g' then (match h.get b with
  | some (.row [.m none] _ _)=>some (.sl none 0 (.k 0),h,nx)
  | some (.row [.m (some r)] _ _)=>(match h.get r with
   | some (.mp [] _)=>some (.sl none 0 (.k 0),h,nx)
   | some (.mp [x] ck)=>bif (bif Nat.beq sz 1 then x.1.one else true)&&(x.1.cells.all V.one&&(Nat.beq x.1.cells.length sz&&Nat.blt x.2.2 ck)) then z6 e sz x.1.cells 1 h nx else none
   | _=>none)
  | _=>none) else none
 | _=>none
noncomputable def IJ (g:Nat) (e:TypeId) (sz:Nat):List V→H→Nat→HR:=fun vs h nx=>match vs with
 | [.sl none 0 (.k 0),.f (.func g') [] [.p (some (b,0))]]=>bif Nat.beq g g' then (match h.get b with
  | some (.row [.sl none 0 _] _ _)=>some (.sl none 0 (.k 0),h,nx)
  | some (.row [.sl (some (r,off)) len _] _ _)=>(match ic h r off (len*sz) with
   | some cs=>bif cs.all V.one&&Nat.blt len 1000000 then z6 e sz cs len h nx else none
   | none=>none)
  | _=>none) else none
 | _=>none
noncomputable def jB (l:List UInt8):List UInt8→List V:=List.rec (motive:=fun _=>List UInt8→List V) (fun cur=>List.rec (motive:=fun _=>List V) [] (fun _ _ _=>[V.s cur.reverse]) cur)
 (fun c _ ih cur=>bif Nat.beq c.toNat 10 then V.s cur.reverse::ih [] else ih (c::cur)) l
noncomputable def z7 (e:TypeId):List V→H→Nat→HR:=fun vs h nx=>match vs with|[.s l]=>bif Nat.blt l.length 1000000 then (fun ls=>z6 e 1 ls ls.length h nx) (jB l []) else none|_=>none
noncomputable def IK:List (Nat×(List V→H→Nat→HR)):=[
 (225,dD (zz Int.add)),(561,dD (zz Int.sub)),(185,dD (zz Int.mul)),(123,dD Vz),(181,dD VA),(480,dD Ng),(479,dD IF),(224,dD aai),(478,dD Nl),
 (118,dD Ni),(184,dD VB),(117,dD VC),(161,dD aak),(179,dD aam),(180,dD Nj),(114,dD VD),
 (119,dD aao),(71,dD aaq),(74,dD Nn),
 (543,dD aas),(541,dD VE),(542,dD VF),(555,dD II),(537,dD Ns),(93,dD aau),(364,dD VG),
 (90,Gb),(297,Nu),(425,XW),(419,XX 5),
 (79,s4 43 71 2),
 (559,s4 553 3 1),
 (182,IJ 122 113 26),
 (87,z7 9)]
noncomputable def vo (l:List (Nat×(List V→H→Nat→HR))) (g:Nat):Option (List V→H→Nat→HR):=List.rec (motive:=fun _=>Option (List V→H→Nat→HR)) none (fun x _ ih=>bif Nat.beq x.1 g then some x.2 else ih) l
end E
namespace E
theorem z8 {C:bO} {K:Value→World→Prop} {r:Result Next} {v:Value} {w':World} (h:r=.ok (.value v) w') (k:K v w'):WU C K r:=by
 subst h
 exact k
set_option maxRecDepth 100000 in
theorem Gd:fB Tryz.prog 90 Gb:=by
 intro vs h nx v h' aL ρ w xs hr hd hs hf _
 unfold Gb at hr
 split at hr
 ·cases hr
  obtain ⟨x,rfl,hx⟩:=xw hd
  have hrun:(callFunc 90 #[x]).run Tryz.prog w=.ok (.value x) w:=by
   rw [run_callFunc_extern Tryz.func90 wq wq wq (e:=Extern.AbiNoEscape.same) wq,Lib.run_noEscape]
   rfl
  exact z8 hrun ⟨ρ,hx,dH.refl hs _⟩
 ·cases hr
theorem Aa {x:UInt8} {c:Nat} (hc:c<256):(x == c.toUInt8)=Nat.beq x.toNat c:=by
 rw [bE]
 have e:(x=c.toUInt8)↔x.toNat=c:=by
  constructor
  ·intro h
   rw [h]
   simp [Nat.mod_eq_of_lt hc]
  ·intro h
   rw [← h]
   simp
 by_cases k:x.toNat=c
 ·rw [decide_eq_true k]
  exact beq_iff_eq.2 (e.2 k)
 ·rw [decide_eq_false k,beq_eq_false_iff_ne]
  exact fun h=>k (e.1 h)
theorem Dc {c:Nat} (hc:c<256):∀ (l:List UInt8) (i:Nat),Da c l i=if Lib.indexByte l c.toUInt8=-1 then -1 else (i:Int)+Lib.indexByte l c.toUInt8
 | [],i=>rfl
 | x::l,i=>by
  have e1:Da c (x::l) i=bif Nat.beq x.toNat c then .ofNat i else Da c l (i+1):=rfl
  have e2:Lib.indexByte (x::l) c.toUInt8=if (x == c.toUInt8)=true then 0 else if (Lib.indexByte l c.toUInt8 == -1)=true then -1 else Lib.indexByte l c.toUInt8+1:=rfl
  have h0:=Lib.indexByte_ge l c.toUInt8
  rw [e1,e2,Aa hc,Dc hc l]
  cases Nat.beq x.toNat c with
  | true =>
   simp
  | false =>
   simp only [cond_false,Bool.false_eq_true,if_false,beq_iff_eq]
   by_cases k:Lib.indexByte l c.toUInt8=-1
   ·simp [k]
   ·rw [if_neg k,if_neg k,if_neg (by omega)]
    omega
theorem vp {c:Nat} (hc:c<256):∀ (l:List UInt8) (n:Nat),Db c l n=n+Lib.countByte l c.toUInt8
 | [],n=>rfl
 | x::l,n=>by
  have e1:Db c (x::l) n=bif Nat.beq x.toNat c then Db c l (n+1) else Db c l n:=rfl
  rw [e1,vp hc l,vp hc l]
  unfold Lib.countByte
  rw [List.count_cons,Aa hc]
  cases Nat.beq x.toNat c with
  | true =>
   simp
   omega
  | false=>simp
set_option maxRecDepth 100000 in
theorem KG:fB Tryz.prog 297 Nu:=by
 intro vs h nx v h' aL ρ w xs hr hd hs hf _
 unfold Nu at hr
 split at hr
 ·rename_i l k c
  obtain ⟨h1,h2⟩:=nX hr
  rw [Bool.and_eq_true,blt_eq] at h1
  have:=dC h1.1
  subst this
  have hc:=of_decide_eq_true h1.2
  cases h2
  obtain ⟨x,y,rfl,hx,hy⟩:=F9 hd
  cases hx
  cases hy
  have hrun:(callFunc 297 #[Value.string ⟨l.toArray⟩,Value.int .u8 (Int.ofNat c)]).run Tryz.prog w=.ok (.value (.int .i64 (Lib.indexByte l c.toUInt8))) w:=by
   rw [run_callFunc_extern Tryz.func297 wq wq wq (e:=Extern.BytealgIndexByte.indexByte) wq,Lib.run_indexByteString]
   rfl
  refine z8 hrun ⟨ρ,?_,dH.refl hs _⟩
  have e:Da c l 0=Lib.indexByte l c.toUInt8:=by
   have h0:=Lib.indexByte_ge l c.toUInt8
   rw [Dc hc]
   split <;> omega
  rw [e]
  exact .i _ _
 ·cases hr
set_option maxRecDepth 100000 in
theorem Nv:fB Tryz.prog 425 XW:=by
 intro vs h nx v h' aL ρ w xs hr hd hs hf _
 unfold XW at hr
 split at hr
 ·rename_i l k c
  obtain ⟨h1,h2⟩:=nX hr
  rw [Bool.and_eq_true,blt_eq] at h1
  have:=dC h1.1
  subst this
  have hc:=of_decide_eq_true h1.2
  cases h2
  obtain ⟨x,y,rfl,hx,hy⟩:=F9 hd
  cases hx
  cases hy
  have hrun:(callFunc 425 #[Value.string ⟨l.toArray⟩,Value.int .u8 (Int.ofNat c)]).run Tryz.prog w=.ok (.value (.int .i64 (Lib.countByte l c.toUInt8:Nat))) w:=by
   rw [run_callFunc_extern Tryz.func425 wq wq wq (e:=Extern.BytealgCount.count) wq,Lib.run_countString]
   rfl
  refine z8 hrun ⟨ρ,?_,dH.refl hs _⟩
  rw [vp hc,Nat.zero_add]
  exact .i _ _
 ·cases hr
set_option maxRecDepth 100000 in
theorem Nw:fB Tryz.prog 419 (XX 5):=by
 intro vs h nx v h' aL ρ w xs hr hd hs hf _
 unfold XX at hr
 split at hr
 ·rename_i k n
  obtain ⟨h1,h2⟩:=nX hr
  rw [Bool.and_eq_true,blt_eq] at h1
  have:=dC h1.1
  subst this
  have hn:=of_decide_eq_true h1.2
  rw [dh] at h2
  cases h2
  obtain ⟨x,rfl,hx⟩:=xw hd
  cases hx
  obtain ⟨cs,h3,h4,_⟩:=Lib.run_makeNoZero (P:=Tryz.prog) w #[3] 89 5 Tryz.underlying89 n xj
  have hrun:(callFunc 419 #[Value.int .i64 (n:Int)]).run Tryz.prog w=.ok (.value (.slice (some ⟨w.heap.size,0,none⟩) n cs.size)) (w.drew.drew.alloc (.cells cs 5)):=by
   rw [run_callFunc_extern Tryz.func419 wq wq wq (e:=Extern.BytealgMakeNoZero.makeNoZero #[3] #[89]) wq,h3]
   rfl
  have hfr:ρ nx=none:=hf nx (Nat.le_refl _)
  refine z8 hrun ⟨nU ρ nx (w.drew.drew.heap.size,cs.size),?_,((dH.alloc (sz:=cs.size) hs.drew.drew hfr ?_).yP).yP⟩
  ·exact .Ca (cQ _ _ _) (by simp) h4
  ·have e:cs=([]++cs.toList).toArray:=by simp
   have:=iL.row (ρ:=nU ρ nx (w.drew.drew.heap.size,cs.size)) (cs:=[]) (opn:=true) (t:=5) (xs:=[]) (tl:=cs.toList) (sz:=cs.size) .nil (fun h=>by cases h) (by simp)
   rw [← e] at this
   exact this
 ·cases hr
end E
namespace R
section
variable {P:Program} {C:bO} {o:Oper} {f:Fr} {w:World} {K:Value→World→Prop} {t:TypeId} {x i:Operand}
theorem ix {s:ByteArray} (hop:o.op=.call { callee:=.builtin .len,args:=#[x],argTypes:=#[t] }) [ht:gK P t .string] (hx:ev f x=.string s) (hk:K (.int .i64 s.size) w):WO P C o f w K:=by
 refine aO ?_ hk
 simp [execOp,hop,hx,resolve,invoke,builtin,Builtin.len_,run_underlying ht.h,goInt]
theorem DF {s:ByteArray} {k:IntKind} {lo:Int} (hop:o.op=.slice t x (some i) none none) [hu:gK P t .string] (hx:ev f x=.string s) (h1:ev f i=.int k lo) (h0:0≤lo) (hc:lo≤s.size) (hk:K (.string (s.extract lo.toNat s.size)) w):WO P C o f w K:=by
 refine aO ?_ hk
 have hr:=run_slice_string_l (P:=P) w t s hu.h k lo h0 hc
 simp [execOp,hop,hx,h1,Instr.sliceAt,run_underlying hu.h,hr]
theorem DG {s:ByteArray} {k:IntKind} {hi:Int} (hop:o.op=.slice t x none (some i) none) [hu:gK P t .string] (hx:ev f x=.string s) (h1:ev f i=.int k hi) (h0:0≤hi) (hc:hi≤s.size) (hk:K (.string (s.extract 0 hi.toNat)) w):WO P C o f w K:=by
 refine aO ?_ hk
 have hr:=run_slice_string_h (P:=P) w t s hu.h k hi h0 hc
 simp [execOp,hop,hx,h1,Instr.sliceAt,run_underlying hu.h,hr]
end
theorem aa0 {P:Program} {fn:Func} {f:Fr} {w:World} {t:Nat} {v:Value} {R:Ending→World→Prop} (h:fn.results=#[.tmp t]) (hv:f t=v) (hr:R (.returned v) w):kD P fn R .ret f w:=CZ (Vu h hv hr)
theorem tB {P:Program} {fn:Func} {n:Nat} {f:Fr} {w:World} {t:Nat} {v:Value} {R:Ending→World→Prop} (h:fn.results=#[.tmp t]) (hv:f t=v) (hr:R (.returned v) w):WC P n (kD P fn R) .ret f w:=jV (aa0 h hv hr)
def qI (a b:ByteArray):Bool:=decide (b.size≤a.size)&&((a.extract (a.size-b.size) a.size).toList == b.toList)
def qJ (a b:ByteArray):ByteArray:=if qI a b then a.extract 0 (a.size-b.size) else a
abbrev ZL (a:ByteArray):Prop:=a.size≤1000000
theorem TG (a b:ByteArray) (ha:ZL a) (hb:ZL b) (w:World):Calls Tryz.prog 251 #[.string a,.string b] w fun e w'=>e=.returned (.bool (qI a b))∧w'=w:=by
 have ha:a.size≤1000000:=ha
 have hb:b.size≤1000000:=hb
 show Calls _ _ [Value.string a,.string b].toArray w _
 refine aa (fn:=Tryz.f251) Tryz.func251 rfl Tryz.ntmps251 (Nat.le_of_ble_eq_true rfl) ?_
 refine aU (a7 (bf rfl rfl (aH (x:=.const (.bool false)) rfl rfl (cm (aI ?_)))))
 refine aU (a7 (bf rfl rfl (aH (x:=.tmp 0) (v:=.string a) rfl rfl ?_)))
 refine bf rfl rfl (ix (s:=a) rfl rfl ?_)
 refine bf rfl rfl (aH (x:=.tmp 1) (v:=.string b) rfl rfl ?_)
 refine bf rfl rfl (ix (s:=b) rfl rfl ?_)
 refine bf rfl rfl (rM (a:=(a.size:Int)) (b:=(b.size:Int)) rfl rfl rfl ?_)
 by_cases hle:b.size≤a.size
 ·rw [decide_eq_true (show ((b.size:Int)≤(a.size:Int)) by omega)]
  refine bf rfl rfl (aH (x:=.tmp 9) (v:=.bool true) rfl rfl ?_)
  refine iD rfl rfl (b:=true) rfl rfl (aH (x:=.tmp 0) (v:=.string a) rfl rfl ?_)
  refine iD rfl rfl (b:=true) rfl rfl (aH (x:=.tmp 0) (v:=.string a) rfl rfl ?_)
  refine iD rfl rfl (b:=true) rfl rfl (ix (s:=a) rfl rfl ?_)
  refine iD rfl rfl (b:=true) rfl rfl (aH (x:=.tmp 1) (v:=.string b) rfl rfl ?_)
  refine iD rfl rfl (b:=true) rfl rfl (ix (s:=b) rfl rfl ?_)
  refine iD rfl rfl (b:=true) rfl rfl (lM (a:=(a.size:Int)) (b:=(b.size:Int)) rfl rfl rfl (by constructor <;> omega) ?_)
  refine iD rfl rfl (b:=true) rfl rfl (DF (s:=a) (lo:=(a.size:Int)-b.size) rfl rfl rfl xj xj ?_)
  refine iD rfl rfl (b:=true) rfl rfl (aH (x:=.tmp 1) (v:=.string b) rfl rfl ?_)
  refine iD rfl rfl (b:=true) rfl rfl (sx (a:=a.extract ((a.size:Int)-b.size).toNat a.size) (b:=b) rfl rfl rfl ?_)
  have e1:((a.size:Int)-b.size).toNat=a.size-b.size:=by omega
  have e2:qI a b=((a.extract (a.size-b.size) a.size).toList == b.toList):=by unfold qI;rw [decide_eq_true hle,Bool.true_and]
  rw [e1,← e2]
  refine bf rfl rfl (lK (v:=.bool (qI a b)) rfl rfl rfl ?_)
  refine bf rfl rfl (aH (x:=.tmp 20) (v:=.bool (qI a b)) rfl rfl (cm (aI ?_)))
  exact tB rfl rfl ⟨rfl,rfl⟩
 ·rw [decide_eq_false (show ¬ ((b.size:Int)≤(a.size:Int)) by omega)]
  have e2:qI a b=false:=by unfold qI;rw [decide_eq_false hle,Bool.false_and]
  rw [e2]
  refine bf rfl rfl (aH (x:=.tmp 9) (v:=.bool false) rfl rfl ?_)
  iterate 9 refine Il rfl rfl (c:=false) rfl rfl rfl ?_
  refine bf rfl rfl (lL (v:=.bool false) rfl rfl rfl ?_)
  refine bf rfl rfl (aH (x:=.tmp 20) (v:=.bool false) rfl rfl (cm (aI ?_)))
  exact tB rfl rfl ⟨rfl,rfl⟩
theorem Lf (a b:ByteArray) (ha:ZL a) (hb:ZL b) (w:World):Calls Tryz.prog 194 #[.string a,.string b] w fun e w'=>e=.returned (.string (qJ a b))∧w'=w:=by
 have ha':a.size≤1000000:=ha
 have hb':b.size≤1000000:=hb
 show Calls _ _ [Value.string a,.string b].toArray w _
 refine aa (fn:=Tryz.f194) Tryz.func194 rfl Tryz.ntmps194 (Nat.le_of_ble_eq_true rfl) ?_
 refine aU (a7 (bf rfl rfl (aH (x:=.const (.string ⟨#[]⟩)) rfl rfl (cm (aI ?_)))))
 refine aU (aU (a7 (bf rfl rfl (aH (x:=.tmp 0) (v:=.string a) rfl rfl ?_))))
 refine bf rfl rfl (aH (x:=.tmp 1) (v:=.string b) rfl rfl ?_)
 refine bf rfl rfl (ar (v0:=.string a) (v1:=.string b) rfl rfl rfl rfl ((TG a b ha hb w).mono ?_))
 rintro _ w' ⟨rfl,rfl⟩
 refine ⟨_,rfl,cm (aI (kN (t:=qI a b) rfl (fun h=>?_) (fun h=>d5 (aI ?_))))⟩
 ·have hle:b.size≤a.size:=by
   unfold qI at h
   rw [Bool.and_eq_true] at h
   exact of_decide_eq_true h.1
  have e1:qJ a b=a.extract 0 (a.size-b.size):=if_pos h
  have e2:((a.size:Int)-b.size).toNat=a.size-b.size:=by omega
  refine aU (a7 (bf rfl rfl (aH (x:=.tmp 0) (v:=.string a) rfl rfl ?_)))
  refine bf rfl rfl (aH (x:=.tmp 0) (v:=.string a) rfl rfl ?_)
  refine bf rfl rfl (ix (s:=a) rfl rfl ?_)
  refine bf rfl rfl (aH (x:=.tmp 1) (v:=.string b) rfl rfl ?_)
  refine bf rfl rfl (ix (s:=b) rfl rfl ?_)
  refine bf rfl rfl (lM (a:=(a.size:Int)) (b:=(b.size:Int)) rfl rfl rfl (by constructor <;> omega) ?_)
  refine bf rfl rfl (DG (s:=a) (hi:=(a.size:Int)-b.size) rfl rfl rfl xj xj ?_)
  rw [e2,← e1]
  refine bf rfl rfl (aH (x:=.tmp 14) (v:=.string (qJ a b)) rfl rfl (cm (aI ?_)))
  exact jV (jU (aa0 rfl rfl ⟨rfl,rfl⟩))
 ·have e1:qJ a b=a:=if_neg (by rw [h];exact Bool.false_ne_true)
  rw [e1]
  refine aU (a7 (bf rfl rfl (aH (x:=.tmp 0) (v:=.string a) rfl rfl ?_)))
  refine bf rfl rfl (aH (x:=.tmp 15) (v:=.string a) rfl rfl (cm (aI ?_)))
  exact tB rfl rfl ⟨rfl,rfl⟩
theorem AJ (a b:ByteArray) (ha:ZL a) (hb:ZL b) (w:World):Calls Tryz.prog 140 #[.string a,.string b] w fun e w'=>e=.returned (.string (qJ a b))∧w'=w:=by
 show Calls _ _ [Value.string a,.string b].toArray w _
 refine aa (fn:=Tryz.f140) Tryz.func140 rfl Tryz.ntmps140 (Nat.le_of_ble_eq_true rfl) ?_
 refine aU (a7 (bf rfl rfl (aH (x:=.const (.string ⟨#[]⟩)) rfl rfl (cm (aI ?_)))))
 refine aU (a7 (bf rfl rfl (aH (x:=.tmp 0) (v:=.string a) rfl rfl ?_)))
 refine bf rfl rfl (aH (x:=.tmp 1) (v:=.string b) rfl rfl ?_)
 refine bf rfl rfl (ar (v0:=.string a) (v1:=.string b) rfl rfl rfl rfl ((Lf a b ha hb w).mono ?_))
 rintro _ w' ⟨rfl,rfl⟩
 refine ⟨_,rfl,?_⟩
 refine bf rfl rfl (aH (x:=.tmp 7) (v:=.string (qJ a b)) rfl rfl (cm (aI ?_)))
 exact tB rfl rfl ⟨rfl,rfl⟩
theorem Oy (a:ByteArray) (c:UInt8) (w:World):Calls Tryz.prog 250 #[.string a,.int .u8 c.toNat] w fun e w'=>e=.returned (.int .i64 (Lib.indexByte a.data.toList c))∧w'=w:=by
 have hrun:(callFunc 297 #[Value.string a,Value.int .u8 (c.toNat:Int)]).run Tryz.prog w=.ok (.value (.int .i64 (Lib.indexByte a.data.toList c))) w:=by
  rw [run_callFunc_extern Tryz.func297 wq wq wq (e:=Extern.BytealgIndexByte.indexByte) wq,Lib.run_indexByteString]
  simp
 show Calls _ _ [Value.string a,.int .u8 c.toNat].toArray w _
 refine aa (fn:=Tryz.f250) Tryz.func250 rfl Tryz.ntmps250 (Nat.le_of_ble_eq_true rfl) ?_
 refine aU (a7 (bf rfl rfl (aH (x:=.const (.int .i64 0)) rfl rfl (cm (aI ?_)))))
 refine aU (a7 (bf rfl rfl (aH (x:=.tmp 0) (v:=.string a) rfl rfl ?_)))
 refine bf rfl rfl (aH (x:=.tmp 1) (v:=.int .u8 c.toNat) rfl rfl ?_)
 refine bf rfl rfl (FY (v0:=.string a) (v1:=.int .u8 c.toNat) rfl rfl rfl rfl hrun ?_)
 refine bf rfl rfl (aH (x:=.tmp 7) (v:=.int .i64 (Lib.indexByte a.data.toList c)) rfl rfl (cm (aI ?_)))
 exact tB rfl rfl ⟨rfl,rfl⟩
theorem TH (a:ByteArray) (c:UInt8) (w:World):Calls Tryz.prog 193 #[.string a,.int .u8 c.toNat] w fun e w'=>e=.returned (.int .i64 (Lib.indexByte a.data.toList c))∧w'=w:=by
 show Calls _ _ [Value.string a,.int .u8 c.toNat].toArray w _
 refine aa (fn:=Tryz.f193) Tryz.func193 rfl Tryz.ntmps193 (Nat.le_of_ble_eq_true rfl) ?_
 refine aU (a7 (bf rfl rfl (aH (x:=.const (.int .i64 0)) rfl rfl (cm (aI ?_)))))
 refine aU (a7 (bf rfl rfl (aH (x:=.tmp 0) (v:=.string a) rfl rfl ?_)))
 refine bf rfl rfl (aH (x:=.tmp 1) (v:=.int .u8 c.toNat) rfl rfl ?_)
 refine bf rfl rfl (ar (v0:=.string a) (v1:=.int .u8 c.toNat) rfl rfl rfl rfl ((Oy a c w).mono ?_))
 rintro _ w' ⟨rfl,rfl⟩
 refine ⟨_,rfl,?_⟩
 refine bf rfl rfl (aH (x:=.tmp 7) (v:=.int .i64 (Lib.indexByte a.data.toList c)) rfl rfl (cm (aI ?_)))
 exact tB rfl rfl ⟨rfl,rfl⟩
end R
namespace R
def bs (l:List UInt8):ByteArray:=⟨l.toArray⟩
theorem fk (l:List UInt8):(bs l).size=l.length:=by simp [bs,ByteArray.size]
theorem ua (l:List UInt8):(bs l).data.toList=l:=by simp [bs]
def fS (l:List UInt8):List UInt8×List UInt8:=if 0≤Lib.indexByte l 10 then (l.take ((Lib.indexByte l 10).toNat+1),l.drop ((Lib.indexByte l 10).toNat+1)) else (l,[])
def GJ:Nat→List UInt8→List (List UInt8)
 | 0,_=>[]
 | k+1,l=>match l with
  | []=>[]
  | c::r=>(fS (c::r)).1::GJ k (fS (c::r)).2
def GK (l:List UInt8):List (List UInt8):=GJ l.length l
theorem GL (c:UInt8):∀ l:List UInt8,Lib.indexByte l c<(l.length:Int)∨(l=[]∧Lib.indexByte l c=-1)
 | []=>.inr ⟨rfl,rfl⟩
 | x::l=>.inl (by
  show (if (x == c)=true then 0 else if (Lib.indexByte l c == -1)=true then -1 else Lib.indexByte l c+1)<_
  rcases GL c l with h|⟨rfl,h⟩
  ·split
   ·simp only [List.length_cons];omega
   ·split
    ·simp only [List.length_cons];omega
    ·simp only [List.length_cons];omega
  ·split
   ·simp
   ·rw [h]
    simp)
theorem qK {l:List UInt8} (h:l≠[]):(fS l).1.length+(fS l).2.length=l.length∧0<(fS l).1.length:=by
 have hp:0<l.length:=List.length_pos_iff.2 h
 unfold fS
 split
 ·have h1:=GL 10 l
  have h2:Lib.indexByte l 10<(l.length:Int):=by
   rcases h1 with h1|h1
   ·exact h1
   ·exact absurd h1.1 h
  simp only [List.length_take,List.length_drop]
  omega
 ·simp only [List.length_nil]
  omega
theorem yl:∀ (k m:Nat) (l:List UInt8),l.length≤k→l.length≤m→GJ k l=GJ m l
 | 0,0,l,_,_=>rfl
 | 0,m+1,l,h,_=>by
  obtain rfl:=List.length_eq_zero_iff.1 (Nat.le_zero.1 h)
  rfl
 | k+1,0,l,_,h=>by
  obtain rfl:=List.length_eq_zero_iff.1 (Nat.le_zero.1 h)
  rfl
 | k+1,m+1,[],_,_=>rfl
 | k+1,m+1,c::r,h1,h2=>by
  have:=qK (l:=c::r) (by simp)
  show _::GJ k _=_::GJ m _
  rw [yl k m _ xj (by omega)]
theorem TI:GK []=[]:=rfl
theorem DH {l:List UInt8} (h:l≠[]):GK l=(fS l).1::GK (fS l).2:=by
 cases l with
 | nil=>exact absurd rfl h
 | cons c r =>
  have:=qK (l:=c::r) (by simp)
  show _::GJ r.length _=_
  unfold GK
  rw [yl r.length _ _ (by simp only [List.length_cons] at this;omega) (Nat.le_refl _)]
theorem j9 (l:List UInt8) (a b:Nat):(bs l).extract a b=bs ((l.drop a).take (b-a)):=by
 unfold bs
 ext1
 simp
set_option maxRecDepth 20000 in
set_option maxHeartbeats 2000000 in
theorem GM (l B:Nat) (J:List (List UInt8)→World→Prop) (W:World) (s:List UInt8) (hs:s.length≤1000000)
  (hJ2:∀ xs X Y t,J xs X→X.grownBy Y (some B)→Y.heap[B]?=some (.cells #[.string t] 9 (0,0))→J xs Y)
  (hY:∀ pre x W1,J pre W1→pre.length<s.length→x.length≤s.length→YieldAt Fence.wide 3 Tryz.prog l #[.string (bs x)] W1 fun e W'=>e=.returned (.bool true)∧J (pre++[x]) W'∧W'.heap[B]?=W1.heap[B]?)
  (hB:W.heap[B]?=some (.cells #[.string (bs s)] 9 (0,0))) (h0:J [] W) :
  CallsIn Fence.wide 4 Tryz.prog 192 #[.func (.yield l) #[] #[],.pointer (some ⟨B,0,none⟩)] W fun e W'=>(∃ v,e=.returned v)∧J (GK s) W':=by
 refine callsIn_wide.2 ?_
 show Calls Tryz.prog 192 [Value.func (.yield l) #[] #[],Value.pointer (some ⟨B,0,none⟩)].toArray W fun e W'=>(∃ v,e=.returned v)∧J (GK s) W'
 refine aa (fn:=Tryz.f192) Tryz.func192 rfl Tryz.ntmps192 (Nat.le_of_ble_eq_true rfl) ?_
 have cell:∀ (X:World) (v:Value),X.heap[B]?=some (.cells #[v] 9 (0,0))→X.cell? ⟨B,0,none⟩=some v:=fun X v h=>by simp [World.cell?,h]
 refine cU (au (ι:=List UInt8×List (List UInt8)) (fun _=>[(0,.func (.yield l) #[] #[]),(1,.pointer (some ⟨B,0,none⟩))])
  (fun i wr=>wr.heap[B]?=some (.cells #[.string (bs i.1)] 9 (0,0))∧J i.2 wr∧i.2++GK i.1=GK s∧i.2.length+i.1.length≤s.length) (fun i=>i.1.length)
  ⟨(s,[]),⟨rfl,rfl,trivial⟩,hB,h0,rfl,by simp⟩ ?_)
 rintro ⟨r,pre⟩ f wr ⟨hBr,hJr,hl,hn⟩
 dsimp only at hBr hJr hl hn
 refine aU (aU (a7 (bf rfl rfl (bu (a:=⟨B,0,none⟩) rfl rfl (cell _ _ hBr) ?_))))
 refine bf rfl rfl (ix (s:=bs r) rfl rfl ?_)
 refine bf rfl rfl (u7 (a:=((bs r).size:Int)) (b:=0) rfl rfl rfl (cm (aI ?_)))
 refine dq (p:=(0:Int)<((bs r).size:Int)) rfl (fun hp=>d5 (aI ?_)) (fun hp=>gH ?_)
 ·rw [fk] at hp
  have hrn:r≠[]:=fun h=>by subst h;simp at hp
  have hcl:=qK hrn
  have hls:=DH hrn
  refine cU (aU (a7 (bf rfl rfl (aH (x:=.const (.string ⟨#[]⟩)) rfl rfl (cm (aI ?_))))))
  refine Xy (ι:=Unit) (fun _=>[(0,.func (.yield l) #[] #[]),(1,.pointer (some ⟨B,0,none⟩)),(3,.string (bs (fS r).1))]) (fun _ w3=>w3.heap[B]?=some (.cells #[.string (bs (fS r).2)] 9 (0,0))∧J pre w3) ?h1 ?h2
  case h1 =>
   refine aU (a7 (bf rfl rfl (bu (a:=⟨B,0,none⟩) rfl rfl (cell _ _ hBr) ?_)))
   refine bf rfl rfl (ar (v0:=.string (bs r)) (v1:=.int .u8 10) rfl rfl rfl rfl ((TH (bs r) 10 wr).mono ?_))
   rintro _ w' ⟨rfl,rfl⟩
   rw [ua]
   refine ⟨_,rfl,bf rfl rfl (aH (x:=.tmp 9) (v:=.int .i64 (Lib.indexByte r 10)) rfl rfl (cm (aI ?_)))⟩
   refine aU (a7 (bf rfl rfl (aH (x:=.tmp 4) (v:=.int .i64 (Lib.indexByte r 10)) rfl rfl ?_)))
   refine bf rfl rfl (rM (a:=Lib.indexByte r 10) (b:=0) rfl rfl rfl (cm (aI ?_)))
   have hM:Own [B] w' w' [.blk B 9 [.string (bs r)]]:=Own.sa (l:=[.blk B 9 [.string (bs r)]]) ⟨fun x hx=>by cases List.mem_singleton.1 hx;exact hBr,by show [B].Nodup;simp⟩
   refine dq (p:=(0:Int)≤Lib.indexByte r 10) rfl (fun hi=>?_) (fun hi=>?_)
   ·have hil:Lib.indexByte r 10<(r.length:Int):=by
     rcases GL 10 r with h1|h1
     ·exact h1
     ·exact absurd h1.1 hrn
    have e0:(Lib.indexByte r 10+1).toNat=(Lib.indexByte r 10).toNat+1:=by omega
    have e1:(bs r).extract 0 (Lib.indexByte r 10+1).toNat=bs (fS r).1:=by
     rw [j9,e0]
     unfold fS
     rw [if_pos hi]
     rfl
    have e2:(bs r).extract (Lib.indexByte r 10+1).toNat (bs r).size=bs (fS r).2:=by
     rw [j9,e0,fk,List.take_of_length_le (by rw [List.length_drop];omega)]
     unfold fS
     rw [if_pos hi]
    refine bB [(0,false),(1,false),(2,false),(3,false),(4,false),(5,false),(6,false),(7,false),(8,false),(9,true)] R.mixed wx hM fun w1 hM1=>?_
    refine JB (v:=.string (bs r)) wx iZ rfl rfl (fun w0 hS=>dt (j:=0) (g:=B) rfl rfl rfl hS (.head _) rfl ⟨rfl,rfl⟩) rfl ?_
    refine rj (v:=.int .i64 (Lib.indexByte r 10)) rfl rfl (fun w0 _=>aH (x:=.tmp 4) rfl rfl ⟨rfl,rfl⟩) rfl ?_
    refine rj (v:=.int .i64 (Lib.indexByte r 10+1)) rfl rfl (fun w0 _=>jW (a:=Lib.indexByte r 10) (b:=1) rfl rfl rfl (by constructor <;> omega) ⟨rfl,rfl⟩) rfl ?_
    refine rj (v:=.string (bs (fS r).1)) rfl rfl (fun w0 _=>DG (s:=bs r) (hi:=Lib.indexByte r 10+1) rfl rfl rfl xj (by rw [fk];omega) ⟨by rw [e1],rfl⟩) rfl ?_
    refine JB (v:=.string (bs r)) wx iZ rfl rfl (fun w0 hS=>dt (j:=0) (g:=B) rfl rfl rfl hS (.head _) rfl ⟨rfl,rfl⟩) rfl ?_
    refine rj (v:=.int .i64 (Lib.indexByte r 10)) rfl rfl (fun w0 _=>aH (x:=.tmp 4) rfl rfl ⟨rfl,rfl⟩) rfl ?_
    refine rj (v:=.int .i64 (Lib.indexByte r 10+1)) rfl rfl (fun w0 _=>jW (a:=Lib.indexByte r 10) (b:=1) rfl rfl rfl (by constructor <;> omega) ⟨rfl,rfl⟩) rfl ?_
    refine rj (v:=.string (bs (fS r).2)) rfl rfl (fun w0 _=>DF (s:=bs r) (lo:=Lib.indexByte r 10+1) rfl rfl rfl xj (by rw [fk];omega) ⟨by rw [e2],rfl⟩) rfl ?_
    refine rj (v:=.string (bs (fS r).1)) rfl rfl (fun w0 _=>aH (x:=.tmp 15) rfl rfl ⟨rfl,rfl⟩) rfl ?_
    refine Hu rfl wx (fh (g:=B) (j:=0) (v:=.string (bs (fS r).2)) (l':=[.blk B 9 [.string (bs (fS r).2)]]) rfl rfl rfl rfl rfl hM1 .head Nat.zero_lt_one fun w2 hM2=>?_)
    refine Ht (aI ⟨(),⟨rfl,rfl,rfl,trivial⟩,hM2.ok _ (.head _),hJ2 _ _ _ _ hJr ⟨hM2.os,hM2.tape,hM2.output,hM2.size,fun k hk hne=>hM2.kept k hk (by simpa using fun e=>hne (by rw [e]))⟩ (hM2.ok _ (.head _))⟩)
   ·have e1:(fS r).1=r:=by unfold fS;rw [if_neg hi]
    have e2:(fS r).2=[]:=by unfold fS;rw [if_neg hi]
    refine a7 (bf rfl rfl (dt (j:=0) (g:=B) rfl rfl rfl hM (.head _) rfl ?_))
    refine bf rfl rfl (aH (x:=.tmp 20) (v:=.string (bs r)) rfl rfl ?_)
    refine bf rfl rfl (fh (g:=B) (j:=0) (v:=.string (bs [])) (l':=[.blk B 9 [.string (bs [])]]) rfl rfl rfl rfl rfl hM .head Nat.zero_lt_one fun w2 hM2=>?_)
    refine cm (aI ⟨(),⟨rfl,rfl,by rw [e1];rfl,trivial⟩,by rw [e2];exact hM2.ok _ (.head _),hJ2 _ _ _ _ hJr ⟨hM2.os,hM2.tape,hM2.output,hM2.size,fun k hk hne=>hM2.kept k hk (by simpa using fun e=>hne (by rw [e]))⟩ (hM2.ok _ (.head _))⟩)
  case h2 =>
   rintro _ f3 w3 ⟨hB3,hJ3⟩
   refine aU (dI 4 ?_)
   refine aJ (fun _=>trivial) rfl (fun c h=>by cases h) rfl ?_
   refine aH (x:=.tmp 0) (v:=.func (.yield l) #[] #[]) rfl rfl ?_
   refine aJ (fun _=>trivial) rfl (fun c h=>by cases h) rfl ?_
   refine aH (x:=.tmp 3) (v:=.string (bs (fS r).1)) rfl rfl ?_
   refine qH rfl (fun _=>trivial) rfl rfl vj rfl (hY pre (fS r).1 w3 hJ3 xj xj) ?_
   rintro e w4 ⟨rfl,hJ4,hB4⟩
   refine ⟨_,rfl,?_⟩
   refine aJ (fun _=>trivial) rfl (fun c h=>by cases h) rfl ?_
   refine jY (b:=true) rfl rfl ?_
   refine dy (aI ?_)
   refine cM rfl (d5 (iE (aI ?_)))
   refine ⟨((fS r).2,pre++[(fS r).1]),⟨rfl,rfl,trivial⟩,⟨hB4.trans hB3,hJ4,?_,?_⟩,?_⟩
   ·rw [← hl,hls,List.append_assoc]
    rfl
   ·simp only [List.length_append,List.length_singleton]
    omega
   ·show (fS r).2.length<r.length
    omega
 ·obtain rfl:r=[]:=by
   rw [fk] at hp
   exact List.length_eq_zero_iff.1 xj
  rw [TI,List.append_nil] at hl
  subst hl
  exact fC (fC (gG rfl (xN ⟨_,fun tmps _=>results_none rfl tmps _ _,⟨_,rfl⟩,hJr⟩)))
end R
end Go.Proofs.YtlmabdegojeheaaGreatDoor
