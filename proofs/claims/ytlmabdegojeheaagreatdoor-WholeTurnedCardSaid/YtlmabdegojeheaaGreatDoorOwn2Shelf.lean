/- WholeTurned: parts of its proof (Own2 St Shelf). -/
import Derived.Test.YtlmabdegojeheaaGreatDoorMemOwn
import Derived.Test.YtlmabdegojeheaaGreatDoorAa
import Derived.Shelf.Small.Bits
import Derived.Shelf.Strconv.Itoa0
import Derived.Shelf.Bits.Mul64
import Derived.Test.YtlmabdegojeheaaGreatDoorProg
namespace Go.Proofs.YtlmabdegojeheaaGreatDoor
open R
namespace R
open Go.RowKit
theorem rY (off:Nat):∀ (xs:List Value) (k:Nat) (cs:Array Value),off+k+xs.length≤cs.size →
  ((xs.zipIdx k).foldl (fun cs (c,j)=>cs.setIfInBounds (off+j) c) cs).toList=cs.toList.take (off+k)++xs++cs.toList.drop (off+k+xs.length)
 | [],k,cs,_=>by simp
 | x::xs,k,cs,h=>by
  simp only [List.length_cons] at h
  simp only [List.zipIdx_cons,List.foldl_cons]
  rw [rY off xs (k+1) _ (by simp;omega)]
  have hl:off+k<cs.toList.length:=by simp;omega
  rw [Array.toList_setIfInBounds,← Nat.add_assoc,List.take_succ_eq_append_getElem (by simpa using hl),List.take_set_of_le (Nat.le_refl _),List.getElem_set_self,List.drop_set_of_lt (by omega)]
  simp [Nat.add_assoc,Nat.add_comm 1]
def idx:List Value→Nat→List (Nat×Value)
 | [],_=>[]
 | v::l,k=>(k,v)::idx l (k+1)
theorem Ds (sz:Nat):∀ (vs:List Value) (k:Nat) (cs:Array Value),(∀ v∈vs,v.cells.size=sz)→cs.size=(k+vs.length)*sz →
  ∃ out,Instr.fill (fun i=>some (i*sz,sz)) cs (idx vs k)=some out∧out.toList=cs.toList.take (k*sz)++vs.flatMap (·.cells.toList)
 | [],k,cs,_,h=>⟨cs,rfl,by simp at h;simpa [← h] using (List.take_of_length_le (l:=cs.toList) (i:=cs.size) (by simp)).symm⟩
 | v::vs,k,cs,hv,h=>by
  have h0:=hv v (.head _)
  have hk:(k+(v::vs).length)*sz=k*sz+sz+vs.length*sz:=by rw [List.length_cons];simp only [Nat.add_mul,Nat.one_mul];try omega
  have hbig:¬ (v.cells.size≠sz∨k*sz+v.cells.size > cs.size):=by rw [h0,h,hk];omega
  have hf:=rY (k*sz) v.cells.toList 0 cs (by rw [h,hk];simp [h0];try omega)
  have hc:(v.cells.zipIdx.foldl (fun cs (c,j)=>cs.setIfInBounds (k*sz+j) c) cs)=(v.cells.toList.zipIdx 0).foldl (fun cs (c,j)=>cs.setIfInBounds (k*sz+j) c) cs:=by
   rw [← Array.foldl_toList,Array.toList_zipIdx]
  obtain ⟨out,ho,hl⟩:=Ds sz vs (k+1) (v.cells.zipIdx.foldl (fun cs (c,j)=>cs.setIfInBounds (k*sz+j) c) cs) (fun u hu=>hv u (.tail _ hu)) (by
   have:(v.cells.zipIdx.foldl (fun cs (c,j)=>cs.setIfInBounds (k*sz+j) c) cs).size=cs.size:=by
    have h1:=congrArg List.length hf
    rw [hc]
    simp [h0] at h1
    simp
    omega
   rw [this,h,hk]
   simp [Nat.add_mul])
  refine ⟨out,?_,?_⟩
  ·simp only [idx,Instr.fill]
   simp only [h0,ne_eq,not_true,decide_false,Bool.false_or]
   rw [if_neg (by simp;rw [h,hk];omega)]
   exact ho
  ·rw [hl,hc,hf]
   have e1:(cs.toList.take (k*sz+0)++v.cells.toList++cs.toList.drop (k*sz+0+v.cells.toList.length)).take ((k+1)*sz)=cs.toList.take (k*sz)++v.cells.toList:=by
    rw [List.take_left']
    ·simp
    ·have:cs.toList.length=cs.size:=by simp
     rw [List.length_append,List.length_take,Nat.succ_mul,Nat.add_zero,Array.length_toList,Array.length_toList,h0,h,hk]
     omega
   rw [e1,List.flatMap_cons,List.append_assoc]
theorem yc {sz:Nat}:∀ (vs:List Value),(∀ v∈vs,v.cells.size=sz)→(vs.flatMap (·.cells.toList)).length=vs.length*sz
 | [],_=>by simp
 | v::vs,hv=>by
  rw [List.flatMap_cons,List.length_append,yc vs (fun u hu=>hv u (.tail _ hu)),Array.length_toList,hv v (.head _),List.length_cons,Nat.succ_mul,Nat.add_comm]
section
variable {P:Program} {C:bO} {o:Oper} {f:Fr} {F:List Nat} {W w:World} {K:Value→World→Prop} {l l' l'':List bX} {g j:Nat} {t u e:TypeId} {x y i:Operand} {cs ds news:List Value} {A A':Option Addr} {n c c' sz off m k bytes:Nat} {v z:Value}
theorem vD {parts:Array (Nat×Operand)} (vs:List Value) (hop:o.op=.buildSlice t n parts) [bq P t e sz] [bY P e z] [EL:cV P e z sz bytes]
  (hps:parts.toList.map (fun x=>(x.1,ev f x.2))=idx vs 0) (hn:vs.length=n) (hb:n*sz≤16777216) (hv:∀ v∈vs,v.cells.size=sz)
  (hM:Own F W w l) (hk:∀ A c w',Own F W w' (.row A n c e sz (vs.flatMap (·.cells.toList))::l)→K (.slice A n c) w'):WO P C o f w K:=by
 have h0:=EL.p
 have hz:=EL.c
 have hsz:(if n*sz=0 then (Array.range (n*sz)).map (fun i=>(#[]:Array Value)[i % 0]!) else (Array.range (n*sz)).map fun i=>z.cells[i % z.cells.size]!).size=n*sz:=by split <;> simp
 obtain ⟨out,ho,hl⟩:=Ds sz vs 0 _ hv (by rw [hsz,Nat.zero_add,hn])
 have hps':parts.map (fun x=>(x.1,ev f x.2))=(idx vs 0).toArray:=by
  apply Array.ext'
  simpa using hps
 have hl':out.toList=vs.flatMap (·.cells.toList):=by simpa using hl
 refine Yd hop hps' hb (by simpa using ho) ?_ h0 hM (fun A c w' hM'=>hk A c w' (by rw [← hl'];exact hM'))
 rw [← Array.length_toList,hl',← hn]
 exact yc vs hv
theorem Ap (hop:o.op=.buildSlice t 0 #[]) [bq P t e sz] [bY P e z] [cV P e z sz bytes] (hb:0*sz≤16777216) (hM:Own F W w l) (hk:∀ A c w',Own F W w' (.row A 0 c e sz ([])::l)→K (.slice A 0 c) w'):WO P C o f w K :=
 vD [] hop (by simp [idx]) rfl hb (by simp) hM (by simpa using hk)
theorem ou {x0:Operand} {v0:Value} {d0:List Value} (hop:o.op=.buildSlice t 1 #[(0,x0)]) [bq P t e sz] [bY P e z] [cV P e z sz bytes] (h0:ev f x0=v0) (hb:1*sz≤16777216) (hM:Own F W w l) (c0:v0.cells=d0.toArray) (l0:d0.length=sz) (hk:∀ A c w',Own F W w' (.row A 1 c e sz (d0)::l)→K (.slice A 1 c) w'):WO P C o f w K :=
 vD [v0] hop (by simp [idx,h0]) rfl hb (by simp [c0,l0]) hM (by simpa [c0] using hk)
theorem Aq {x0 x1:Operand} {v0 v1:Value} {d0 d1:List Value} (hop:o.op=.buildSlice t 2 #[(0,x0),(1,x1)]) [bq P t e sz] [bY P e z] [cV P e z sz bytes] (h0:ev f x0=v0) (h1:ev f x1=v1) (hb:2*sz≤16777216) (hM:Own F W w l) (c0:v0.cells=d0.toArray) (c1:v1.cells=d1.toArray) (l0:d0.length=sz) (l1:d1.length=sz) (hk:∀ A c w',Own F W w' (.row A 2 c e sz (d0++(d1++[]))::l)→K (.slice A 2 c) w'):WO P C o f w K :=
 vD [v0,v1] hop (by simp [idx,h0,h1]) rfl hb (by simp [c0,l0,c1,l1]) hM (by simpa [c0,c1] using hk)
theorem Ar {x0 x1 x2:Operand} {v0 v1 v2:Value} {d0 d1 d2:List Value} (hop:o.op=.buildSlice t 3 #[(0,x0),(1,x1),(2,x2)]) [bq P t e sz] [bY P e z] [cV P e z sz bytes] (h0:ev f x0=v0) (h1:ev f x1=v1) (h2:ev f x2=v2) (hb:3*sz≤16777216) (hM:Own F W w l) (c0:v0.cells=d0.toArray) (c1:v1.cells=d1.toArray) (c2:v2.cells=d2.toArray) (l0:d0.length=sz) (l1:d1.length=sz) (l2:d2.length=sz) (hk:∀ A c w',Own F W w' (.row A 3 c e sz (d0++(d1++(d2++[])))::l)→K (.slice A 3 c) w'):WO P C o f w K :=
 vD [v0,v1,v2] hop (by simp [idx,h0,h1,h2]) rfl hb (by simp [c0,l0,c1,l1,c2,l2]) hM (by simpa [c0,c1,c2] using hk)
theorem At {x0 x1 x2 x3:Operand} {v0 v1 v2 v3:Value} {d0 d1 d2 d3:List Value} (hop:o.op=.buildSlice t 4 #[(0,x0),(1,x1),(2,x2),(3,x3)]) [bq P t e sz] [bY P e z] [cV P e z sz bytes] (h0:ev f x0=v0) (h1:ev f x1=v1) (h2:ev f x2=v2) (h3:ev f x3=v3) (hb:4*sz≤16777216) (hM:Own F W w l) (c0:v0.cells=d0.toArray) (c1:v1.cells=d1.toArray) (c2:v2.cells=d2.toArray) (c3:v3.cells=d3.toArray) (l0:d0.length=sz) (l1:d1.length=sz) (l2:d2.length=sz) (l3:d3.length=sz) (hk:∀ A c w',Own F W w' (.row A 4 c e sz (d0++(d1++(d2++(d3++[]))))::l)→K (.slice A 4 c) w'):WO P C o f w K :=
 vD [v0,v1,v2,v3] hop (by simp [idx,h0,h1,h2,h3]) rfl hb (by simp [c0,l0,c1,l1,c2,l2,c3,l3]) hM (by simpa [c0,c1,c2,c3] using hk)
theorem mD {T:Type} {enc:T→List Value} {L M:List T} {l':Option Addr→Nat→List bX} (hop:o.op=.call { callee:=.builtin .append,args:=#[x,y],argTypes:=#[t,t] }) [bq P t e sz] [cV P e z sz bytes] [E:iU P e T enc sz]
  (hx:ev f x=.slice A n c) (hy:ev f y=.slice A' m c') (hM:Own F W w l) (hu:∀ A1 c1,oM l (.row A n c e sz cs) (.row A1 (n+m) c1 e sz ((L++M).flatMap enc)) (l' A1 c1)) (hL:VN enc cs L) (hr:Rd w A' m sz news) (hN:VN enc news M)
  (h63:n+m≤9223372036854775807) (hby:(n+m)*bytes≤140737488355328)
  (hk:∀ A1 c1 w',Own F W w' (l' A1 c1)→K (.slice A1 (n+m) c1) w'):WO P C o f w K:=by
 have hown:w.ownsRow 0 e sz (.slice A n c) n cs:=hM.ok _ (hu none 0).old
 have EL:cV P e z sz bytes:=inferInstance
 have hS:bq P t e sz:=inferInstance
 have key:∃ v' w',(Builtin.append_ #[t,t] o.type #[.slice A n c,.slice A' m c']).run P w=.ok v' w'∧w'.ownsRow 0 e sz v' (n+m) (cs++news)∧w.grownBy w' (iG A)∧(v'.ownBlock=iG A∨v'.ownBlock=some w.heap.size):=by
  obtain ⟨i0,hi0,hz0,hz1,hz2⟩:=info_parts EL.h
  rw [← cX A n c]
  rcases Nat.eq_zero_or_pos m with hm|hm
  ·subst hm
   have hnil:news=[]:=List.eq_nil_of_length_eq_zero (by rw [hr.1];simp)
   subst hnil
   cases A' with
   | some a =>
    obtain ⟨v',w',hrun,h2,h3,_,h5⟩:=run_append_own_at (P:=P) w 0 t o.type e i0 z sz bytes hS.h hi0 hz0 hz1 hz2 EL.c EL.p _ n cs hown a 0 c' [] (by simp) (by simp) (by simp) (by unfold maxLen;omega) hby (Nat.zero_le _)
    exact ⟨v',w',hrun,h2,h3,h5⟩
   | none =>
    refine ⟨.slice A n c,w,?_,by simpa using hown,World.grownBy.refl w _,.inl rfl⟩
    rcases hown.2 with ⟨hv,_⟩|⟨g,cap,cur,hv,_,_,hnc,_⟩
    ·rw [hv]
     simp [Builtin.append_,run_underlying hS.h,sizeOf,typeInfo,hi0,Builtin.lenOf,Builtin.firstCells]
    ·rw [hv]
     simp [Builtin.append_,run_underlying hS.h,sizeOf,typeInfo,hi0,Builtin.lenOf,Builtin.firstCells,hnc,storeCells]
  ·obtain ⟨a,rfl⟩:=hr.some_ hm EL.p
   obtain ⟨v',w',hrun,h2,h3,_,h5⟩:=run_append_own_at (P:=P) w 0 t o.type e i0 z sz bytes hS.h hi0 hz0 hz1 hz2 EL.c EL.p _ n cs hown a m c' news hr.1 (fun j u hj=>by
    obtain ⟨a',ha',hc'⟩:=hr.2 j u hj
    cases ha'
    exact hc') (fun u hu=>by
    rw [hN.h] at hu
    obtain ⟨x,_,hx'⟩:=List.mem_flatMap.1 hu
    exact E.one x u hx') (by unfold maxLen;omega) hby (Nat.zero_le _)
   exact ⟨v',w',hrun,h2,h3,h5⟩
 obtain ⟨v',w',hrun,hown',hg,hplace⟩:=key
 have hform:∃ A1 c1,v'=.slice A1 (n+m) c1:=by
  rcases hown'.2 with ⟨hv,hx⟩|⟨g,cap,cur,hv,_⟩
  ·exact ⟨none,0,by rw [hx];exact hv⟩
  ·exact ⟨_,_,hv⟩
 obtain ⟨A1,c1,rfl⟩:=hform
 rw [cX] at hplace
 rw [hL.h,hN.h,← List.flatMap_append] at hown'
 refine pf ?_ (hk A1 c1 w' (hM.cw (hu A1 c1) hg hown' ?_))
 ·simp [execOp,hop,resolve,invoke,builtin,hx,hy,hrun,Result.andThen]
 ·rcases hplace with h|h
  ·exact .inl h
  ·exact .inr fun k he=>by rw [show (bX.row A1 (n+m) c1 e sz ((L++M).flatMap enc)).key=iG A1 from rfl,h] at he;cases he;exact Nat.le_refl _
theorem Au {T:Type} {enc:T→List Value} {L M:List T} {l':Option Addr→Nat→List bX} (hop:o.op=.call { callee:=.builtin .append,args:=#[x,y],argTypes:=#[t,t] }) [bq P t e sz] [cV P e z sz bytes] [iU P e T enc sz]
  (hx:ev f x=.slice A n c) (hy:ev f y=.slice A' m c') (hM:Own F W w (.row A' m c' e sz news::l)) (hu:∀ A1 c1,oM l (.row A n c e sz cs) (.row A1 (n+m) c1 e sz ((L++M).flatMap enc)) (l' A1 c1)) (hL:VN enc cs L) (hN:VN enc news M)
  (h63:n+m≤9223372036854775807) (hby:(n+m)*bytes≤140737488355328)
  (hk:∀ A1 c1 w',Own F W w' (l' A1 c1)→K (.slice A1 (n+m) c1) w'):WO P C o f w K :=
 mD (l':=fun A1 c1=>.row A' m c' e sz news::l' A1 c1) hop hx hy hM (fun A1 c1=>.tail (hu A1 c1)) hL (hM.rd (.head _)) hN h63 hby (fun A1 c1 w' h=>hk A1 c1 w' h.tl)
theorem vE {T:Type} {enc:T→List Value} {z0:T} {k k':IntKind} {j:Int} {jn:Nat} (hop:o.op=.makeSlice t x y) [bq P t e 1] [cV P e z 1 bytes] [iU P e T enc 1] (hz:[z]=enc z0) (hx:ev f x=.int k j) (hy:ev f y=.int k' j) (h0:0≤j) [hj:Tu j jn] (hb:bytes*j.toNat≤281474976710656) (h63:j≤9223372036854775807)
  (hM:Own F W w l) (hk:∀ A w',Own F W w' (.row A jn jn e 1 ((List.replicate jn z0).flatMap enc)::l)→K (.slice A jn jn) w'):WO P C o f w K:=by
 have hjn0:=hj.h
 subst hjn0
 have EL:cV P e z 1 bytes:=inferInstance
 have hS:bq P t e 1:=inferInstance
 have E:iU P e T enc 1:=inferInstance
 obtain ⟨i0,hi0,hz0,hz1,hz2⟩:=info_parts EL.h
 have hjn:((j.toNat:Nat):Int)=j:=Int.toNat_of_nonneg h0
 obtain ⟨w',hrun,hown,hg⟩:=run_make_full (P:=P) w 0 t e i0 z 1 hS.h hi0 hz0 hz1 k k' j.toNat (by rw [hz2];exact hb) (by unfold maxLen;omega) (Nat.zero_le _)
 rw [hjn] at hrun
 refine pf (w':=w') ?_ (hk (some ⟨w.heap.size,0,none⟩) w' (hM.add hg ?_ ?_))
 ·simp [execOp,hop,hx,hy,hrun,Result.andThen]
 ·have hc:z.cells=#[z]:=by
   have h1:=E.one z0 z (by rw [← hz];simp)
   cases z <;> first|rfl|(simp [Value.oneCell'] at h1)
  rw [hc,Nat.mul_one,toList_madeCells_one] at hown
  have:(List.replicate j.toNat z0).flatMap enc=List.replicate j.toNat z:=by
   induction j.toNat with
   | zero=>rfl
   | succ m ih=>rw [List.replicate_succ,List.flatMap_cons,ih,← hz];rfl
  rw [this]
  exact hown
 ·intro q e
  cases e
  exact Nat.le_refl _
theorem N0 {w:World} {B:Nat} {e:TypeId} {sz n:Nat} {v:Value} {cs:List Value} (h:w.ownsRow B e sz v n cs):w.ownsRow 0 e sz v n cs :=
 ⟨h.1,h.2.imp id fun ⟨g,cap,cur,h1,_,h2⟩=>⟨g,cap,cur,h1,Nat.zero_le _,h2⟩⟩
class Dt (P:Program) (g:FuncId) (args:Array Value) (T:outParam Type) (pre:outParam (T→World→Prop)) (v:outParam (T→Value)):Prop where
 h:∀ t w,pre t w→Calls P g args w fun e w'=>e=.returned (v t)∧w=w'
class bj (P:Program) (g:FuncId) (args:Array Value) (T:outParam Type) (pre:outParam (T→World→Prop)) (v:outParam (T→Value)):Prop where
 h:∀ t w,pre t w→Calls P g args w fun e w'=>e=.returned (v t)∧Below w.heap.size w w'
def iV (w w':World) (A:Option Addr) (n c:Nat) (e:TypeId) (sz:Nat) (cs:List Value):Prop:=Below w.heap.size w w'∧w'.ownsRow w.heap.size e sz (.slice A n c) n cs
theorem Own.pv (h:Own F W w l) {w':World} (hg:iV w w' A n c e sz cs):Own F W w' (.row A n c e sz cs::l) :=
 h.add (nF hg.1) (N0 hg.2) (fun k hk=>(hg.2.lt k (by rw [cX];exact hk)).1)
theorem Own.gives (h:Own [] W w (.row A n c e sz cs::l)):iV W w A n c e sz cs:=by
 refine ⟨h.below,?_⟩
 have h1:w.ownsRow 0 e sz (.slice A n c) n cs:=h.ok _ (.head _)
 refine ⟨h1.1,?_⟩
 rcases h1.2 with h2|⟨g,cap,cur,hv,hb,hr⟩
 ·exact .inl h2
 ·refine .inr ⟨g,cap,cur,hv,?_,hr⟩
  injection hv with hA
  rcases h.own _ (.head _) g (by rw [show (bX.row A n c e sz cs).key=iG A from rfl,hA];rfl) with h3|h3
  ·exact h3
  ·cases h3
section
variable {G:FuncId} {args:Array Value} {T:Type} {pre:T→World→Prop} {val:T→Value} {nn:T→Nat} {ccs:T→List Value}
theorem bU [h:Dt P G args T pre val] (t:T) (hp:pre t w) (hk:K (val t) w):bn P G args w K :=
 (h.h t w hp).mono fun _ _ ⟨he,hw⟩=>⟨_,he,hw▸hk⟩
theorem bV [h:bj P G args T pre val] (t:T) (hM:Own F W w l) (hp:pre t w) (hk:∀ w',Own F W w' l→K (val t) w'):bn P G args w K :=
 (h.h t w hp).mono fun _ _ ⟨he,hw⟩=>⟨_,he,hk _ (hM.call hw)⟩
end
end
theorem jC {n:Nat} {f:Fr} {ops:Array Oper} {o:Oper} {a:Act} {j d:Nat} {b:Bool} (ha:Is n a f) (hg:o.guard=some (j,b)) (hj:(ops[j]?).bind (·.dst)=some d) (hv:f d=undef):Region.wanted o (yielded ops a.tmps)=false:=by
 have h1:=ha.get d
 rw [hv] at h1
 simp only [Region.wanted,hg,yielded,hj,Option.bind_some]
 cases hx:a.tmps[d]? with
 | none=>cases b <;> rfl
 | some u =>
  have:u=undef:=by simp [hx] at h1;exact h1
  subst this
  cases b <;> rfl
structure ah (A:Prop):Prop where out:A
structure KV (A B:Prop):Prop where
 l:A
 r:B
theorem lft {A:Prop} (h:ah (ah A)):A:=h.out.out
theorem Av {α:Sort _} {A G:α→Prop} (hk:ah (∀ x,A x)) (h:∀ x,ah (A x)→G x):∀ x,G x:=fun x=>h x ⟨hk.out x⟩
theorem Aw {A B G H:Prop} (hk:ah (A∧B)) (h1:ah A→G) (h2:ah B→H):KV G H:=⟨h1 ⟨hk.out.1⟩,h2 ⟨hk.out.2⟩⟩
section
variable {P:Program} {n:Nat} {Q:Exit→Fr→World→Prop} {f:Fr} {w:World} {ops:Array Oper} {o:Oper} {rest:List Oper} {x y:Code} {c:Operand} {p:Prop} [Decidable p] {t:Bool} {j d:Nat} {b:Bool} {K:Fr→Prop}
theorem mE (hc:ev f c=.bool (decide p)) (h:KV (p→WC P n Q x f w) (¬p→WC P n Q y f w)):WC P n Q (.cond c x y) f w:=dq hc h.l h.r
theorem vF (hc:ev f c=.bool t) (h:KV (t=true→WC P n Q x f w) (t=false→WC P n Q y f w)):WC P n Q (.cond c x y) f w:=kN hc h.l h.r
theorem lh (hg:o.guard=some (j,b)) (hj:(ops[j]?).bind (·.dst)=some d) (hv:f d=.bool (decide p))
  (h:KV (p→WL P ops n Q (o::rest) (cw f d (.bool true)) w) (¬p→WL P ops n Q (o::rest) (cw f d (.bool false)) w)):WL P ops n Q (o::rest) f w:=mz hg hj hv h.l h.r
theorem rZ (hg:o.guard=some (j,b)) (hj:(ops[j]?).bind (·.dst)=some d) (hv:f d=.bool t)
  (h:KV (t=true→WL P ops n Q (o::rest) (cw f d (.bool true)) w) (t=false→WL P ops n Q (o::rest) (cw f d (.bool false)) w)):WL P ops n Q (o::rest) f w:=CV hg hj hv h.l h.r
theorem lk (hg:o.guard=some (j,b)) (hj:(ops[j]?).bind (·.dst)=some d) (hv:f d=.bool (decide p))
  (h:KV (p→WS P ops n w K (o::rest) (cw f d (.bool true))) (¬p→WS P ops n w K (o::rest) (cw f d (.bool false)))):WS P ops n w K (o::rest) f:=yZ hg hj hv h.l h.r
theorem r8 (hg:o.guard=some (j,b)) (hj:(ops[j]?).bind (·.dst)=some d) (hv:f d=.bool t)
  (h:KV (t=true→WS P ops n w K (o::rest) (cw f d (.bool true))) (t=false→WS P ops n w K (o::rest) (cw f d (.bool false)))):WS P ops n w K (o::rest) f:=CW hg hj hv h.l h.r
def vG:Op→Bool
 | .call { callee:=.builtin b,.. }=>y5 (.call { callee:=.builtin b,args:=#[],argTypes:=#[] })
 | .call _=>false
 | o=>y5 o
theorem KW {F:List Nat} {W:World} {L:List bX} {id:Nat} {l:List Oper} (hm:P.follows .mixedOrders=true) (hB:Region.lexB .any l.toArray=true) (hM:Own F W w L)
  (h:∀ w1,Own F W w1 L→WS P l.toArray n w1 (fun f'=>Q .normal f' w1) l f):WC P n Q (.region id l.toArray true) f w:=by
 have h1:=h _ hM.drew
 unfold WS at h1
 unfold WC
 intro a ha
 exact wp_region_still hm hB (h1 a ha)
theorem yd {F:List Nat} {W:World} {L:List bX} {id:Nat} {l:List Oper} (hm:P.follows .mixedOrders=true) (_hq:(l.all fun o=>vG o.op)=true) (hB:Region.lexB .any l.toArray=true) (hM:Own F W w L)
  (h:∀ w1,Own F W w1 L→WS P l.toArray n w1 (fun f'=>Q .normal f' w1) l f):WC P n Q (.region id l.toArray true) f w:=KW hm hB hM h
theorem ae {F:List Nat} {W:World} {L:List bX} {id:Nat} {l:List Oper} (m:Nat) (hm:P.follows .mixedOrders=true) (_hq:((l.take m).all fun o=>vG o.op)=true) (hB:Region.lexTailB .any l.toArray m=true) (hM:Own F W w L)
  (h:∀ w1,Own F W w1 L→WS P l.toArray n w1 (fun f'=>WL P l.toArray n Q (l.drop m) f' w1) (l.take m) f):WC P n Q (.region id l.toArray true) f w :=
 SI m hm hB (h _ hM.drew)
def vH:Nat→List Oper→List (Nat×Bool)
 | _,[]=>[]
 | i,o::l=>(i,!vG o.op)::vH (i+1) l
theorem iW {F:List Nat} {W:World} {L:List bX} {id:Nat} {l:List Oper} (pl:List (Nat×Bool)) (hm:P.follows .mixedOrders=true) (hB:y6 l.toArray pl=true) (hM:Own F W w L)
  (h:∀ w1,Own F W w1 L→WH P l.toArray n (fun w2=>Own F W w2 L) (fun f' w'=>Q .normal f' w') pl f w1):WC P n Q (.region id l.toArray true) f w :=
 nZ _ _ hm hB hM.drew (h _ hM.drew)
theorem Du {e:Nat} (hg:o.guard=some (j,b)) (hj:(ops[j]?).bind (·.dst)=some d) (hv:f d=undef) (h0:o.dst=some e) (hd:Nat.blt e n=true) (h:WL P ops n Q rest (cw f e undef) w):WL P ops n Q (o::rest) f w:=by
 unfold WL at h ⊢
 intro a ha
 refine wpList_step fun K hK=>?_
 rw [jC ha hg hj hv]
 simp only [Bool.false_eq_true,if_false]
 have h2:=h _ (ha.put (some e) undef hd)
 rw [← h0] at h2
 exact hK _ _ h2
theorem Dw {e:Nat} (hg:o.guard=some (j,b)) (hj:(ops[j]?).bind (·.dst)=some d) (hv:f d=undef) (h0:o.dst=some e) (hd:Nat.blt e n=true) (h:WS P ops n w K rest (cw f e undef)):WS P ops n w K (o::rest) f:=by
 unfold WS at h ⊢
 intro a ha
 refine wpStill_step fun K' hK=>?_
 rw [jC ha hg hj hv]
 simp only [Bool.false_eq_true,if_false]
 have h2:=h _ (ha.put (some e) undef hd)
 rw [← h0] at h2
 exact hK _ h2
variable {S:World→Prop} {KK:Fr→World→Prop} {pl:List (Nat×Bool)} {i:Nat} {q:Bool} {o':Option Nat} {op:Op} {ty:TypeId} {ps:String} {af:Array Edge}
theorem ln (hi:ops[i]?=some ⟨o',op,ty,ps,af,some (j,b)⟩) (hj:(ops[j]?).bind (·.dst)=some d) (hv:f d=.bool (decide p))
  (h:KV (p→WH P ops n S KK ((i,q)::pl) (cw f d (.bool true)) w) (¬p→WH P ops n S KK ((i,q)::pl) (cw f d (.bool false)) w)):WH P ops n S KK ((i,q)::pl) f w:=y7 hi hj hv h.l h.r
theorem r9 (hi:ops[i]?=some ⟨o',op,ty,ps,af,some (j,b)⟩) (hj:(ops[j]?).bind (·.dst)=some d) (hv:f d=.bool t)
  (h:KV (t=true→WH P ops n S KK ((i,q)::pl) (cw f d (.bool true)) w) (t=false→WH P ops n S KK ((i,q)::pl) (cw f d (.bool false)) w)):WH P ops n S KK ((i,q)::pl) f w:=CY hi hj hv h.l h.r
theorem I3 {v:Value} {d:Nat} (hi:ops[i]?=some ⟨some d,op,ty,ps,af,none⟩) (hd:Nat.blt d n=true) (h:∀ w',S w'→WO P lF ⟨some d,op,ty,ps,af,none⟩ f w' fun v' w''=>v'=v∧w''=w') (hv:gI v=true)
  (hk:WH P ops n S KK pl (cw f d v) w):WH P ops n S KK ((i,false)::pl) f w:=FT hi hd h hv fun _=>hk
theorem Gq {v:Value} {d e:Nat} (hi:ops[i]?=some ⟨some d,op,ty,ps,af,some (j,b)⟩) (hj:(ops[j]?).bind (·.dst)=some e) (hc:f e=.bool b) (hd:Nat.blt d n=true) (h:∀ w',S w'→WO P lF ⟨some d,op,ty,ps,af,some (j,b)⟩ f w' fun v' w''=>v'=v∧w''=w') (hv:gI v=true)
  (hk:WH P ops n S KK pl (cw f d v) w):WH P ops n S KK ((i,false)::pl) f w:=CX hi hj hc hd h hv fun _=>hk
theorem Gr {d e:Nat} {c:Bool} (hi:ops[i]?=some ⟨some d,op,ty,ps,af,some (j,b)⟩) (hj:(ops[j]?).bind (·.dst)=some e) (hv:f e=.bool c) (hc:(c == b)=false) (hd:Nat.blt d n=true)
  (hk:WH P ops n S KK pl (cw f d undef) w):WH P ops n S KK ((i,false)::pl) f w:=aaa hi hj hv hc hd fun _=>hk
theorem N1 {d:Nat} (hi:ops[i]?=some ⟨some d,op,ty,ps,af,none⟩) (hd:Nat.blt d n=true) (h:WO P (bn P) ⟨some d,op,ty,ps,af,none⟩ f w fun v w'=>S w'∧WH P ops n S KK pl (cw f d v) w'):WH P ops n S KK ((i,true)::pl) f w:=ado hi hd fun _=>h
theorem Gs (hi:ops[i]?=some ⟨none,op,ty,ps,af,none⟩) (h:WO P (bn P) ⟨none,op,ty,ps,af,none⟩ f w fun _ w'=>S w'∧WH P ops n S KK pl f w'):WH P ops n S KK ((i,true)::pl) f w:=aab hi fun _=>h
theorem Gt {d e:Nat} (hi:ops[i]?=some ⟨some d,op,ty,ps,af,some (j,b)⟩) (hj:(ops[j]?).bind (·.dst)=some e) (hc:f e=.bool b) (hd:Nat.blt d n=true) (h:WO P (bn P) ⟨some d,op,ty,ps,af,some (j,b)⟩ f w fun v w'=>S w'∧WH P ops n S KK pl (cw f d v) w'):WH P ops n S KK ((i,true)::pl) f w:=aac hi hj hc hd fun _=>h
theorem Gu {d e:Nat} {c:Bool} (hi:ops[i]?=some ⟨some d,op,ty,ps,af,some (j,b)⟩) (hj:(ops[j]?).bind (·.dst)=some e) (hv:f e=.bool c) (hc:(c == b)=false) (hd:Nat.blt d n=true)
  (hk:WH P ops n S KK pl (cw f d undef) w):WH P ops n S KK ((i,true)::pl) f w:=aad hi hj hv hc hd fun _=>hk
theorem VO {d e:Nat} (hi:ops[i]?=some ⟨some d,op,ty,ps,af,some (j,b)⟩) (hj:(ops[j]?).bind (·.dst)=some e) (hv:f e=undef) (hd:Nat.blt d n=true)
  (hk:WH P ops n S KK pl (cw f d undef) w):WH P ops n S KK ((i,false)::pl) f w :=
 Io hi hd (fun _ ha=>.inr ⟨jC ha rfl hj hv,rfl⟩) fun _=>hk
theorem VP {d e:Nat} (hi:ops[i]?=some ⟨some d,op,ty,ps,af,some (j,b)⟩) (hj:(ops[j]?).bind (·.dst)=some e) (hv:f e=undef) (hd:Nat.blt d n=true)
  (hk:WH P ops n S KK pl (cw f d undef) w):WH P ops n S KK ((i,true)::pl) f w:=by
 unfold WH at hk ⊢
 intro a listed ha hs hp hS
 simp only [sU,Bool.and_eq_true,if_true,beq_iff_eq] at hp
 refine wpAnyH_all hp.1 (by simp) fun x hx=>?_
 obtain rfl:x=i:=by simpa using hx
 have hw:Region.wanted (⟨some d,op,ty,ps,af,some (j,b)⟩:Oper) (yielded ops a.tmps)=false:=jC ha rfl hj hv
 unfold wpOp
 simp only [hi,hw,Bool.false_eq_true,if_false]
 exact ⟨hS,hk _ _ (ha.put (some d) undef hd) hs hp.2 hS⟩
theorem aQ {F:List Nat} {W w:World} {l:List bX} {A:Prop} (h1:Own F W w l) (h:A):Own F W w l∧A:=⟨h1,h⟩
end
section
variable {P:Program} {fn:Func} {RR:Ending→World→Prop} {e:Exit} {f:Fr} {F:List Nat} {W w:World} {l:List bX} {g g2 p q r:Nat} {t t2 u u2:TypeId} {cs ds:List Value} {m k:Nat} {v:Value} (he:e=.ret∨e=.normal)
include he
theorem aaS {H:Own F W w l} (h:fn.results=#[.cell p t]) (hp:f p=.pointer (some ⟨g,0,none⟩)) [aG P t true] [dP P t m] (hm:.blk g u cs∈l) (hn:cs.length=m) (hr:RR (.returned (.agg cs.toArray)) w):kD P fn RR e f w :=
 M4 he h hp hn (H.rowAt hm) hr
theorem VQ {H:Own F W w l} (h:fn.results=#[.cell p t,.tmp q]) (hp:f p=.pointer (some ⟨g,0,none⟩)) (hq:f q=v) [aG P t true] [dP P t m] (hm:.blk g u cs∈l) (hn:cs.length=m) (hr:RR (.returned (.tuple #[.agg cs.toArray,v])) w):kD P fn RR e f w :=
 xP he h hp hq hn (H.rowAt hm) hr
theorem VR {H:Own F W w l} (h:fn.results=#[.cell p t,.cell q t2]) (hp:f p=.pointer (some ⟨g,0,none⟩)) (hq:f q=.pointer (some ⟨g2,0,none⟩)) [aG P t true] [dP P t m] [aG P t2 true] [dP P t2 k] (hm:.blk g u cs∈l) (hm2:.blk g2 u2 ds∈l) (hn:cs.length=m) (hn2:ds.length=k) (hr:RR (.returned (.tuple #[.agg cs.toArray,.agg ds.toArray])) w):kD P fn RR e f w :=
 aah he h hp hq hn hn2 (H.rowAt hm) (H.rowAt hm2) hr
theorem N2 {H:Own F W w l} (h:fn.results=#[.cell p t,.cell q t2,.tmp r]) (hp:f p=.pointer (some ⟨g,0,none⟩)) (hq:f q=.pointer (some ⟨g2,0,none⟩)) (hv:f r=v) [aG P t true] [dP P t m] [aG P t2 true] [dP P t2 k] (hm:.blk g u cs∈l) (hm2:.blk g2 u2 ds∈l) (hn:cs.length=m) (hn2:ds.length=k) (hr:RR (.returned (.tuple #[.agg cs.toArray,.agg ds.toArray,v])) w):kD P fn RR e f w :=
 XE he h hp hq hv hn hn2 (H.rowAt hm) (H.rowAt hm2) hr
end
end R
open Go.RowKit
set_option maxRecDepth 100000 in
theorem R.st {G L:Prop} (k:L) (h:ah L→G:=by (intro hk;(repeat' (first|((with_reducible refine aN ?_);first|refine KM ov ?_)|((with_reducible refine lG ?_);first|((with_reducible refine xQ ?_);first|refine rK rfl rfl rfl ?_|refine rL rfl rfl ?_)|((with_reducible refine M5 ?_);first|refine uU rfl rfl rfl rfl rfl rfl ?_|refine uT rfl rfl rfl rfl rfl ?_|refine nv rfl rfl rfl xj ?_|refine nw rfl rfl rfl xj ?_|refine lh rfl rfl rfl ?_|refine rZ rfl rfl rfl ?_)|((with_reducible refine rO ?_);refine cm ?_))|((with_reducible refine lH ?_);first|(with_reducible refine aU ?_)|(with_reducible refine a7 ?_)|((with_reducible refine oe ?_);first|refine dN rfl ?_|refine cM rfl ?_|refine im rfl xj ?_|refine iq rfl xj ?_|refine mE rfl ?_|refine vF rfl ?_)|(with_reducible refine cU ?_)|(with_reducible refine d5 ?_)|(with_reducible refine jV ?_)|(with_reducible refine gH ?_)|(with_reducible refine R.WC_label ?_)|((with_reducible refine zF ?_);refine MZ R.mixed wx wx ?_))|((with_reducible refine lI ?_);first|(with_reducible refine aI ?_)|(with_reducible refine jU ?_)|(with_reducible refine fC ?_))|((with_reducible refine lJ ?_);first|(with_reducible refine iE ?_)|(with_reducible refine fN ?_)|refine gG rfl ?_|refine nY rfl ?_)|((with_reducible refine uY ?_);first|refine XB rfl vv ?_|refine XC rfl vv vv ?_|refine XD rfl vv vv vv ?_|refine R.ret0 rfl ?_|refine R.ret1n rfl vv ?_|refine R.ret2n rfl vv vv ?_|refine R.ret3n rfl vv vv vv ?_|refine M3 rfl ?_)|((with_reducible refine uX ?_);first|((with_reducible refine F1 ?_);refine FQ rfl rfl rfl ?_)|((with_reducible refine F2 ?_);first|refine uW rfl rfl rfl rfl rfl rfl ?_|refine uV rfl rfl rfl rfl rfl ?_|refine R.WS_split_dt rfl rfl rfl xj ?_|refine R.WS_split_df rfl rfl rfl xj ?_|refine lk rfl rfl rfl ?_|refine r8 rfl rfl rfl ?_)|((with_reducible refine zD ?_);refine FP ?_))|((with_reducible refine gJ ?_);first|(refine' I3 rfl rfl ?_ ?_ ?_;rotate_left;(intro w0 hS;((with_reducible refine aN ?_);first|refine KM ov ?_);exact ⟨rfl,rfl⟩);rfl)|refine Gr rfl rfl rfl rfl rfl ?_|(refine' Gq rfl rfl rfl rfl ?_ ?_ ?_;rotate_left;(intro w0 hS;((with_reducible refine aN ?_);first|refine KM ov ?_);exact ⟨rfl,rfl⟩);rfl)|refine N1 rfl rfl ?_|refine Gs rfl ?_|refine Gt rfl rfl rfl rfl ?_|refine Gu rfl rfl rfl rfl rfl ?_|refine ln rfl rfl rfl ?_|refine r9 rfl rfl rfl ?_|refine FR ?_)|((with_reducible refine uZ ?_);refine ⟨rfl,?_⟩)|(with_reducible refine' Av hk (fun _ hk=>?_))|(with_reducible refine' Aw hk (fun hk=>?_) (fun hk=>?_))));(all_goals (first|exact lft hk|skip));all_goals (first|exact True|exact fun _=>True|exact fun _ _=>True|exact fun _ _ _=>True|exact ()))):G:=h ⟨k⟩
end Go.Proofs.YtlmabdegojeheaaGreatDoor
namespace Go.Proofs
open YtlmabdegojeheaaGreatDoor (xj wx ww wq vj Zk)
open Go.Shelf
def Tryz.DL:Go.Shelf.Ren:=⟨fun|134=>296|129=>137|n=>n,fun|53=>107|3=>3|4=>4|46=>172|5=>5|9=>9|n=>n,fun|n=>n⟩
theorem Tryz.TP:Go.Proofs.Lays.n134 Tryz.prog Tryz.DL:={
 mixed:=by kernel_rfl
 f129:=Tryz.func137.trans (congrArg some wq)
 f134:=Tryz.func296.trans (congrArg some wq)
 t3:=Tryz.underlying3
 a3:=Tryz.isAgg3
 z3:=Tryz.sizeOf3
 v3:=Tryz.zeroValue3
 t4:=Tryz.underlying4
 a4:=Tryz.isAgg4
 z4:=Tryz.sizeOf4
 v4:=Tryz.zeroValue4
 t5:=Tryz.underlying5
 a5:=Tryz.isAgg5
 z5:=Tryz.sizeOf5
 v5:=Tryz.zeroValue5
 t9:=Tryz.underlying9
 a9:=Tryz.isAgg9
 z9:=Tryz.sizeOf9
 v9:=Tryz.zeroValue9
 t46:=Tryz.underlying172
 a46:=Tryz.isAgg172
 z46:=Tryz.sizeOf172
 v46:=Tryz.zeroValue172
 t53:=Tryz.underlying107
 a53:=Tryz.isAgg107
 z53:=Tryz.sizeOf107
 v53:=Tryz.zeroValue107 }
theorem Tryz.bits_LeadingZeros64 (x:Int) (w:World) (h0:0≤x) (h1:x≤18446744073709551615) :
  Calls Tryz.prog 296 #[.int .u64 x] w fun e w'=>e=.returned (.int .i64 (64-(Lib.bitLen x.toNat:Int)))∧w'=w:=Any.bits_LeadingZeros64 Tryz.TP x w h0 h1
def Tryz.DM:Go.Shelf.Ren:=⟨fun|129=>137|n=>n,fun|53=>107|3=>3|4=>4|46=>172|5=>5|9=>9|n=>n,fun|n=>n⟩
theorem Tryz.TQ:Go.Proofs.Lays.n129 Tryz.prog Tryz.DM:={
 mixed:=by kernel_rfl
 f129:=Tryz.func137.trans (congrArg some wq)
 t3:=Tryz.underlying3
 a3:=Tryz.isAgg3
 z3:=Tryz.sizeOf3
 v3:=Tryz.zeroValue3
 t4:=Tryz.underlying4
 a4:=Tryz.isAgg4
 z4:=Tryz.sizeOf4
 v4:=Tryz.zeroValue4
 t5:=Tryz.underlying5
 a5:=Tryz.isAgg5
 z5:=Tryz.sizeOf5
 v5:=Tryz.zeroValue5
 t9:=Tryz.underlying9
 a9:=Tryz.isAgg9
 z9:=Tryz.sizeOf9
 v9:=Tryz.zeroValue9
 t46:=Tryz.underlying172
 a46:=Tryz.isAgg172
 z46:=Tryz.sizeOf172
 v46:=Tryz.zeroValue172
 t53:=Tryz.underlying107
 a53:=Tryz.isAgg107
 z53:=Tryz.sizeOf107
 v53:=Tryz.zeroValue107 }
theorem Tryz.bits_Len64 (x:Int) (w:World) (h0:0≤x) (h1:x≤18446744073709551615) :
  Calls Tryz.prog 137 #[.int .u64 x] w fun e w'=>e=.returned (.int .i64 (Lib.bitLen x.toNat))∧w'=w:=Any.bits_Len64 Tryz.TQ x w h0 h1
def Tryz.DN:Go.Shelf.Ren:=⟨fun|264=>176|n=>n,fun|53=>107|46=>172|n=>n,fun|n=>n⟩
theorem Tryz.TS:Go.Proofs.Lays.n264 Tryz.prog Tryz.DN:={
 mixed:=by kernel_rfl
 f264:=Tryz.func176.trans (congrArg some wq)
 t46:=Tryz.underlying172
 a46:=Tryz.isAgg172
 z46:=Tryz.sizeOf172
 v46:=Tryz.zeroValue172
 t53:=Tryz.underlying107
 a53:=Tryz.isAgg107
 z53:=Tryz.sizeOf107
 v53:=Tryz.zeroValue107 }
open Go.RowKit Go.Lib in
theorem Tryz.bits_Mul64 (x y:Nat) (hx:x<18446744073709551616) (hy:y<18446744073709551616) (w:World) :
  Calls Tryz.prog 176 #[.int .u64 x,.int .u64 y] w fun e w'=>e=.returned (.tuple #[.int .u64 ((x*y / 18446744073709551616:Nat):Int),.int .u64 ((x*y % 18446744073709551616:Nat):Int)])∧w'=w:=Any.bits_Mul64 Tryz.TS x y hx hy w
end Go.Proofs
