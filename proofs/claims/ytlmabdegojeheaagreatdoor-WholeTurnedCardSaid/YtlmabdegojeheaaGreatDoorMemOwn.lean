/- WholeTurned: parts of its proof (Mem Hold Own). -/
import Derived.Test.YtlmabdegojeheaaGreatDoorEng
import Derived.Maps.AppendAt
import Derived.Laws.OwnMore
import Derived.OwnWalk
import Derived.Laws.StructEq
import Derived.Laws.Tables
import Derived.Laws.Rows
namespace Go.Proofs.YtlmabdegojeheaaGreatDoor
open R Go.RowKit
namespace R
theorem ga (a:Addr) (n:Nat):(a.add n).block=a.block:=by unfold Addr.add;split <;> rfl
theorem jN (a:Addr) (i j:Nat):(a.add i).add j=a.add (i+j):=by
 unfold Addr.add
 by_cases hi:i=0 <;> by_cases hj:j=0 <;> simp [hi,hj,Nat.add_assoc]
section
variable {w w':World} {B B':Nat} {A:Option Addr} {cs:List Value}
end
def iG:Option Addr→Option Nat
 | some a=>some a.block
 | none=>none
theorem Below.go {w w1 w2:World} (h:Below w.heap.size w w1) (h2:Below w1.heap.size w1 w2):Below w.heap.size w w2:=h.trans (h2.mono h.size)
theorem Below.al {w w1:World} (h:Below w.heap.size w w1) (o:Obj):Below w.heap.size w (w1.alloc o):=h.alloc h.size o
section
variable {P:Program} {C:bO} {o:Oper} {f:Fr} {w:World} {K:Value→World→Prop}
theorem Ad (cs:Array Value) (e:TypeId) (sz n base:Nat) (hb:base≤w.heap.size) (hn:n≤maxLen) (hs:cs.size=n*sz) :
  (w.alloc (.cells cs e)).ownsRow base e sz (.slice (some ⟨w.heap.size,0,none⟩) n n) n cs.toList:=by
 refine ⟨by simpa using hs,.inr ⟨w.heap.size,n,cs,rfl,hb,heap_alloc_new w _,Nat.le_refl _,hn,hs,?_⟩⟩
 rw [← hs]
 exact List.take_length
theorem nD {t e:TypeId} {sz n:Nat} {ps:Array (Nat×Value)} {z:Value} {cs:Array Value} (ht:P.underlying t=some (.slice e)) (hs:ct P e=some sz) (hn:n*sz≤16777216) (hz:∀ w,(zeroValue e).run P w=.ok z w)
  (hf:Instr.fill (fun i=>some (i*sz,sz)) (if n*sz=0 then (Array.range (n*sz)).map (fun i=>(#[]:Array Value)[i % 0]!) else (Array.range (n*sz)).map fun i=>z.cells[i % z.cells.size]!) ps.toList=some cs) (w:World) :
  (Instr.buildSlice t n ps).run P w=.ok (.slice (some ⟨w.heap.size,0,none⟩) n n) (w.alloc (.cells cs e)):=by
 have hn':¬ (n*sz > 16777216):=by omega
 by_cases h0:n*sz=0
 ·rw [if_pos h0] at hf
  simp [Instr.buildSlice,run_underlying ht,bI hs,h0,newRow]
  simp [h0] at hf
  simp [hf]
 ·rw [if_neg h0] at hf
  simp [Instr.buildSlice,run_underlying ht,bI hs,hn',h0,hz,hf,newRow]
theorem aaJ {t e:TypeId} {sz n:Nat} {parts:Array (Nat×Operand)} {ps:Array (Nat×Value)} {z:Value} {cs:Array Value} (hop:o.op=.buildSlice t n parts) [ht:bq P t e sz] [hz:bY P e z]
  (hps:parts.map (fun x=>(x.1,ev f x.2))=ps) (hn:n*sz≤16777216)
  (hf:Instr.fill (fun i=>some (i*sz,sz)) (if n*sz=0 then (Array.range (n*sz)).map (fun i=>(#[]:Array Value)[i % 0]!) else (Array.range (n*sz)).map fun i=>z.cells[i % z.cells.size]!) ps.toList=some cs)
  (hk:K (.slice (some ⟨w.heap.size,0,none⟩) n n) (w.alloc (.cells cs e))):WO P C o f w K:=by
 refine pf ?_ hk
 simp only [execOp,hop,Sem.run_bind]
 rw [show (parts.map fun (x:Nat×Operand)=>match x with|(i,x)=>(i,ev f x))=ps from hps,nD ht.h ht.s hn hz.h hf w]
 rfl
class cV (P:Program) (e:TypeId) (z:outParam Value) (sz bytes:outParam Nat):Prop where
 h:(P.info? e).map (fun i=>(i.zero,i.size,i.bytes))=some (some z,sz,bytes)
 c:z.cells.size=sz
 p:0<sz
end
theorem vv {P:Prop} (h:P:=by first|exact eI rfl|exact eB rfl|exact eS rfl|exact eA rfl|exact eP rfl|exact R.eStr rfl|exact R.eT rfl|exact eM rfl|exact eF rfl|exact R.eF0 rfl|exact R.eP0 rfl|exact R.eQ rfl):P:=h
theorem i64 {P:Prop} (h:P:=by first|assumption|(unfold ao;omega)):P:=h
theorem u64 {P:Prop} (h:P:=by first|assumption|(unfold ai;omega)):P:=h
theorem KM {P:Program} {C:bO} {o:Oper} {f:Fr} {w w':World} {K:Value→World→Prop} {v:Value} (h:∀ K:Value→World→Prop,K v w'→WO P C o f w K) (hk:K v w'):WO P C o f w K:=h K hk
set_option maxRecDepth 100000 in
theorem ov {G:Prop} (h:G:=by (intro K hk;(with_reducible refine aN ?_);(first|((with_reducible refine Ir ?_);first|refine zG rfl ?_|refine zI rfl ?_|refine zK rfl ?_|refine R.WO_mvA rfl ?_|refine R.WO_mvP rfl ?_|refine zM rfl ?_|refine R.WO_mvStr rfl ?_|refine zN rfl ?_|refine zP rfl ?_|refine R.WO_mvF0 rfl ?_)|((with_reducible refine Iu ?_);first|refine zH rfl ?_|refine zJ rfl ?_|refine zL rfl ?_|refine R.WO_asA rfl ?_|refine R.WO_asP rfl ?_|refine R.WO_asT rfl ?_|refine R.WO_asStr rfl ?_|refine zO rfl ?_|refine zQ rfl ?_)|((with_reducible refine rN ?_);first|refine jW rfl rfl rfl R.i64 ?_|refine p8 rfl rfl rfl R.u64 ?_|refine n7 rfl rfl rfl ?_)|((with_reducible refine zp ?_);first|refine lM rfl rfl rfl R.i64 ?_|refine p9 rfl rfl rfl R.u64 ?_|refine n8 rfl rfl rfl ?_)|((with_reducible refine zq ?_);first|refine p7 rfl rfl rfl R.i64 ?_|refine qa rfl rfl rfl R.u64 ?_|refine n9 rfl rfl rfl ?_)|((with_reducible refine zw ?_);refine u6 rfl rfl rfl ?_)|((with_reducible refine zy ?_);refine y9 rfl rfl rfl ?_)|((with_reducible refine zA ?_);refine u7 rfl rfl rfl ?_)|((with_reducible refine zC ?_);refine rM rfl rfl rfl ?_)|((with_reducible refine jf ?_);first|refine ze rfl rfl rfl ?_|refine tM rfl rfl rfl ?_)|((with_reducible refine k8 ?_);first|refine zf rfl rfl rfl ?_|refine tN rfl rfl rfl ?_)|((with_reducible refine tQ ?_);first|refine lK rfl rfl vv ?_|refine lL rfl rfl vv ?_)|((with_reducible refine bM ?_);refine bu rfl rfl ww ?_)|((with_reducible refine zo ?_);refine iS rfl rfl ?_)|((with_reducible refine mA ?_);first|refine qj rfl rfl rfl rfl xj xj ?_|refine jJ rfl rfl rfl xj xj ?_)|((with_reducible refine zn ?_);first|refine tR rfl rfl ?_|refine tU rfl rfl ?_|refine tV rfl rfl ?_|refine tW rfl rfl ?_|refine R.WO_extP rfl rfl ?_|refine R.WO_extT rfl rfl ?_|refine R.WO_extStr rfl rfl ?_|refine tX rfl rfl ?_)|((with_reducible refine ve ?_);first|refine vc rfl rfl ?_|refine zi rfl rfl rfl ?_|refine zj rfl rfl rfl ?_)|((with_reducible refine zk ?_);refine jY rfl rfl ?_)|((with_reducible refine zr ?_);first|refine qe rfl rfl rfl xj xj ?_|refine qb rfl rfl rfl R.u64 xj ?_)|((with_reducible refine zt ?_);first|refine qf rfl rfl rfl xj xj ?_|refine qd rfl rfl rfl R.u64 xj ?_)|((with_reducible refine ph ?_);refine jX rfl rfl rfl xj xj ?_)|((with_reducible refine zv ?_);refine qg rfl rfl rfl xj xj ?_)|((with_reducible refine zu ?_);refine zg rfl rfl rfl ?_)|((with_reducible refine Iw ?_);refine Iq rfl rfl rfl ?_)|((with_reducible refine zl ?_);first|refine qh rfl rfl R.i64 ?_|refine oa rfl rfl ?_)|((with_reducible refine od ?_);first|refine jw rfl rfl R.i64 ?_|refine jx rfl rfl R.u64 ?_|refine iF rfl rfl ?_|refine fP rfl rfl ?_)|((with_reducible refine fG ?_);refine vb rfl ?_)|((with_reducible refine pg ?_);first|refine R.WO_boxI rfl ?_|refine R.WO_boxB rfl ?_|refine R.WO_boxS rfl ?_|refine SK rfl ?_|refine R.WO_boxP rfl ?_|refine R.WO_boxT rfl ?_|refine R.WO_boxStr rfl ?_|refine R.WO_boxM rfl ?_)|((with_reducible refine Iv ?_);first|refine R.WO_bs0 rfl ?_|refine R.WO_bs1 rfl vv rfl ?_|refine R.WO_bs4 rfl vv vv vv vv rfl rfl rfl rfl ?_));exact hk)):G:=h
end R
namespace R
section
variable {P:Program}
theorem KJ {t e:TypeId} {m:Nat} {k k':IntKind} (ht:P.underlying t=some (.array m e)) (he:P.underlying e=some (.int k')) (hs:ct P e=some 1) (hk:aY P e=some false) (d:Nat) (w:World) (a b:List Int) (ha:a.length=m) (hb:b.length=m) :
  (Op.equalIn (d+2) t (.agg (a.map (.int k)).toArray) (.agg (b.map (.int k)).toArray)).run P w=.ok (decide (a=b)) w:=by
 rw [Op.equalIn]
 simp only [Sem.run_bind,run_underlying ht,Result.andThen_ok,bI hs]
 simp only [Std.Legacy.Range.forIn_eq_forIn_range',Std.Legacy.Range.size,Nat.sub_zero,Nat.add_sub_cancel,Nat.div_one]
 have key:∀ (r s:Nat),s+r=m→a.take s=b.take s →
  (Sem.run P (forIn (List.range' s r 1) (none,PUnit.unit) fun i __s=>do
      let x ← part e (List.map (Value.int k) a).toArray (i*1)
      let y ← part e (List.map (Value.int k) b).toArray (i*1)
      let c ← Op.equalIn (d+1) e x y
      if (!c)=true then pure (ForInStep.done (some false,PUnit.unit)) else pure (ForInStep.yield (none,PUnit.unit))) w)=.ok (if a=b then none else some false,PUnit.unit) w:=by
  intro r
  induction r with
  | zero =>
   intro s hs' ht'
   obtain rfl:s=m:=by omega
   have hab:a=b:=by rw [← List.take_length (l:=a),← List.take_length (l:=b),ha,hb];exact ht'
   simp [hab]
  | succ r ih =>
   intro s hs' ht'
   have h1:s<a.length:=by omega
   have h2:s<b.length:=by omega
   have p1:(part e (a.map (Value.int k)).toArray (s*1)).run P w=.ok (.int k a[s]) w:=by simp [part,bS hk,h1]
   have p2:(part e (b.map (Value.int k)).toArray (s*1)).run P w=.ok (.int k b[s]) w:=by simp [part,bS hk,h2]
   simp only [List.range'_succ,List.forIn_cons,Sem.run_bind,p1,p2,Result.andThen_ok,run_equalIn_int w d e k k' _ _ he]
   by_cases hx:a[s]=b[s]
   ·have hb1:(!(a[s] == b[s]))=false:=by simp [hx]
    simp only [hb1,Bool.false_eq_true,if_false,Sem.run_pure,Result.andThen_ok]
    refine ih (s+1) xj ?_
    rw [List.take_succ_eq_append_getElem h1,List.take_succ_eq_append_getElem h2,ht',hx]
   ·have hb1:(!(a[s] == b[s]))=true:=by simp [hx]
    simp only [hb1,if_true,Sem.run_pure,Result.andThen_ok]
    rw [if_neg (fun hab=>hx (by subst hab;rfl))]
 have h0:=key m 0 xj rfl
 rw [h0]
 by_cases hab:a=b
 ·simp [hab]
 ·simp [hab]
variable {C:bO} {o:Oper} {f:Fr} {w:World} {K:Value→World→Prop}
theorem KL {t u e:TypeId} {x y:Operand} {m:Nat} {k k':IntKind} {a b:List Int} (hop:o.op=.binOp .eql t x y u) (hx:ev f x=.agg (a.map (.int k)).toArray) (hy:ev f y=.agg (b.map (.int k)).toArray) [ht:FU P t m e 1] (he:P.underlying e=some (.int k')) (hk:aY P e=some false) (hm:P.eqGuardType P.depth t=false) (ha:a.length=m) (hb:b.length=m)
  (h:K (.bool (decide (a=b))) w):WO P C o f w K:=by
 refine aO ?_ h
 have h1:=KJ (k:=k) ht.h he ht.s hk 9998 w a b ha hb
 simp only [execOp,hop,hx,hy,Sem.run_bind,run_eqGuard_agg w .eql t x y _ _ hm,Result.andThen_ok,run_eql_struct,h1]
 simp
theorem qx {t:TypeId} {parts:Array (Nat×Operand)} {cells:Array Value} (hop:o.op=.build t parts) (hc:P.built t (parts.map fun (i,x)=>(i,ev f x)).toList=some cells) (h:K (.agg cells) w):WO P C o f w K :=
 aO (by simp only [execOp,hop,Sem.run_bind,run_build w t _ cells hc,Result.andThen_ok];simp) h
theorem Ti {t e:TypeId} {x i:Operand} {cs:List Value} {m sz:Nat} {k k':IntKind} {j n:Int} (hop:o.op=.index t x i) [ht:FU P t m e sz] (hs:sz=1) (hk:aY P e=some false) (hx:ev f x=.agg cs.toArray) (hi:ev f i=.int k j) (h0:0≤j) (h1:j<m) (hv:cs[j.toNat]?=some (.int k' n))
  (h:K (.int k' n) w):WO P C o f w K:=by
 refine aO ?_ h
 subst hs
 simp [execOp,hop,hx,hi,Instr.index,asIntOf,run_underlying ht.h,h0,h1,bI ht.s,part,bS hk,hv]
end
end R
namespace R
abbrev Tj:=Nat×TypeId×List Value
def HB (w:World) (b:Tj):Prop:=w.heap[b.1]?=some (.cells b.2.2.toArray b.2.1 (0,0))
structure b8 (W w:World) (l:List Tj):Prop where
 below:Below W.heap.size W w
 has:∀ b∈l,HB w b
 own:∀ b∈l,W.heap.size≤b.1
 nodup:(l.map (·.1)).Nodup
inductive Sets:List Tj→Nat→TypeId→List Value→List Value→List Tj→Prop
 | head {g t cs ds l}:Sets ((g,t,cs)::l) g t cs ds ((g,t,ds)::l)
 | tail {p g t cs ds l l'} (h:Sets l g t cs ds l'):Sets (p::l) g t cs ds (p::l')
section
variable {W w w':World} {l l':List Tj} {g:Nat} {t:TypeId} {cs ds:List Value}
theorem b8.start (W:World):b8 W W []:=⟨Below.refl _ W,by simp,by simp,by simp⟩
theorem HB.lt {b:Tj} (h:HB w b):b.1<w.heap.size:=(Array.getElem?_eq_some_iff.1 h).1
theorem b8.call (h:b8 W w l) (hb:Below w.heap.size w w'):b8 W w' l :=
 ⟨h.below.trans (hb.mono h.below.size),fun b hm=>(hb.block b.1 (h.has b hm).lt).trans (h.has b hm),h.own,h.nodup⟩
theorem b8.alloc (h:b8 W w l) (cells:Array Value) (t:TypeId):b8 W (w.alloc (.cells cells t)) ((w.heap.size,t,cells.toList)::l):=by
 refine ⟨h.below.alloc h.below.size _,fun b hm=>?_,fun b hm=>?_,?_⟩
 ·rcases List.mem_cons.1 hm with rfl|hm
  ·exact heap_alloc_new w _
  ·exact (Below.heap_alloc w _ b.1 (h.has b hm).lt).trans (h.has b hm)
 ·rcases List.mem_cons.1 hm with rfl|hm
  ·exact h.below.size
  ·exact h.own b hm
 ·rw [List.map_cons,List.nodup_cons]
  refine ⟨fun hm=>?_,h.nodup⟩
  obtain ⟨b,hb,he⟩:=List.mem_map.1 hm
  have:=(h.has b hb).lt
  simp only at he
  omega
theorem Sets.old (h:Sets l g t cs ds l'):(g,t,cs)∈l:=by
 induction h with
 | head=>exact .head _
 | tail _ ih=>exact .tail _ ih
theorem Sets.keys (h:Sets l g t cs ds l'):l'.map (·.1)=l.map (·.1):=by
 induction h with
 | head=>rfl
 | tail _ ih=>simp [ih]
theorem Sets.new (h:Sets l g t cs ds l') (hn:(l.map (·.1)).Nodup):∀ b∈l',b=(g,t,ds)∨(b∈l∧b.1≠g):=by
 induction h with
 | @head g t cs ds l =>
  intro b hb
  rcases List.mem_cons.1 hb with rfl|hm
  ·exact .inl rfl
  ·refine .inr ⟨.tail _ hm,fun e=>?_⟩
   rw [List.map_cons,List.nodup_cons] at hn
   exact hn.1 (List.mem_map.2 ⟨b,hm,e⟩)
 | @tail p g t cs ds l l' hs ih =>
  intro b hb
  rw [List.map_cons,List.nodup_cons] at hn
  rcases List.mem_cons.1 hb with rfl|hm
  ·refine .inr ⟨.head _,fun e=>hn.1 ?_⟩
   rw [e]
   exact List.mem_map.2 ⟨_,hs.old,rfl⟩
  ·rcases ih hn.2 b hm with h|h
   ·exact .inl h
   ·exact .inr ⟨.tail _ h.1,h.2⟩
theorem b8.set (h:b8 W w l) (hs:Sets l g t cs ds l') (hb:∀ k,k≠g→w'.heap[k]?=w.heap[k]?) (hg:HB w' (g,t,ds)) (hw:Below g w w'):b8 W w' l':=by
 refine ⟨h.below.trans (hw.mono (h.own _ hs.old)),fun b hm=>?_,fun b hm=>?_,by rw [hs.keys];exact h.nodup⟩
 ·rcases hs.new h.nodup b hm with rfl|hm'
  ·exact hg
  ·exact (hb b.1 hm'.2).trans (h.has b hm'.1)
 ·rcases hs.new h.nodup b hm with rfl|hm'
  ·exact h.own (g,t,cs) hs.old
  ·exact h.own b hm'.1
theorem b8.row (h:b8 W w l) (hm:(g,t,cs)∈l):gZ w ⟨g,0,none⟩ cs:=gZ.ql (h.has _ hm)
theorem b8.setRow (h:b8 W w l) (hs:Sets l g t cs ds l'):b8 W (w.setRow g ds.toArray) l' :=
 h.set hs (fun k hk=>setRow_other w g k _ hk) (setRow_heap w g _ _ _ _ (h.has _ hs.old)) ⟨rfl,rfl,rfl,by simp [World.setRow],fun k hk=>setRow_other w g k _ xj⟩
end
section
variable {P:Program} {C:bO} {o:Oper} {f:Fr} {W w:World} {K:Value→World→Prop} {l l':List Tj} {g j:Nat} {t u:TypeId} {x y:Operand} {cs ds:List Value}
theorem og {z:Value} (hop:o.op=.alloc t) [bY P t z] (hM:b8 W w l) (hk:∀ w',b8 W w' ((w.heap.size,t,z.cells.toList)::l)→K (.pointer (some ⟨w.heap.size,0,none⟩)) w'):WO P C o f w K :=
 vb hop (hk _ (hM.alloc _ _))
theorem vr (hop:o.op=.box t x) (hx:ev f x=.agg cs.toArray) (hM:b8 W w l) (hk:∀ w',b8 W w' ((w.heap.size,t,cs)::l)→K (.pointer (some ⟨w.heap.size,0,none⟩)) w'):WO P C o f w K :=
 zh hop hx (hk _ (hM.alloc _ _))
theorem rS (hop:o.op=.load t x) (hx:ev f x=.pointer (some ⟨g,0,none⟩)) [aG P t true] {m:Nat} [dP P t m] (hM:b8 W w l) (hm:(g,u,cs)∈l) (hn:cs.length=m) (hk:K (.agg cs.toArray) w):WO P C o f w K :=
 bP hop hx hn (hM.row hm) hk
theorem pq (hop:o.op=.store t x y) (hx:ev f x=.pointer (some ⟨g,0,none⟩)) (hy:ev f y=.agg ds.toArray) {m:Nat} [dP P t m] (hM:b8 W w l) (hs:Sets l g u cs ds l') (hm:ds.length=m) (hn:cs.length=m) (h1:ds.toArray.all (·.oneCell')=true) (hk:∀ w',b8 W w' l'→K undef w'):WO P C o f w K :=
 dm hop hx hy (by simpa using hm) (hM.has _ hs.old) (by simp [hm,hn]) h1 (hk _ (hM.setRow hs))
end
section
variable {P:Program} {fn:Func} {R:Ending→World→Prop} {e:Exit} {f:Fr} {W w:World} {l:List Tj} {g g2 p q r:Nat} {t t2 u u2:TypeId} {cs ds:List Value} {m k:Nat} {v:Value} (he:e=.ret∨e=.normal)
include he
theorem aaI {H:b8 W w l} (h:fn.results=#[.cell p t]) (hp:f p=.pointer (some ⟨g,0,none⟩)) [aG P t true] [dP P t m] (hm:(g,u,cs)∈l) (hn:cs.length=m) (hr:R (.returned (.agg cs.toArray)) w):kD P fn R e f w :=
 M4 he h hp hn (H.row hm) hr
end
section
variable {P:Program} {C:bO} {f:Fr} {w:World} {K:Value→World→Prop} {d:Option Nat} {ty t:TypeId} {p:String} {af:Array Edge} {gd:Option (Nat×Bool)} {parts:Array (Nat×Operand)}
theorem gP (h:WO P C ⟨d,.build t parts,ty,p,af,gd⟩ f w K):WO P C ⟨d,.build t parts,ty,p,af,gd⟩ f w K:=h
end
end R
namespace R
inductive bX where
 | blk (g:Nat) (t:TypeId) (cs:List Value)
 | row (A:Option Addr) (n c:Nat) (e:TypeId) (sz:Nat) (cs:List Value)
 | map (b:Nat) (es:Array MapEntry) (clock:Nat)
def bX.key:bX→Option Nat
 | .blk g _ _=>some g
 | .row A _ _ _ _ _=>iG A
 | .map b _ _=>some b
def bX.ok (w:World):bX→Prop
 | .blk g t cs=>w.heap[g]?=some (.cells cs.toArray t (0,0))
 | .row A n c e sz cs=>w.ownsRow 0 e sz (.slice A n c) n cs
 | .map b es k=>w.heap[b]?=some (.map es k)
theorem cX (A:Option Addr) (n c:Nat):(Value.slice A n c).ownBlock=iG A:=by cases A <;> rfl
theorem bX.ok.lt {w:World} {r:bX} (h:r.ok w) {k:Nat} (hk:r.key=some k):k<w.heap.size:=by
 cases r with
 | blk g t cs=>cases hk;exact (Array.getElem?_eq_some_iff.1 h).1
 | row A n c e sz cs=>exact (World.ownsRow.lt h k (by rw [cX];exact hk)).2
 | map b es c=>cases hk;exact (Array.getElem?_eq_some_iff.1 h).1
theorem bX.ok.kC {w w':World} {r:bX} {row:Option Nat} (h:r.ok w) (hg:w.grownBy w' row) (hne:∀ k,r.key=some k→row≠some k):r.ok w':=by
 have hl:=fun k hk=>h.lt (k:=k) hk
 cases r with
 | blk g t cs=>exact (hg.block g (hl g rfl) (fun e=>hne g rfl e.symm)).trans h
 | row A n c e sz cs =>
  refine World.ownsRow.kept h hg ?_
  rw [cX]
  cases hA:iG A with
  | none=>exact .inl rfl
  | some k=>exact .inr fun e=>hne k hA e.symm
 | map b es c=>exact (hg.block b (hl b rfl) (fun e=>hne b rfl e.symm)).trans h
structure Own (F:List Nat) (W w:World) (l:List bX):Prop where
 os:w.os=W.os
 tape:w.tape=W.tape
 output:w.output=W.output
 size:W.heap.size≤w.heap.size
 kept:∀ k,k<W.heap.size→k∉F→w.heap[k]?=W.heap[k]?
 ok:∀ r∈l,r.ok w
 own:∀ r∈l,∀ k,r.key=some k→W.heap.size≤k∨k∈F
 nodup:(l.filterMap bX.key).Nodup
inductive oM:List bX→bX→bX→List bX→Prop
 | head {r r' l}:oM (r::l) r r' (r'::l)
 | tail {p r r' l l'} (h:oM l r r' l'):oM (p::l) r r' (p::l')
section
variable {F:List Nat} {W w w':World} {l l':List bX} {r r':bX}
theorem nF (h:Below w.heap.size w w'):w.grownBy w' none:=⟨h.os,h.tape,h.output,h.size,fun k hk _=>h.block k hk⟩
theorem Own.start (F:List Nat) (W:World):Own F W W []:=⟨rfl,rfl,rfl,Nat.le_refl _,fun _ _ _=>rfl,by simp,by simp,by simp⟩
theorem Own.drew (h:Own F W w l):Own F W w.drew l:=⟨h.os,h.tape,h.output,h.size,h.kept,h.ok,h.own,h.nodup⟩
theorem Own.below (h:Own [] W w l):Below W.heap.size W w:=⟨h.os,h.tape,h.output,h.size,fun k hk=>h.kept k hk (by simp)⟩
theorem Own.lt (h:Own F W w l) (hm:r∈l) {k:Nat} (hk:r.key=some k):k<w.heap.size:=(h.ok _ hm).lt hk
theorem Own.ir (h:Own F W w l) {row:Option Nat} (hg:w.grownBy w' row) (hr:∀ k,row=some k→W.heap.size≤k∨k∈F):∀ k,k<W.heap.size→k∉F→w'.heap[k]?=W.heap[k]?:=fun k hk hF=>by
 have:=h.size
 refine (hg.block k xj (fun e=>?_)).trans (h.kept k hk hF)
 rcases hr k e.symm with h1|h1
 ·omega
 ·exact hF h1
theorem Own.add (h:Own F W w l) (hg:w.grownBy w' none) (hr:r.ok w') (hk:∀ k,r.key=some k→w.heap.size≤k):Own F W w' (r::l):=by
 refine ⟨hg.os.trans h.os,hg.tape.trans h.tape,hg.output.trans h.output,Nat.le_trans h.size hg.size,h.ir hg (by simp),?_,?_,?_⟩
 ·intro x hx
  rcases List.mem_cons.1 hx with rfl|hx
  ·exact hr
  ·exact (h.ok x hx).kC hg (by simp)
 ·intro x hx k e
  rcases List.mem_cons.1 hx with rfl|hx
  ·exact .inl (Nat.le_trans h.size (hk k e))
  ·exact h.own x hx k e
 ·rw [List.filterMap_cons]
  cases hkey:r.key with
  | none=>exact h.nodup
  | some k =>
   refine List.nodup_cons.2 ⟨fun hm=>?_,h.nodup⟩
   obtain ⟨x,hx,hx'⟩:=List.mem_filterMap.1 hm
   have:=h.lt hx hx'
   have:=hk k hkey
   omega
theorem Own.call (h:Own F W w l) (hb:Below w.heap.size w w'):Own F W w' l:=by
 have hg:=nF hb
 exact ⟨hg.os.trans h.os,hg.tape.trans h.tape,hg.output.trans h.output,Nat.le_trans h.size hg.size,h.ir hg (by simp),fun x hx=>(h.ok x hx).kC hg (by simp),h.own,h.nodup⟩
theorem Own.none_ (h:Own F W w l) (hr:r.ok w) (hk:r.key=none):Own F W w (r::l) :=
 h.add ⟨rfl,rfl,rfl,Nat.le_refl _,fun _ _ _=>rfl⟩ hr (by rw [hk];simp)
theorem Own.nil (h:Own F W w l) (e:TypeId) (sz:Nat):Own F W w (.row none 0 0 e sz []::l):=h.none_ (World.ownsRow_nil _ _ _ _) rfl
theorem oM.old (h:oM l r r' l'):r∈l:=by
 induction h with
 | head=>exact .head _
 | tail _ ih=>exact .tail _ ih
theorem oM.mem (h:oM l r r' l') (hn:(l.filterMap bX.key).Nodup):∀ x∈l',x=r'∨(x∈l∧∀ k,x.key=some k→r.key≠some k):=by
 induction h with
 | @head r r' l =>
  intro x hx
  rcases List.mem_cons.1 hx with rfl|hx
  ·exact .inl rfl
  ·refine .inr ⟨.tail _ hx,fun k hk e=>?_⟩
   rw [List.filterMap_cons,e] at hn
   exact (List.nodup_cons.1 hn).1 (List.mem_filterMap.2 ⟨x,hx,hk⟩)
 | @tail p r r' l l' hu ih =>
  intro x hx
  have hn':(l.filterMap bX.key).Nodup:=by
   rw [List.filterMap_cons] at hn
   split at hn
   ·exact hn
   ·exact (List.nodup_cons.1 hn).2
  rcases List.mem_cons.1 hx with rfl|hx
  ·refine .inr ⟨.head _,fun k hk e=>?_⟩
   rw [List.filterMap_cons,hk] at hn
   exact (List.nodup_cons.1 hn).1 (List.mem_filterMap.2 ⟨r,hu.old,e⟩)
  ·rcases ih hn' x hx with h1|h1
   ·exact .inl h1
   ·exact .inr ⟨.tail _ h1.1,h1.2⟩
theorem oM.keys (h:oM l r r' l') (hk:r'.key=r.key):l'.filterMap bX.key=l.filterMap bX.key:=by
 induction h with
 | head=>simp only [List.filterMap_cons,hk]
 | tail _ ih=>simp only [List.filterMap_cons,ih hk]
theorem oM.NZ (h:oM l r r' l'):∀ k,k∈l'.filterMap bX.key→r'.key=some k∨k∈l.filterMap bX.key:=by
 induction h with
 | @head r r' l =>
  intro k hm
  obtain ⟨x,hx,hx'⟩:=List.mem_filterMap.1 hm
  rcases List.mem_cons.1 hx with rfl|hx
  ·exact .inl hx'
  ·exact .inr (List.mem_filterMap.2 ⟨x,.tail _ hx,hx'⟩)
 | @tail p r r' l l' hu ih =>
  intro k hm
  obtain ⟨x,hx,hx'⟩:=List.mem_filterMap.1 hm
  rcases List.mem_cons.1 hx with rfl|hx
  ·exact .inr (List.mem_filterMap.2 ⟨x,.head _,hx'⟩)
  ·rcases ih k (List.mem_filterMap.2 ⟨x,hx,hx'⟩) with h1|h1
   ·exact .inl h1
   ·obtain ⟨y,hy,hy'⟩:=List.mem_filterMap.1 h1
    exact .inr (List.mem_filterMap.2 ⟨y,.tail _ hy,hy'⟩)
theorem oM.nodup (h:oM l r r' l') {B:Nat} (hl:∀ x∈l,∀ k,x.key=some k→k<B) (hk:∀ k,r'.key=some k→B≤k) (hn:(l.filterMap bX.key).Nodup):(l'.filterMap bX.key).Nodup:=by
 induction h with
 | @head r r' l =>
  rw [List.filterMap_cons] at hn ⊢
  have hn':(l.filterMap bX.key).Nodup:=by
   split at hn
   ·exact hn
   ·exact (List.nodup_cons.1 hn).2
  cases hr:r'.key with
  | none=>exact hn'
  | some k =>
   refine List.nodup_cons.2 ⟨fun hm=>?_,hn'⟩
   obtain ⟨x,hx,hx'⟩:=List.mem_filterMap.1 hm
   have:=hl x (.tail _ hx) k hx'
   have:=hk k hr
   omega
 | @tail p r r' l l' hu ih =>
  rw [List.filterMap_cons] at hn ⊢
  cases hp:p.key with
  | none =>
   rw [hp] at hn
   exact ih (fun x hx=>hl x (.tail _ hx)) hk hn
  | some k =>
   rw [hp] at hn
   obtain ⟨h1,h2⟩:=List.nodup_cons.1 hn
   refine List.nodup_cons.2 ⟨fun hm=>?_,ih (fun x hx=>hl x (.tail _ hx)) hk h2⟩
   rcases hu.NZ k hm with h3|h3
   ·have:=hl p (.head _) k hp
    have:=hk k h3
    omega
   ·exact h1 h3
theorem Own.cw (h:Own F W w l) (hu:oM l r r' l') (hg:w.grownBy w' r.key) (hr:r'.ok w') (hk:r'.key=r.key∨∀ k,r'.key=some k→w.heap.size≤k):Own F W w' l':=by
 refine ⟨hg.os.trans h.os,hg.tape.trans h.tape,hg.output.trans h.output,Nat.le_trans h.size hg.size,h.ir hg (fun k e=>h.own r hu.old k e),?_,?_,?_⟩
 ·intro x hx
  rcases hu.mem h.nodup x hx with rfl|⟨h1,h2⟩
  ·exact hr
  ·exact (h.ok x h1).kC hg h2
 ·intro x hx k e
  rcases hu.mem h.nodup x hx with rfl|⟨h1,_⟩
  ·rcases hk with hk|hk
   ·exact h.own r hu.old k (hk▸e)
   ·exact .inl (Nat.le_trans h.size (hk k e))
  ·exact h.own x h1 k e
 ·rcases hk with hk|hk
  ·rw [hu.keys hk];exact h.nodup
  ·exact hu.nodup (fun x hx k e=>h.lt hx e) hk h.nodup
theorem Own.sub (h:Own F W w l) (hs:l'.Sublist l):Own F W w l' :=
 ⟨h.os,h.tape,h.output,h.size,h.kept,fun x hx=>h.ok x (hs.subset hx),fun x hx=>h.own x (hs.subset hx),h.nodup.sublist (hs.filterMap _)⟩
theorem Own.perm (h:Own F W w l) (hs:l'.Perm l):Own F W w l' :=
 ⟨h.os,h.tape,h.output,h.size,h.kept,fun x hx=>h.ok x (hs.subset hx),fun x hx=>h.own x (hs.subset hx),((hs.filterMap _).nodup_iff).2 h.nodup⟩
theorem Own.KU (h:Own F W w l):Own F W w []:=h.sub (List.nil_sublist _)
theorem Own.swap (h:Own F W w (r::r'::l)):Own F W w (r'::r::l):=h.perm (List.Perm.swap ..)
theorem Own.tl (h:Own F W w (r::l)):Own F W w l:=h.sub (List.sublist_cons_self _ _)
def Rd (w:World) (A:Option Addr) (n sz:Nat) (cs:List Value):Prop:=cs.length=n*sz∧∀ j v,cs[j]?=some v→∃ a,A=some a∧w.cell? (a.add j)=some v
def gn (F:List Nat) (W:World) (A:Option Addr) (n sz:Nat) (cs:List Value):Prop:=cs.length=n*sz∧∀ j v,cs[j]?=some v→∃ a,A=some a∧a.block<W.heap.size∧a.block∉F∧W.cell? (a.add j)=some v
variable {A:Option Addr} {n c sz:Nat} {e:TypeId} {cs:List Value}
theorem Own.I2 (h:Own F W w l) {a:Addr} {v:Value} (h1:a.block<W.heap.size) (h2:a.block∉F) (hc:W.cell? a=some v):w.cell? a=some v:=by
 rw [← hc]
 exact World.cell?_of_block (h.kept _ h1 h2)
theorem Own.Gn (h:Own F W w l) (hi:gn F W A n sz cs):Rd w A n sz cs :=
 ⟨hi.1,fun j v hj=>by
  obtain ⟨a,hA,h1,h2,hc⟩:=hi.2 j v hj
  exact ⟨a,hA,h.I2 (by rw [ga];exact h1) (by rw [ga];exact h2) hc⟩⟩
theorem Own.gi (h:Own F W w l) (hi:gn F W A n sz cs):gn [] w A n sz cs :=
 ⟨hi.1,fun j v hj=>by
  obtain ⟨a,hA,h1,h2,hc⟩:=hi.2 j v hj
  exact ⟨a,hA,Nat.lt_of_lt_of_le h1 h.size,by simp,h.I2 (by rw [ga];exact h1) (by rw [ga];exact h2) hc⟩⟩
theorem yb (hr:w.ownsRow 0 e sz (.slice A n c) n cs):∀ j v,cs[j]?=some v→∃ a,A=some a∧a.block<w.heap.size∧w.cell? (a.add j)=some v:=fun j v hj=>by
 cases A with
 | none =>
  rcases hr.2 with ⟨hv,hn⟩|⟨g,cap,cur,hv,_⟩
  ·have h1:=hr.1
   rw [hn,Nat.zero_mul] at h1
   rw [List.eq_nil_of_length_eq_zero h1] at hj
   cases hj
  ·cases hv
 | some a =>
  refine ⟨a,rfl,(hr.lt a.block rfl).2,?_⟩
  rcases hr.2 with ⟨hv,_⟩|⟨g,cap,cur,hv,_⟩
  ·cases hv
  ·obtain rfl:a=⟨g,0,none⟩:=by injection hv with h1;injection h1
   exact hr.cells (g:=g) rfl j v hj
theorem Own.rd (h:Own F W w l) (hm:.row A n c e sz cs∈l):Rd w A n sz cs :=
 ⟨(h.ok _ hm).1,fun j v hj=>by
  obtain ⟨a,hA,_,hc⟩:=yb (h.ok _ hm) j v hj
  exact ⟨a,hA,hc⟩⟩
theorem Own.wW (h:Own F W w l) (hm:.row A n c e sz cs∈l):gn [] w A n sz cs :=
 ⟨(h.ok _ hm).1,fun j v hj=>by
  obtain ⟨a,hA,h1,hc⟩:=yb (h.ok _ hm) j v hj
  exact ⟨a,hA,h1,by simp,hc⟩⟩
theorem Own.aaP (h:Own F W w l) {g:Nat} {t:TypeId} (hm:.blk g t cs∈l) (hn:cs.length=n*sz):Rd w (some ⟨g,0,none⟩) n sz cs :=
 ⟨hn,fun j v hj=>⟨_,rfl,by
  have:=h.ok _ hm
  rw [Addr.add_lit,Nat.zero_add,cell_of_row _ _ _ _ _ _ this]
  simpa using hj⟩⟩
theorem gn.nil (F:List Nat) (W:World) (A:Option Addr) (sz:Nat):gn F W A 0 sz []:=⟨by simp,by simp⟩
theorem Rd.some_ (h:Rd w A n sz cs) (hn:0<n) (hs:0<sz):∃ a,A=some a:=by
 have hl:=h.1
 have:0<cs.length:=by rw [hl];exact Nat.mul_pos hn hs
 obtain ⟨a,hA,_⟩:=h.2 0 _ (List.getElem?_eq_getElem this)
 exact ⟨a,hA⟩
end
def nth {T:Type} [Inhabited T] (L:List T) (i:Nat):T:=L.getD i default
theorem av {T:Type} [Inhabited T] {L:List T} {i:Nat} (h:i<L.length):nth L i=L[i]:=by simp [nth,h]
theorem qB {T:Type} [Inhabited T] {L:List T} {i:Nat} (h:i<L.length):L[i]?=some (nth L i):=by rw [av h];exact List.getElem?_eq_getElem h
theorem aB {T:Type} [Inhabited T] {L:List T} {i:Nat} (h:i<L.length):nth L i∈L:=by rw [av h];exact List.getElem_mem h
class cA {T:Type} (enc:T→List Value) (sz:outParam Nat):Prop where
 len:∀ x,(enc x).length=sz
 one:∀ x,∀ v∈enc x,v.oneCell'=true
 pos:0<sz
class iU (P:Program) (e:TypeId) (T:outParam Type) (enc:outParam (T→List Value)) (sz:outParam Nat):Prop extends cA enc sz
class VN {T:Type} (enc:T→List Value) (cs:List Value) (L:outParam (List T)):Prop where h:cs=L.flatMap enc
instance aaQ {T:Type} (enc:T→List Value) (L:List T):VN enc (L.flatMap enc) L:=⟨rfl⟩
instance acD {T:Type} (enc:T→List Value) (x:T):VN enc (enc x) [x]:=⟨by simp⟩
def cI (x:Int):List Value:=[.int .i64 x]
def cY (x:Int):List Value:=[.int .u8 x]
def cB (x:Bool):List Value:=[.bool x]
instance ad1:cA cI 1:=⟨fun _=>rfl,by simp [cI,Value.oneCell'],by decide⟩
instance ah0 (x:Int):VN cI [.int .i64 x] [x]:=⟨rfl⟩
theorem ef {T:Type} {enc:T→List Value} {sz:Nat} (h:∀ x,(enc x).length=sz):∀ L:List T,(L.flatMap enc).length=L.length*sz
 | []=>by simp
 | x::L=>by rw [List.flatMap_cons,List.length_append,h,ef h L,List.length_cons,Nat.succ_mul,Nat.add_comm]
theorem qC {T:Type} {enc:T→List Value} {sz:Nat} (h:∀ x,(enc x).length=sz):∀ (L:List T) (i off:Nat) (x:T),L[i]?=some x→off<sz→(L.flatMap enc)[i*sz+off]?=(enc x)[off]?
 | [],i,off,x,hi,_=>by simp at hi
 | y::L,0,off,x,hi,ho=>by
  simp only [List.getElem?_cons_zero,Option.some.injEq] at hi
  subst hi
  rw [List.flatMap_cons,Nat.zero_mul,Nat.zero_add,List.getElem?_append_left (by rw [h];exact ho)]
 | y::L,i+1,off,x,hi,ho=>by
  have hl:=h y
  rw [List.flatMap_cons,List.getElem?_append_right (by rw [hl,Nat.succ_mul];omega),hl,show (i+1)*sz+off-sz=i*sz+off by rw [Nat.succ_mul];omega]
  exact qC h L i off x (by simpa using hi) ho
theorem Dq {T:Type} {enc:T→List Value} {sz:Nat} (h:∀ x,(enc x).length=sz):∀ (L:List T) (i off:Nat) (x y:T) (v:Value),L[i]?=some x→off<sz→enc y=(enc x).set off v→(L.flatMap enc).set (i*sz+off) v=(L.set i y).flatMap enc
 | [],i,off,x,y,v,hi,_,_=>by simp at hi
 | z::L,0,off,x,y,v,hi,ho,he=>by
  simp only [List.getElem?_cons_zero,Option.some.injEq] at hi
  subst hi
  rw [List.flatMap_cons,Nat.zero_mul,Nat.zero_add,List.set_append_left _ _ (by rw [h];exact ho),List.set_cons_zero,List.flatMap_cons,he]
 | z::L,i+1,off,x,y,v,hi,ho,he=>by
  have hl:=h z
  rw [List.flatMap_cons,List.set_append_right _ _ (by rw [hl,Nat.succ_mul];omega),hl,show (i+1)*sz+off-sz=i*sz+off by rw [Nat.succ_mul];omega,List.set_cons_succ,List.flatMap_cons,
   Dq h L i off x y v (by simpa using hi) ho he]
def ptr (A:Option Addr) (i sz off:Nat):Value:=.pointer (A.map (·.add (i*sz+off)))
theorem eX {a:Addr} {i sz off:Nat}:ptr (some a) i sz off=.pointer (some (a.add (i*sz+off))):=rfl
theorem bz {A:Option Addr} {i sz off:Nat}:gI (ptr A i sz off)=true:=rfl
attribute [irreducible] ptr
class Tu (j:Int) (k:outParam Nat):Prop where h:j.toNat=k
instance (priority:=low) acE (j:Int):Tu j j.toNat:=⟨rfl⟩
instance aaR (k:Nat):Tu (k:Int) k:=⟨rfl⟩
section
variable {P:Program} {C:bO} {o:Oper} {f:Fr} {F:List Nat} {W w:World} {K:Value→World→Prop} {l l':List bX} {g j:Nat} {t u e:TypeId} {x y i:Operand} {cs ds:List Value} {A:Option Addr} {n c sz off m k:Nat} {v:Value}
theorem Own.alloc (h:Own F W w l) (cells:Array Value) (t:TypeId):Own F W (w.alloc (.cells cells t)) (.blk w.heap.size t cells.toList::l) :=
 h.add (World.grownBy_alloc w _ none) (show _=_ from by simpa using heap_alloc_new w _) (fun k e=>by cases e;exact Nat.le_refl _)
theorem dO {z:Value} (hop:o.op=.alloc t) [bY P t z] (hM:Own F W w l) (hk:∀ g w',Own F W w' (.blk g t z.cells.toList::l)→K (.pointer (some ⟨g,0,none⟩)) w'):WO P C o f w K :=
 vb hop (hk _ _ (hM.alloc _ _))
theorem lT (hop:o.op=.box t x) (hx:ev f x=v) (h1:v.oneCell'=true) (hM:Own F W w l) (hk:∀ g w',Own F W w' (.blk g t [v]::l)→K (.pointer (some ⟨g,0,none⟩)) w'):WO P C o f w K:=by
 have hc:v.cells=#[v]:=by cases v <;> first|rfl|(simp [Value.oneCell'] at h1)
 refine zh hop hx (hk _ _ ?_)
 rw [hc]
 exact hM.alloc _ _
theorem vC (hop:o.op=.box t x) (hx:ev f x=.agg cs.toArray) (hM:Own F W w l) (hk:∀ g w',Own F W w' (.blk g t cs::l)→K (.pointer (some ⟨g,0,none⟩)) w'):WO P C o f w K :=
 zh hop hx (hk _ _ (hM.alloc _ _))
theorem Own.rowAt (h:Own F W w l) (hm:.blk g t cs∈l):gZ w ⟨g,0,none⟩ cs:=gZ.ql (h.ok _ hm)
theorem rV (hop:o.op=.load t x) (hx:ev f x=.pointer (some ⟨g,0,none⟩)) [aG P t true] [dP P t m] (hM:Own F W w l) (hm:.blk g u cs∈l) (hn:cs.length=m) (hk:K (.agg cs.toArray) w):WO P C o f w K :=
 bP hop hx hn (hM.rowAt hm) hk
theorem cN {a:Addr} (hop:o.op=.load t x) (hx:ev f x=.pointer (some a)) [aG P t true] [dP P t m] (ha:a=⟨g,j,none⟩) (hM:Own F W w l) (hm:.blk g u cs∈l) (hn:((cs.drop j).take m).length=m) (hk:K (.agg ((cs.drop j).take m).toArray) w):WO P C o f w K:=by
 subst ha
 refine bP hop hx hn (fun i v hi=>?_) hk
 have h1:=hM.rowAt hm (j+i) v (by
  rw [List.getElem?_take] at hi
  split at hi
  ·rwa [List.getElem?_drop] at hi
  ·cases hi)
 rw [Addr.add_lit] at h1 ⊢
 rwa [Nat.zero_add] at h1
theorem dt {a:Addr} (hop:o.op=.load t x) (hx:ev f x=.pointer (some a)) [aG P t false] (ha:a=⟨g,j,none⟩) (hM:Own F W w l) (hm:.blk g u cs∈l) (hv:cs[j]?=some v) (hk:K v w):WO P C o f w K :=
 bu hop hx (by have:=hM.rowAt hm j v hv;rw [Addr.add_lit,Nat.zero_add] at this;rw [ha];exact this) hk
theorem Own.setRow (h:Own F W w l) (hu:oM l (.blk g t cs) (.blk g t ds) l'):Own F W (w.setRow g ds.toArray) l' :=
 h.cw hu ⟨rfl,rfl,rfl,by simp [World.setRow],fun k _ hk=>setRow_other w g k _ (fun e=>hk (by rw [e];rfl))⟩ (setRow_heap w g _ _ _ _ (h.ok _ hu.old)) (.inl rfl)
theorem Own.setCell (h:Own F W w l) (hu:oM l (.blk g t cs) (.blk g t (cs.set j v)) l'):Own F W (w.setCell ⟨g,j,none⟩ v) l':=by
 refine h.cw hu ⟨rfl,rfl,rfl,by simp,fun k _ hk=>heap_setCell_other w ⟨g,j,none⟩ k v (fun e=>hk (by simp [e,bX.key]))⟩ ?_ (.inl rfl)
 have:=heap_setCell_same w g j _ t v (h.ok _ hu.old)
 show _=_
 rw [this]
 simp
theorem iu (hop:o.op=.store t x y) (hx:ev f x=.pointer (some ⟨g,0,none⟩)) (hy:ev f y=.agg ds.toArray) [dP P t m] (hM:Own F W w l) (hu:oM l (.blk g u cs) (.blk g u ds) l') (hm:ds.length=m) (hn:cs.length=m) (h1:ds.all (·.oneCell')=true) (hk:∀ w',Own F W w' l'→K undef w'):WO P C o f w K :=
 dm hop hx hy (by simpa using hm) (hM.ok _ hu.old) (by simp [hm,hn]) (by simpa using h1) (hk _ (hM.setRow hu))
theorem fh {a:Addr} (hop:o.op=.store t x y) (hx:ev f x=.pointer (some a)) (hy:ev f y=v) [dP P t 1] (h1:v.oneCell'=true) (ha:a=⟨g,j,none⟩) (hM:Own F W w l) (hu:oM l (.blk g u cs) (.blk g u (cs.set j v)) l') (hj:j<cs.length) (hk:∀ w',Own F W w' l'→K undef w'):WO P C o f w K:=by
 subst ha
 have hb:=hM.ok _ hu.old
 refine va hop hx hy h1 ?_ ?_ (hk _ (hM.setCell hu))
 ·have:=hM.rowAt hu.old j cs[j] (by simp [hj])
  rw [Addr.add_lit,Nat.zero_add] at this
  rw [this];rfl
 ·simp only [bX.ok] at hb
  simp [World.frozen?,hb]
theorem Aj {k:IntKind} {j:Int} {jn:Nat} (hop:o.op=.indexAddr t x i) [bq P t e sz] (hx:ev f x=.slice A n c) (hi:ev f i=.int k j) (hr:Rd w A n sz cs) (hs:0<sz) (h0:0≤j) (h1:j<n) [hj:Tu j jn] (hk:K (ptr A jn sz 0) w):WO P C o f w K:=by
 obtain ⟨a,rfl⟩:=hr.some_ xj hs
 refine qj hop hx hi rfl h0 h1 ?_
 rw [eX,Nat.add_zero,← hj.h] at hk
 exact hk
theorem Ak {fi:Nat} {q:Nat} (hop:o.op=.fieldAddr t x fi) (hx:ev f x=ptr A m sz off) [hf:aV P t fi q] (hA:∃ a,A=some a) (hk:K (ptr A m sz (off+q)) w):WO P C o f w K:=by
 obtain ⟨a,rfl⟩:=hA
 refine iS hop (by rw [hx,eX]) ?_
 rw [jN,Nat.add_assoc]
 rw [eX] at hk
 exact hk
theorem Rd.at_ {T:Type} {enc:T→List Value} {L:List T} {z:T} (hr:Rd w A n sz (L.flatMap enc)) (hl:∀ x,(enc x).length=sz) (hi:L[m]?=some z) (ho:off<sz) (hv:(enc z)[off]?=some v):∃ a,A=some a∧w.cell? (a.add (m*sz+off))=some v :=
 hr.2 _ _ (by rw [qC hl L m off z hi ho];exact hv)
theorem Gp {T:Type} [Inhabited T] {enc:T→List Value} {L:List T} (hop:o.op=.load t x) (hx:ev f x=ptr A m sz off) [aG P t false] [E:cA enc sz] (hr:Rd w A n sz (L.flatMap enc)) (hm:m<L.length) (hv:(enc (nth L m))[off]?=some v) (hk:K v w):WO P C o f w K:=by
 have ho:off<sz:=by
  rw [← E.len (nth L m)]
  exact (List.getElem?_eq_some_iff.1 hv).1
 obtain ⟨a,rfl,hc⟩:=hr.at_ E.len (qB hm) ho hv
 exact bu hop (by rw [hx,eX]) hc hk
theorem oq {T:Type} [Inhabited T] {enc:T→List Value} {L:List T} {q:Nat} (hop:o.op=.load t x) (hx:ev f x=ptr A m sz off) [aG P t true] [dP P t q] [E:cA enc sz] (hr:Rd w A n sz (L.flatMap enc)) (hm:m<L.length) (hcs:((enc (nth L m)).drop off).take q=cs) (hq:cs.length=q) (hk:K (.agg cs.toArray) w):WO P C o f w K:=by
 subst hcs
 have key:∀ j v,((((enc (nth L m)).drop off).take q))[j]?=some v→(enc (nth L m))[off+j]?=some v:=fun j v hj=>by
  rw [List.getElem?_take] at hj
  split at hj
  ·rwa [List.getElem?_drop] at hj
  ·cases hj
 obtain ⟨a,rfl⟩:=hr.some_ (by
  have h1:=hr.1
  rw [ef E.len] at h1
  rcases Nat.eq_zero_or_pos n with h2|h2
  ·rw [h2,Nat.zero_mul] at h1
   have:=E.pos
   rcases Nat.mul_eq_zero.1 h1 with h3|h3 <;> omega
  ·exact h2) E.pos
 refine bP hop (by rw [hx,eX]) hq (fun j v hj=>?_) hk
 have h1:=key j v hj
 obtain ⟨a',ha',hc⟩:=hr.at_ E.len (qB hm) (by rw [← E.len (nth L m)];exact (List.getElem?_eq_some_iff.1 h1).1) h1
 cases ha'
 rw [jN,Nat.add_assoc]
 exact hc
theorem Am {T:Type} [Inhabited T] {enc:T→List Value} {L:List T} (hop:o.op=.load t x) (hx:ev f x=ptr A m sz 0) [aG P t true] [dP P t sz] [E:cA enc sz] (hr:Rd w A n sz (L.flatMap enc)) (hm:m<L.length) (hk:K (.agg (enc (nth L m)).toArray) w):WO P C o f w K :=
 oq hop hx hr hm (by rw [List.drop_zero,List.take_of_length_le (by rw [E.len];exact Nat.le_refl _)]) (E.len _) hk
theorem Own.mU (h:Own F W w l) {a:Addr} (hu:oM l (.row (some a) n c e sz cs) (.row (some a) n c e sz (cs.set j v)) l'):Own F W (w.setCell (a.add j) v) l'∧w.frozen? (a.add j)=false:=by
 have hb:w.ownsRow 0 e sz (.slice (some a) n c) n cs:=h.ok _ hu.old
 have hform:∃ g cur,a=⟨g,0,none⟩∧w.heap[g]?=some (.cells cur e (0,0)):=by
  rcases hb.2 with ⟨hv,_⟩|⟨g,cap,cur,hv,_,hg,_⟩
  ·cases hv
  ·refine ⟨g,cur,?_,hg⟩
   injection hv with h1;injection h1
 obtain ⟨g,cur,rfl,hg⟩:=hform
 rw [Addr.add_lit,Nat.zero_add]
 obtain ⟨h1,h2⟩:=hb.stored j v
 exact ⟨h.cw hu h2 h1 (.inl rfl),by simp [World.frozen?,hg]⟩
theorem rX {T:Type} [Inhabited T] {enc:T→List Value} {L:List T} {z:T} (hop:o.op=.store t x y) (hx:ev f x=ptr A m sz off) (hy:ev f y=v) [dP P t 1] (h1:v.oneCell'=true) [E:cA enc sz] (hM:Own F W w l)
  (hu:oM l (.row A n c e sz (L.flatMap enc)) (.row A n c e sz ((L.set m z).flatMap enc)) l') (hm:m<L.length) (ho:off<sz) (hz:enc z=(enc (nth L m)).set off v) (hk:∀ w',Own F W w' l'→K undef w'):WO P C o f w K:=by
 have hr:=hM.rd hu.old
 have hv:∃ v0,(enc (nth L m))[off]?=some v0:=⟨_,List.getElem?_eq_getElem (by rw [E.len];exact ho)⟩
 obtain ⟨v0,hv0⟩:=hv
 obtain ⟨a,rfl,hc⟩:=hr.at_ E.len (qB hm) ho hv0
 rw [← Dq E.len L m off (nth L m) z v (qB hm) ho hz] at hu
 obtain ⟨h2,h3⟩:=hM.mU hu
 exact va hop (by rw [hx,eX]) hy h1 (by rw [hc];rfl) h3 (hk _ h2)
theorem Yd {parts:Array (Nat×Operand)} {ps:Array (Nat×Value)} {z:Value} {cs:Array Value} (hop:o.op=.buildSlice t n parts) [bq P t e sz] [bY P e z]
  (hps:parts.map (fun x=>(x.1,ev f x.2))=ps) (hn:n*sz≤16777216)
  (hf:Instr.fill (fun i=>some (i*sz,sz)) (if n*sz=0 then (Array.range (n*sz)).map (fun i=>(#[]:Array Value)[i % 0]!) else (Array.range (n*sz)).map fun i=>z.cells[i % z.cells.size]!) ps.toList=some cs)
  (hs:cs.size=n*sz) (h0:0<sz) (hM:Own F W w l) (hk:∀ A c w',Own F W w' (.row A n c e sz cs.toList::l)→K (.slice A n c) w'):WO P C o f w K:=by
 refine aaJ hop hps hn hf (hk _ _ _ ?_)
 refine hM.add (World.grownBy_alloc w _ none) ?_ (fun k e=>by cases e;exact Nat.le_refl _)
 have:=Ad (w:=w) cs e sz n 0 (Nat.zero_le _) (by
  have:n≤n*sz:=Nat.le_mul_of_pos_right n h0
  unfold maxLen;omega) hs
 exact this
end
end R
end Go.Proofs.YtlmabdegojeheaaGreatDoor
