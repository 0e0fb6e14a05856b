/- WholeTurned: parts of its proof (Er Es). -/
import Derived.Test.YtlmabdegojeheaaGreatDoorEp
import Derived.Test.YtlmabdegojeheaaGreatDoorZfNt
import Derived.Test.YtlmabdegojeheaaGreatDoorGcS5
namespace Go.Proofs.YtlmabdegojeheaaGreatDoor
open R Go.RowKit
namespace E
structure Inv (call:dB) (base:Nat) (h0:H) (fr0:F) (T:List Rc) (fr':F) (h':H) (aL N:Nat) (ρ0:Rn) (w0:World) (D:Nat→Prop) (T1 T2:List Rc) (hb:H) (past:List (Nat×H)) (nxb:Nat) (ρ:Rn) (f:Fr) (w:World):Prop where
 split:T=T1++T2
 SV:∃ l2,Cb call base h0 l2 (sW 0 T1) (Vy fr0 T1) hb past nxb T2 fr' h' aL
 last:xS h0 past=hb
 Vz:∀ r∈T1,D r.i
 QO:∀ r∈T2,gz r.ins=.e→¬ D r.i
 closed:∀ r∈T,D r.i→∀ j,r.mask.testBit j=true→D j
 sZ:dH ρ0 h0 base w0 ρ hb nxb w
 high:base+N≤nxb
 free:tD ρ nxb
 off:∀ r∈T,¬ D r.i→ρ (base+r.i)=none
 xr:∀ r∈T2,D r.i→Kw r→Pd base ρ hb w w0.heap.size r
 apart:XF base ρ fun r=>r∈T2∧D r.i
 slot:sX ρ D fr0 T f
section
variable {P:Program} {n:Nat} {ops:List Oper} {call:dB} {base:Nat} {h0:H} {fr0:F} {T:List Rc} {fr':F} {h':H} {aL N:Nat} {ρ0:Rn} {w0:World} {D:Nat→Prop} {T1 T2:List Rc} {hb:H} {past:List (Nat×H)} {nxb:Nat} {ρ:Rn} {f:Fr} {w:World} {r:Rc} {d:Option Nat} {x:Value}
theorem Inv.fH (I:Inv call base h0 fr0 T fr' h' aL N ρ0 w0 D T1 T2 hb past nxb ρ f w) {y:Rc} (hy:y∈T2):y∈T:=by
 rw [I.split]
 exact List.mem_append_right _ hy
theorem Inv.val (I:Inv call base h0 fr0 T fr' h' aL N ρ0 w0 D T1 T2 hb past nxb ρ f w) (hT:F4 P n ops T) (hr:r∈T2) (hmk:∀ j,r.mask.testBit j=true→D j) (hcl:gz r.ins≠.e) (hA:¬ Kw r) (hd:r.dst=d.map path) (hx:Den ρ r.v x) :
  Inv call base h0 fr0 T fr' h' aL N ρ0 w0 (fun i=>D i∨i=r.i) T1 T2 hb past nxb ρ (cH f d x) w where
 split:=I.split
 SV:=I.SV
 last:=I.last
 Vz:=fun y hy=>.inl (I.Vz y hy)
 QO:=fun y hy he hD=>by
  rcases hD with hD|hD
  ·exact I.QO y hy he hD
  ·rw [hT.idx (I.fH hy) (I.fH hr) hD] at he
   exact hcl he
 closed:=fun y hy hD j hj=>by
  rcases hD with hD|hD
  ·exact .inl (I.closed y hy hD j hj)
  ·rw [hT.idx hy (I.fH hr) hD] at hj
   exact .inl (hmk j hj)
 sZ:=I.sZ
 high:=I.high
 free:=I.free
 off:=fun y hy hD=>I.off y hy fun k=>hD (.inl k)
 xr:=fun y hy hD hA'=>by
  rcases hD with hD|hD
  ·exact I.xr y hy hD hA'
  ·rw [hT.idx (I.fH hy) (I.fH hr) hD] at hA'
   exact absurd hA' hA
 apart:=fun y z hy hz ay az=>by
  rcases hy.2 with hD|hD
  ·rcases hz.2 with hD'|hD'
   ·exact I.apart y z ⟨hy.1,hD⟩ ⟨hz.1,hD'⟩ ay az
   ·rw [hT.idx (I.fH hz.1) (I.fH hr) hD'] at az
    exact absurd az hA
  ·rw [hT.idx (I.fH hy.1) (I.fH hr) hD] at ay
   exact absurd ay hA
 slot:=I.slot.put (I.fH hr) hd hx (fun y hy e=>hT.idx hy (I.fH hr) e) (fun y hy t h1 h2=>hT.one hy (I.fH hr) h1 h2)
theorem Inv.new (I:Inv call base h0 fr0 T fr' h' aL N ρ0 w0 D T1 T2 hb past nxb ρ f w) (hT:F4 P n ops T) (hN:N=ops.length) (hr:r∈T2) (hnD:¬ D r.i) (hmk:∀ j,r.mask.testBit j=true→D j) (hA:Kw r) (hd:r.dst=d.map path) {ob:Obj} {sz:Nat}
  (hx:Den (nU ρ (base+r.i) (w.heap.size,sz)) r.v x) (ho:iL (nU ρ (base+r.i) (w.heap.size,sz)) r.x ob sz) :
  Inv call base h0 fr0 T fr' h' aL N ρ0 w0 (fun i=>D i∨i=r.i) T1 T2 hb past nxb (nU ρ (base+r.i) (w.heap.size,sz)) (cH f d x) (w.alloc ob):=by
 have hfree:=I.off r (I.fH hr) hnD
 have hext:Ext ρ (nU ρ (base+r.i) (w.heap.size,sz)):=dp hfree
 have hlt:=hT.lt (I.fH hr)
 have hhigh:=I.high
 have hbel:∀ b,b<w.heap.size→(w.alloc ob).heap[b]?=w.heap[b]?:=fun b hb=>Below.heap_alloc w _ b hb
 have hne:∀ y:Rc,y.i≠r.i→nU ρ (base+r.i) (w.heap.size,sz) (base+y.i)=ρ (base+y.i):=fun y h=>rF _ _ xj
 exact {
  split:=I.split
  SV:=I.SV
  last:=I.last
  Vz:=fun y hy=>.inl (I.Vz y hy)
  QO:=fun y hy he hD=>by
   rcases hD with hD|hD
   ·exact I.QO y hy he hD
   ·rw [hT.idx (I.fH hy) (I.fH hr) hD,hA.1] at he
    cases he
  closed:=fun y hy hD j hj=>by
   rcases hD with hD|hD
   ·exact .inl (I.closed y hy hD j hj)
   ·rw [hT.idx hy (I.fH hr) hD] at hj
    exact .inl (hmk j hj)
  sZ:={
   ext:=I.sZ.ext.trans hext
   sat:=I.sZ.sat.more hext hbel
   le:=I.sZ.le
   same:=fun m hm=>(rF _ _ xj).trans (I.sZ.same m hm)
   os:=I.sZ.os
   tape:=I.sZ.tape
   output:=I.sZ.output
   size:=Nat.le_trans I.sZ.size (by simp)
   kC:=fun b hb hi=>(hbel b (Nat.lt_of_lt_of_le hb I.sZ.size)).trans (I.sZ.kC b hb hi)
   FF:=fun b hb hi=>I.sZ.FF b hb (qn I.sZ.sat hext hi) }
  high:=I.high
  free:=fun m hm=>(rF _ _ xj).trans (I.free m hm)
  off:=fun y hy hD=>(hne y fun e=>hD (.inr e)).trans (I.off y hy fun k=>hD (.inl k))
  xr:=fun y hy hD hA'=>by
   rcases hD with hD|hD
   ·obtain ⟨bl,s,ob',k1,k2,k3,k4,k5⟩:=I.xr y hy hD hA'
    exact ⟨bl,s,ob',hext _ _ k1,(hbel bl (Array.getElem?_eq_some_iff.1 k2).1).trans k2,k3.ext hext,fun hi=>k4 (qn I.sZ.sat hext hi),k5⟩
   ·rw [hT.idx (I.fH hy) (I.fH hr) hD]
    refine ⟨w.heap.size,sz,ob,cQ _ _ _,heap_alloc_new w _,ho,fun hi=>?_,I.sZ.size⟩
    obtain ⟨m,s,hm,h2⟩:=qn I.sZ.sat hext hi
    exact absurd (I.sZ.sat.lt hm h2) (Nat.lt_irrefl _)
  apart:=fun y z hy hz ay az bl s s' h1 h2=>by
   have old:∀ y:Rc,y∈T2→D y.i→Kw y→∀ s,nU ρ (base+r.i) (w.heap.size,sz) (base+y.i)=some (bl,s)→ρ (base+y.i)=some (bl,s)∧bl<w.heap.size:=fun y hy hD ay s h=>by
    rw [hne y fun e=>hnD (by rw [← e];exact hD)] at h
    obtain ⟨bl',s',ob',k1,k2,_⟩:=I.xr y hy hD ay
    rw [h] at k1
    cases k1
    exact ⟨h,(Array.getElem?_eq_some_iff.1 k2).1⟩
   have new:∀ y:Rc,y.i=r.i→∀ s,nU ρ (base+r.i) (w.heap.size,sz) (base+y.i)=some (bl,s)→bl=w.heap.size:=fun y e s h=>by
    rw [e,cQ] at h
    cases h
    rfl
   rcases hy.2 with hD|hD
   ·rcases hz.2 with hD'|hD'
    ·exact I.apart y z ⟨hy.1,hD⟩ ⟨hz.1,hD'⟩ ay az bl s s' (old y hy.1 hD ay s h1).1 (old z hz.1 hD' az s' h2).1
    ·have:=(old y hy.1 hD ay s h1).2
     have:=new z hD' s' h2
     omega
   ·rcases hz.2 with hD'|hD'
    ·have:=(old z hz.1 hD' az s' h2).2
     have:=new y hD s h1
     omega
    ·exact hD.trans hD'.symm
  slot:=(I.slot.ext hext).put (I.fH hr) hd hx (fun y hy e=>hT.idx hy (I.fH hr) e) (fun y hy t h1 h2=>hT.one hy (I.fH hr) h1 h2) }
theorem Inv.at_ (I:Inv call base h0 fr0 T fr' h' aL N ρ0 w0 D T1 T2 hb past nxb ρ f w) (hT:F4 P n ops T) {S B:List Rc} (hsp:T2=S++r::B) (hmk:∀ j,r.mask.testBit j=true→D j) (hcl:gz r.ins=.e) :
  (∀ s∈S,D s.i)∧Ku call base h0 r∧r.nx=nxb∧r.past=past∧Sat ρ r.cur w∧(∀ k,Im ρ r.cur k→Im ρ hb k∨∃ s∈S,Kw s∧w0.heap.size≤k∧∃ sz,ρ (base+s.i)=some (k,sz)) ∧
  ∃ l2,Cb call base h0 l2 (sW 0 (T1++S++[r])) (Vy fr0 (T1++S++[r])) r.k9 r.oS r.aL B fr' h' aL:=by
 obtain ⟨l0,ht⟩:=I.SV
 rw [hsp] at ht
 obtain ⟨k1,k2,_,_⟩:=jM ht
 have hS:∀ s∈S,D s.i:=fun s hs=>by
  refine hmk _ ?_
  rw [← (k1.e hcl).1,k2,lN]
  exact .inr ⟨s,hs,rfl⟩
 have hq:∀ s∈S,gz s.ins≠.e:=fun s hs he=>I.QO s (by rw [hsp];simp [hs]) he (hS s hs)
 obtain ⟨l1,h1⟩:=xV S ht hq
 obtain ⟨_,_,_,e3,e4,e5,l2,h2⟩:=tY h1
 have hnd:(S.map (·.i)).Nodup:=by
  have:=hT.nd
  rw [I.split,hsp,List.map_append,List.map_append] at this
  exact (List.nodup_append.1 (List.nodup_append.1 this).2.1).1
 obtain ⟨j1,j2⟩:=C6 (base:=base) (lo:=w0.heap.size) S I.sZ.sat (fun s hs hA=>I.xr s (by rw [hsp];simp [hs]) (hS s hs) hA) (fun y z hy hz=>I.apart y z ⟨by rw [hsp];simp [hy],hS y hy⟩ ⟨by rw [hsp];simp [hz],hS z hz⟩) hnd
 rw [← e3] at j1 j2
 refine ⟨hS,k1,e5,e4,j1,j2,l2,?_⟩
 simpa [sW,Vy,List.foldl_append] using h2
theorem Inv.eff (I:Inv call base h0 fr0 T fr' h' aL N ρ0 w0 D T1 T2 hb past nxb ρ f w) (hT:F4 P n ops T) (hN:N=ops.length) {S B:List Rc} (hsp:T2=S++r::B) (hmk:∀ j,r.mask.testBit j=true→D j) (hcl:gz r.ins=.e) (hd:r.dst=d.map path)
  {ρ':Rn} {w':World} (hx:Den ρ' r.v x) (st:dH ρ r.cur r.nx w ρ' r.k9 r.aL w') :
  Inv call base h0 fr0 T fr' h' aL N ρ0 w0 (fun i=>D i∨i=r.i) (T1++S++[r]) B r.k9 r.oS r.aL ρ' (cH f d x) w':=by
 obtain ⟨hS,hk,hnx,hpast,hsat,him,htr⟩:=I.at_ hT hsp hmk hcl
 rw [hnx] at st
 have hnd:=hT.nd
 rw [I.split,hsp,List.map_append,List.map_append,List.map_cons] at hnd
 have hnd2:=List.nodup_append.1 (List.nodup_append.1 hnd).2.1
 have hrB:∀ y∈B,y.i≠r.i:=fun y hy e=>(List.nodup_cons.1 hnd2.2.1).1 (by rw [← e];exact List.mem_map_of_mem hy)
 have hSB:∀ s∈S,∀ y∈B,s.i≠y.i:=fun s hs y hy=>hnd2.2.2 s.i (List.mem_map_of_mem hs) y.i (List.mem_cons_of_mem _ (List.mem_map_of_mem hy))
 have hr2:r∈T2:=by rw [hsp];simp
 have hB2:∀ y∈B,y∈T2:=fun y hy=>by rw [hsp];simp [hy]
 have hhigh:=I.high
 have hsame:∀ y∈T,ρ' (base+y.i)=ρ (base+y.i):=fun y hy=>st.same _ (.inl (by have:=hT.lt hy;omega))
 exact {
  split:=by rw [I.split,hsp];simp
  SV:=htr
  last:=by rw [(hk.e hcl).2.1];rfl
  Vz:=fun y hy=>by
   rcases List.mem_append.1 hy with hy|hy
   ·rcases List.mem_append.1 hy with hy|hy
    ·exact .inl (I.Vz y hy)
    ·exact .inl (hS y hy)
   ·rw [List.mem_singleton.1 hy]
    exact .inr rfl
  QO:=fun y hy he hD=>by
   rcases hD with hD|hD
   ·exact I.QO y (hB2 y hy) he hD
   ·exact hrB y hy hD
  closed:=fun y hy hD j hj=>by
   rcases hD with hD|hD
   ·exact .inl (I.closed y hy hD j hj)
   ·rw [hT.idx hy (I.fH hr2) hD] at hj
    exact .inl (hmk j hj)
  sZ:=(I.sZ.sat' hsat fun k hi=>(him k hi).imp id fun ⟨_,_,_,h,_⟩=>h).trans st
  high:=Nat.le_trans I.high st.le
  free:=st.free I.free
  off:=fun y hy hD=>(hsame y hy).trans (I.off y hy fun k=>hD (.inl k))
  xr:=fun y hy hD hA=>by
   have hD:=hD.resolve_right (hrB y hy)
   obtain ⟨bl,sz,ob,k1,k2,k3,k4,k5⟩:=I.xr y (hB2 y hy) hD hA
   have hlt:=(Array.getElem?_eq_some_iff.1 k2).1
   have hni:¬ Im ρ r.cur bl:=fun hi=>by
    rcases him bl hi with hi|⟨s,hs,hsA,_,sz',hs2⟩
    ·exact k4 hi
    ·exact hSB s hs y hy (I.apart s y ⟨by rw [hsp];simp [hs],hS s hs⟩ ⟨hB2 y hy,hD⟩ hsA hA _ _ _ hs2 k1)
   exact ⟨bl,sz,ob,st.ext _ _ k1,(st.kC bl hlt hni).trans k2,k3.ext st.ext,fun hi=>hni (st.FF bl hlt hi),k5⟩
  apart:=fun y z hy hz ay az bl s s' h1 h2=>by
   rw [hsame y (I.fH (hB2 y hy.1))] at h1
   rw [hsame z (I.fH (hB2 z hz.1))] at h2
   exact I.apart y z ⟨hB2 y hy.1,hy.2.resolve_right (hrB y hy.1)⟩ ⟨hB2 z hz.1,hz.2.resolve_right (hrB z hz.1)⟩ ay az bl s s' h1 h2
  slot:=(I.slot.ext st.ext).put (I.fH hr2) hd hx (fun y hy e=>hT.idx hy (I.fH hr2) e) (fun y hy t h1 h2=>hT.one hy (I.fH hr2) h1 h2) }
theorem Inv.done (I:Inv call base h0 fr0 T fr' h' aL N ρ0 w0 D T1 T2 hb past nxb ρ f w) (hT:F4 P n ops T) (hD:∀ y∈T,D y.i):FD ρ f fr'∧dH ρ0 h0 base w0 ρ h' aL w:=by
 obtain ⟨l0,ht⟩:=I.SV
 obtain ⟨l1,h1⟩:=xV (R:=[]) T2 (by simpa using ht) fun y hy he=>I.QO y hy he (hD y (I.fH hy))
 obtain ⟨e1,e2,e3⟩:=SP h1
 have hnd:(T2.map (·.i)).Nodup:=by
  have:=hT.nd
  rw [I.split,List.map_append] at this
  exact (List.nodup_append.1 this).2.1
 obtain ⟨j1,j2⟩:=C6 (base:=base) (lo:=w0.heap.size) T2 I.sZ.sat (fun s hs hA=>I.xr s hs (hD s (I.fH hs)) hA) (fun y z hy hz=>I.apart y z ⟨hy,hD y (I.fH hy)⟩ ⟨hz,hD z (I.fH hz)⟩) hnd
 rw [← e2] at j1 j2
 refine ⟨⟨fun t v hv=>?_,I.slot.uQ⟩,?_⟩
 ·have e:fr'=Vy fr0 T:=by
   rw [e1,I.split]
   simp [Vy,List.foldl_append]
  rw [e] at hv
  rcases zR t v T fr0 (fun y hy p hp=>by
   obtain ⟨o,_,_,h3,_⟩:=hT.op y hy
   rw [h3] at hp
   obtain ⟨d,_,rfl⟩:=Option.map_eq_some_iff.1 hp
   exact ⟨d,rfl⟩) hv with ⟨y,hy,h2,rfl⟩|⟨h2,h3⟩
  ·exact I.slot.wrote y hy (hD y hy) t h2
  ·exact I.slot.old t v (fun y hy _=>h2 y hy) h3
 ·rw [e3]
  exact I.sZ.sat' j1 fun k hi=>(j2 k hi).imp id fun ⟨_,_,_,h,_⟩=>h
end
theorem xX {p:Rc→Prop}:∀ (T:List Rc),(∃ r∈T,¬ p r)→∃ A r B,T=A++r::B∧(∀ y∈A,p y)∧¬ p r
 | [],h=>by
  obtain ⟨_,h,_⟩:=h
  cases h
 | a::T,h=>by
  by_cases ha:p a
  ·obtain ⟨A,r,B,rfl,h2,h3⟩:=xX T (by
    obtain ⟨r,hr,hp⟩:=h
    rcases List.mem_cons.1 hr with rfl|hr
    ·exact absurd ha hp
    ·exact ⟨r,hr,hp⟩)
   refine ⟨a::A,r,B,rfl,fun y hy=>?_,h3⟩
   rcases List.mem_cons.1 hy with rfl|hy
   ·exact ha
   ·exact h2 y hy
  ·exact ⟨[],a,T,rfl,by simp,ha⟩
theorem IB {p q:Rc→Bool}:∀ (T:List Rc),(∀ y,q y=true→p y=true)→(∃ r∈T,p r=true∧q r=false)→(T.filter q).length<(T.filter p).length
 | [],_,h=>by
  obtain ⟨_,h,_⟩:=h
  cases h
 | a::T,hpq,h=>by
  have hle:∀ T:List Rc,(T.filter q).length≤(T.filter p).length:=fun T=>by
   induction T with
   | nil=>exact Nat.le_refl _
   | cons b T ih =>
    rw [List.filter_cons,List.filter_cons]
    cases hq:q b with
    | true =>
     rw [hpq b hq]
     simpa using ih
    | false =>
     simp only [Bool.false_eq_true,if_false]
     split
     ·rw [List.length_cons]
      omega
     ·exact ih
  rw [List.filter_cons,List.filter_cons]
  obtain ⟨r,hr,h1,h2⟩:=h
  rcases List.mem_cons.1 hr with rfl|hr
  ·rw [h1,h2]
   have:=hle T
   simp
   omega
  ·have:=IB T hpq ⟨r,hr,h1,h2⟩
   cases hq:q a with
   | true =>
    rw [hpq a hq]
    simpa using this
   | false =>
    simp only [Bool.false_eq_true,if_false]
    split
    ·rw [List.length_cons]
     omega
    ·exact this
theorem F6 {listed:Array Bool} {i:Nat} (hi:i<listed.size):(fun j=>(listed.setIfInBounds i true).getD j false=true)=fun j=>listed.getD j false=true∨j=i:=by
 funext j
 refine propext ?_
 rw [Array.getD_eq_getD_getElem?,Array.getD_eq_getD_getElem?,Array.getElem?_setIfInBounds]
 by_cases h:i=j
 ·subst h
  simp [hi]
 ·rw [if_neg h]
  constructor
  ·exact fun k=>.inl k
  ·rintro (k|k)
   ·exact k
   ·exact absurd k.symm h
theorem fg {β:Type} (n:Nat) (K:Nat→β):fO n K=K n:=by
 cases n <;> rfl
theorem xY {t:Tr Nat} {acc:List Nat} (h:∀ k,at_ t k=acc[k]?):∀ l:List Edge,o4 t l=df acc l
 | []=>rfl
 | e::l=>by
  have e1:o4 t (e::l)=bif Region.binds .any e then 2 ^ e.on||| (kB (at_ t e.on)||| o4 t l) else o4 t l:=rfl
  have e2:kB (at_ t e.on)=acc.getD e.on 0:=by
   rw [h,List.getD_eq_getElem?_getD]
   cases acc[e.on]? <;> rfl
  rw [e1,e2,xY h l]
  rfl
theorem C8:∀ (l:List Oper) (acc:List Nat) (t:Tr Nat),(∀ k,at_ t k=acc[k]?)→∀ k,at_ (oR l acc.length t) k=(dT l acc)[k]?
 | [],_,_,h=>h
 | o::l,acc,t,h=>by
  have e1:oR (o::l) acc.length t=oR l (acc.length+1) (dL t acc.length (some (o4 t o.after.toList))):=by
   show fO (o4 t o.after.toList) (fun m=>dE (path acc.length) t (some m) fun t'=>oR l (Nat.succ acc.length) t')=_
   rw [fg,jt]
   rfl
  rw [e1,xY h]
  have:=C8 l (acc++[df acc o.after.toList]) (dL t acc.length (some (df acc o.after.toList))) (fun k=>by
   rw [cg,List.getElem?_append,h]
   by_cases c:k=acc.length
   ·subst c
    simp
   ·rw [if_neg c]
    by_cases d:k<acc.length
    ·rw [if_pos d]
    ·rw [if_neg d,List.getElem?_eq_none xj,List.getElem?_eq_none (by simp;omega)])
  rw [List.length_append] at this
  exact this
theorem F7 (ops:List Oper) (i:Nat):kB (at_ (oR ops 0 .e) i)=(fZ ops).getD i 0:=by
 have:=C8 ops [] .e (fun k=>by rw [FC];rfl) i
 rw [show at_ (oR ops 0 .e) i=(dT ops [])[i]? from this,List.getD_eq_getElem?_getD]
 unfold fZ
 cases (dT ops [])[i]? <;> rfl
theorem F8:∀ {l:List Oper} {i:Nat} {t t':Tr Nat},LW l i t=some t'→(∀ d x,at_ t d=some x→at_ t' d=some x)∧∀ k o d,l[k]?=some o→o.dst=some d→at_ t' d=some (i+k)
 | [],i,t,t',h=>by
  cases h
  exact ⟨fun _ _ h=>h,by simp⟩
 | o::l,i,t,t',h=>by
  cases hd:o.dst with
  | none =>
   have h1:LW l (i+1) t=some t':=by
    have e:LW (o::l) i t=Option.rec (motive:=fun _=>Option (Tr Nat)) (LW l (Nat.succ i) t) (fun d=>Option.rec (motive:=fun _=>Option (Tr Nat)) (dE (path d) t (some i) fun t'=>LW l (Nat.succ i) t') (fun _=>none) (jc (path d) t)) o.dst:=rfl
    rw [e,hd] at h
    exact h
   obtain ⟨k1,k2⟩:=F8 h1
   refine ⟨k1,fun k o' d hk hd'=>?_⟩
   cases k with
   | zero =>
    cases hk
    rw [hd] at hd'
    cases hd'
   | succ k =>
    have:=k2 k o' d hk hd'
    rw [this]
    exact congrArg some xj
  | some d =>
   have e:LW (o::l) i t=Option.rec (motive:=fun _=>Option (Tr Nat)) (LW l (Nat.succ i) t) (fun d=>Option.rec (motive:=fun _=>Option (Tr Nat)) (dE (path d) t (some i) fun t'=>LW l (Nat.succ i) t') (fun _=>none) (jc (path d) t)) o.dst:=rfl
   rw [e,hd] at h
   replace h:Option.rec (motive:=fun _=>Option (Tr Nat)) (dE (path d) t (some i) fun t'=>LW l (Nat.succ i) t') (fun _=>none) (at_ t d)=some t':=h
   cases hg:at_ t d with
   | some y =>
    rw [hg] at h
    cases h
   | none =>
    rw [hg] at h
    replace h:dE (path d) t (some i) (fun t'=>LW l (Nat.succ i) t')=some t':=h
    rw [jt] at h
    obtain ⟨k1,k2⟩:=F8 (t:=dL t d (some i)) h
    refine ⟨fun d' x hx=>k1 d' x ?_,fun k o' d' hk hd'=>?_⟩
    ·rw [cg]
     by_cases c:d'=d
     ·rw [c,hg] at hx
      cases hx
     ·rw [if_neg c]
      exact hx
    ·cases k with
     | zero =>
      cases hk
      rw [hd] at hd'
      cases hd'
      exact k1 d i (nh _ _ _)
     | succ k =>
      have:=k2 k o' d' hk hd'
      rw [this]
      exact congrArg some xj
theorem IC {mT wT:Tr Nat} {i:Nat}:∀ {l:List Nat},na mT wT i l=true→∀ t∈l,∀ j,at_ wT t=some j→i=j∨(kB (at_ mT i)).testBit j=true∨(kB (at_ mT j)).testBit i=true
 | [],_,t,ht=>by cases ht
 | u::l,h,t,ht=>by
  have e:na mT wT i (u::l)=Option.rec (motive:=fun _=>Bool) (na mT wT i l) (fun j=>Bool.rec (motive:=fun _=>Bool) (Bool.rec (motive:=fun _=>Bool) (Bool.rec (motive:=fun _=>Bool) false (na mT wT i l) (tb (kB (at_ mT j)) i)) (na mT wT i l) (tb (kB (at_ mT i)) j)) (na mT wT i l) (Nat.beq i j)) (at_ wT u):=rfl
  rw [e] at h
  simp only [M6] at h
  have key:na mT wT i l=true∧∀ j,at_ wT u=some j→i=j∨(kB (at_ mT i)).testBit j=true∨(kB (at_ mT j)).testBit i=true:=by
   cases hu:at_ wT u with
   | none =>
    rw [hu] at h
    exact ⟨h,fun j hj=>by cases hj⟩
   | some j =>
    rw [hu] at h
    replace h:Bool.rec (motive:=fun _=>Bool) (Bool.rec (motive:=fun _=>Bool) (Bool.rec (motive:=fun _=>Bool) false (na mT wT i l) ((kB (at_ mT j)).testBit i)) (na mT wT i l) ((kB (at_ mT i)).testBit j)) (na mT wT i l) (Nat.beq i j)=true:=h
    cases h1:Nat.beq i j with
    | true =>
     rw [h1] at h
     exact ⟨h,fun k hk=>by cases hk;exact .inl (Nat.eq_of_beq_eq_true h1)⟩
    | false =>
     rw [h1] at h
     replace h:Bool.rec (motive:=fun _=>Bool) (Bool.rec (motive:=fun _=>Bool) false (na mT wT i l) ((kB (at_ mT j)).testBit i)) (na mT wT i l) ((kB (at_ mT i)).testBit j)=true:=h
     cases h2:(kB (at_ mT i)).testBit j with
     | true =>
      rw [h2] at h
      exact ⟨h,fun k hk=>by cases hk;exact .inr (.inl h2)⟩
     | false =>
      rw [h2] at h
      replace h:Bool.rec (motive:=fun _=>Bool) false (na mT wT i l) ((kB (at_ mT j)).testBit i)=true:=h
      cases h3:(kB (at_ mT j)).testBit i with
      | true =>
       rw [h3] at h
       exact ⟨h,fun k hk=>by cases hk;exact .inr (.inr h3)⟩
      | false =>
       rw [h3] at h
       cases h
  rcases List.mem_cons.1 ht with rfl|ht
  ·exact key.2
  ·exact IC key.1 t ht
theorem ID {ops:List Oper} {mT wT:Tr Nat}:∀ {l:List Oper} {i:Nat},Mu ops mT wT l i=true→∀ k o,l[k]?=some o→na mT wT (i+k) (slotsOf o ops)=true
 | [],_,_,k,o,hk=>by simp at hk
 | u::l,i,h,k,o,hk=>by
  have e:Mu ops mT wT (u::l) i=Bool.rec (motive:=fun _=>Bool) false (Mu ops mT wT l (Nat.succ i)) (na mT wT i (slotsOf u ops)):=rfl
  rw [e] at h
  cases h1:na mT wT i (slotsOf u ops) with
  | false =>
   rw [h1] at h
   cases h
  | true =>
   rw [h1] at h
   cases k with
   | zero =>
    cases hk
    exact h1
   | succ k =>
    have:=ID (i:=i+1) h k o hk
    rw [show i+(k+1)=i+1+k by omega]
    exact this
theorem KA {ops:List Oper} (h:Fz ops (oR ops 0 .e)=true):kL ops=true:=by
 unfold Fz at h
 cases hw:LW ops 0 .e with
 | none =>
  rw [hw] at h
  cases h
 | some wT =>
  rw [hw] at h
  replace h:Mu ops (oR ops 0 .e) wT ops 0=true:=h
  obtain ⟨_,h2⟩:=F8 hw
  unfold kL
  rw [List.all_eq_true]
  intro i hi
  rw [List.all_eq_true]
  intro j hj
  rw [Bool.or_eq_true]
  by_cases c:i=j
  ·left
   rw [c,bE]
   simp
  ·right
   have hi1:=List.getElem?_eq_getElem (List.mem_range.1 hi)
   have hj1:=List.getElem?_eq_getElem (List.mem_range.1 hj)
   rw [hi1,hj1]
   simp only
   split
   ·rename_i d hd
    have hwj:=h2 j _ d hj1 hd
    rw [Nat.zero_add] at hwj
    rw [Bool.and_eq_true]
    refine ⟨?_,?_⟩
    ·split
     ·rename_i d' hd'
      rw [bE,Bool.not_eq_true',decide_eq_false_iff_not]
      intro e
      subst e
      have:=h2 i _ d hi1 hd'
      rw [Nat.zero_add,hwj] at this
      exact c (Option.some.inj this).symm
     ·rfl
    ·have hc:=ID h i _ hi1
     rw [Nat.zero_add] at hc
     rw [Bool.or_eq_true,Bool.or_eq_true]
     cases hm:(slotsOf (ops[i]'(List.mem_range.1 hi)) ops).contains d with
     | false=>exact .inl (.inl rfl)
     | true =>
      have:=IC hc d (by simpa using hm) j hwj
      rw [F7,F7] at this
      rcases this with k|k|k
      ·exact absurd k c
      ·exact .inl (.inr k)
      ·exact .inr k
   ·rfl
theorem Nb {P:Program} {n:Nat} {ops:List Oper} {l:List (Nat×Nat×CI)} (h:Mv P n ops=some l):kL ops=true∧∀ c∈l,∃ o,ops[c.1]?=some o∧c.2.1=(fZ ops).getD c.1 0∧R5 P n ops o=some c.2.2:=by
 unfold Mv at h
 obtain ⟨h1,h2⟩:=nX h
 have hm:∀ e,kB (jc (path e) (oR ops 0 .e))=(fZ ops).getD e 0:=fun e=>F7 ops e
 simp only [hm] at h2
 exact ⟨KA h1,xU h2⟩
section
variable {P:Program} {n:Nat} {ops:List Oper} {call:dB} {base:Nat} {h0:H} {fr0:F} {T:List Rc} {fr':F} {h':H} {aL N:Nat} {ρ0:Rn} {w0:World} {l:List (Nat×Nat×CI)}
theorem XI (hC:jS P call) (hT:F4 P n ops T) (hN:N=ops.length) (hl0:Cb call base h0 l 0 fr0 h0 [] (base+N) T fr' h' aL):∀ (fuel:Nat) {listed:Array Bool} {a:Act} {w:World} {T1 T2:List Rc} {hb:H} {past:List (Nat×H)} {nxb:Nat} {ρ:Rn} {f:Fr},
  listed.size=N→(T.filter fun r=>!listed.getD r.i false).length≤fuel→Is n a f→Inv call base h0 fr0 T fr' h' aL N ρ0 w0 (fun i=>listed.getD i false=true) T1 T2 hb past nxb ρ f w→wpAny P .any ops.toArray (EP n ρ0 h0 base w0 .n fr' h' aL) fuel listed a w:=by
 have fin:∀ {listed:Array Bool} {a:Act} {w:World} {T1 T2:List Rc} {hb:H} {past:List (Nat×H)} {nxb:Nat} {ρ:Rn} {f:Fr},Is n a f→Inv call base h0 fr0 T fr' h' aL N ρ0 w0 (fun i=>listed.getD i false=true) T1 T2 hb past nxb ρ f w→(∀ y∈T,listed.getD y.i false=true)→EP n ρ0 h0 base w0 .n fr' h' aL .normal a w:=fun ha I hD=>by
  obtain ⟨k1,k2⟩:=I.done hT hD
  exact ⟨rfl,_,_,ha,k1,k2⟩
 have nore:∀ {listed:Array Bool},listed.size=N→Region.ready .any ops.toArray listed=[]→∀ y∈T,listed.getD y.i false=true:=fun {listed} hsz hr=>by
  refine Classical.byContradiction fun hno=>?_
  obtain ⟨A,r,B,hsp,hA,hrD⟩:=xX (p:=fun y=>listed.getD y.i false=true) T (by simpa using hno)
  rw [hsp] at hl0
  obtain ⟨k1,k2,_,_⟩:=jM hl0
  have hrT:r∈T:=by rw [hsp];simp
  obtain ⟨o,ho,hm,_⟩:=hT.op r hrT
  have hlt:=hT.lt hrT
  have:r.i∈Region.ready .any ops.toArray listed:=rP.2 ⟨o,ho,by
   rw [Array.getD_eq_getD_getElem?] at hrD ⊢
   rw [Array.getElem?_eq_getElem (by omega)] at hrD ⊢
   simpa using hrD,fun e he hbd=>by
   have h1:=SM ho he hbd
   rw [← hm,← k1.sub,Nat.testBit_and,Bool.and_eq_true,k2,lN] at h1
   rcases h1.2 with h2|⟨y,hy,h2⟩
   ·simp at h2
   ·rw [← h2]
    exact hA y hy⟩
  rw [hr] at this
  cases this
 intro fuel
 induction fuel with
 | zero =>
  intro listed a w T1 T2 hb past nxb ρ f hsz hfu ha I
  have hall:∀ y∈T,listed.getD y.i false=true:=fun y hy=>by
   have h1:T.filter (fun r=>!listed.getD r.i false)=[]:=List.eq_nil_of_length_eq_zero xj
   rw [List.filter_eq_nil_iff] at h1
   simpa using h1 y hy
  refine ⟨?_,fin ha I hall⟩
  rw [List.eq_nil_iff_forall_not_mem]
  intro i hi
  obtain ⟨o,h1,h2,_⟩:=rP.1 hi
  have hlt:=(List.getElem?_eq_some_iff.1 h1).1
  obtain ⟨y,hy,rfl⟩:=hT.all i hlt
  have:=hall y hy
  rw [Array.getD_eq_getD_getElem?] at this h2
  rw [Array.getElem?_eq_getElem (by omega)] at this h2
  simp at this h2
  rw [this] at h2
  cases h2
 | succ fuel ih =>
  intro listed a w T1 T2 hb past nxb ρ f hsz hfu ha I
  refine ⟨fun hr=>fin ha I (nore hsz hr),fun i hi=>?_⟩
  obtain ⟨o,ho,hli,hed⟩:=rP.1 hi
  have hlt:=(List.getElem?_eq_some_iff.1 ho).1
  obtain ⟨r,hrT,rfl⟩:=hT.all i hlt
  have hnD:¬ listed.getD r.i false=true:=by
   rw [Array.getD_eq_getD_getElem?] at hli ⊢
   rw [Array.getElem?_eq_getElem (by omega)] at hli ⊢
   simpa using hli
  have hr2:r∈T2:=by
   have:=hrT
   rw [I.split] at this
   rcases List.mem_append.1 this with h|h
   ·exact absurd (I.Vz r h) hnD
   ·exact h
  obtain ⟨o',ho',hm,hd,hcI,hcG,hdo⟩:=hT.op r hrT
  rw [ho] at ho'
  cases ho'
  have hmk:∀ j,r.mask.testBit j=true→listed.getD j false=true:=fun j hj=>by
   rw [hm] at hj
   obtain ⟨e,he,hbd,h1⟩:=SL ho hj
   have h2:=hed e he hbd
   rcases h1 with rfl|h1
   ·exact h2
   ·have hlt2:e.on<ops.length:=by
     refine Classical.byContradiction fun hn=>?_
     rw [Array.getD_eq_getD_getElem?,Array.getElem?_eq_none (by omega)] at h2
     cases h2
    obtain ⟨y,hy,hyi⟩:=hT.all e.on hlt2
    obtain ⟨oy,_,hmy,_⟩:=hT.op y hy
    refine I.closed y hy (by rw [hyi];exact h2) j ?_
    rw [hmy,hyi]
    exact h1
  obtain ⟨S,B,hsp⟩:=List.append_of_mem hr2
  have hTs:T=(T1++S)++r::B:=by rw [I.split,hsp];simp
  have hk:Ku call base h0 r:=by
   rw [hTs] at hl0
   exact (jM hl0).1
  have hslot:∀ t,t∈slotsOf o ops→∀ u,at_ r.fr t=some u→Den ρ u (f t):=fun t ht u hu=>by
   have hl1:=hl0
   rw [hTs] at hl1
   refine SN hl1 (fun y hy=>?_) ho hT.slots (D:=fun i=>listed.getD i false=true) (by rw [← hTs];exact I.slot) hnD (fun y hy hD j hj=>I.closed y (by rw [hTs];exact hy) hD j hj) hmk ht hu
   obtain ⟨oy,k1,k2,k3,_⟩:=hT.op y (by rw [hTs];exact hy)
   exact ⟨oy,k1,k2,k3⟩
  have hon:xb ρ f r.fr o.op.operands.toList:=SQ (fun t ht u hu=>hslot t (by
   unfold slotsOf
   refine List.mem_append_left _ (List.mem_filterMap.2 ⟨_,ht,rfl⟩)) u hu) I.slot.uQ
  have hwant:Region.wanted o (yielded ops.toArray a.tmps)=r.b:=Ij ha hcG hk.want fun t v ⟨j,c,oj,g1,g2,g3⟩ hv=>hslot t (by
   unfold slotsOf
   refine List.mem_append_right _ ?_
   rw [g1]
   simp only [g2,g3]
   simp) v hv
  have hsz':(listed.setIfInBounds r.i true).size=N:=by simpa using hsz
  have hset:=F6 (listed:=listed) (i:=r.i) xj
  have hfu':(T.filter fun y=>!(listed.setIfInBounds r.i true).getD y.i false).length≤fuel:=by
   have h1:∀ j,(listed.setIfInBounds r.i true).getD j false=true↔(listed.getD j false=true∨j=r.i):=fun j=>by
    have:=congrFun hset j
    exact iff_of_eq this
   have:=IB (p:=fun y=>!listed.getD y.i false) (q:=fun y=>!(listed.setIfInBounds r.i true).getD y.i false) T (fun y hy=>by
    have h2:=h1 y.i
    cases hq:listed.getD y.i false with
    | false=>rfl
    | true =>
     have h3:=h2.2 (.inl hq)
     rw [h3] at hy
     cases hy) ⟨r,hrT,by simpa using hnD,by
     have:=(h1 r.i).2 (.inr rfl)
     rw [this]
     rfl⟩
   omega
  have go:∀ {a':Act} {w':World} {T1' T2':List Rc} {hb':H} {oS:List (Nat×H)} {nxb':Nat} {ρ':Rn} {f':Fr},Is n a' f'→Inv call base h0 fr0 T fr' h' aL N ρ0 w0 (fun j=>listed.getD j false=true∨j=r.i) T1' T2' hb' oS nxb' ρ' f' w'→wpAny P .any ops.toArray (EP n ρ0 h0 base w0 .n fr' h' aL) fuel (listed.setIfInBounds r.i true) a' w':=fun ha' I'=>ih hsz' hfu' ha' (by rw [hset];exact I')
  have hoa:ops.toArray[r.i]?=some o:=by simpa using ho
  unfold wpOp
  rw [hoa]
  simp only [hwant]
  cases hb0:r.b with
  | false =>
   simp only [Bool.false_eq_true,if_false]
   have hv:=hk.off hb0
   have hx:Den ρ r.v Go.undef:=by rw [hv];exact jI
   cases hcl:gz r.ins with
   | q=>exact go (ha.put o.dst Go.undef hdo) <| I.val hT hr2 hmk (by rw [hcl];exact fun h=>by cases h) (fun h=>by rw [h.2] at hb0;cases hb0) hd hx
   | a=>exact go (ha.put o.dst Go.undef hdo) <| I.val hT hr2 hmk (by rw [hcl];exact fun h=>by cases h) (fun h=>by rw [h.2] at hb0;cases hb0) hd hx
   | e =>
    obtain ⟨k1,k2⟩:=(hk.e hcl).2.2.1 hb0
    have hst:=(I.at_ hT hsp hmk hcl).2.2.2.2.1
    exact go (ha.put o.dst Go.undef hdo) (I.eff hT hN hsp hmk hcl hd hx (by rw [k1,k2];exact dH.refl hst _))
  | true =>
   simp only [if_true]
   left
   have hI:=Vv hcI
   cases hcl:gz r.ins with
   | q =>
    obtain ⟨_,_,_,k4⟩:=hk.q hcl
    obtain ⟨k5,k6⟩:=k4 hb0
    obtain ⟨E,hE,hE2⟩:∃ E,r.past=E++past∧∀ e∈E,∃ x∈S,x.i=e.1∧gz x.ins=.e:=by
     obtain ⟨l1,h1⟩:=I.SV
     rw [hsp] at h1
     exact M9 S h1
    have hlook:look r.ins r.fr hb=some r.v:=by
     rcases k6 with k6|k6
     ·rw [M7 k6 hb (xS h0 r.past)]
      exact k5
     ·rw [hE] at k6
      have:=xT k6 fun e he=>by
       obtain ⟨y,hy,hyi,hye⟩:=hE2 e he
       have hn:=I.QO y (by rw [hsp];simp [hy]) hye
       rw [hyi] at hn
       cases hbit:r.mask.testBit e.1 with
       | false=>rfl
       | true=>exact absurd (hmk _ hbit) hn
      rw [I.last] at this
      exact this
    obtain ⟨y,g1,g2⟩:=look_ok hI hcl hon I.sZ.sat hlook
    refine gF (K:=fun v w'=>w'=w∧Den ρ r.v v) ha (by unfold WO;rw [g1];exact ⟨rfl,g2⟩) fun v w' hkk=>?_
    obtain ⟨rfl,hv⟩:=hkk
    exact go (ha.put o.dst v hdo) (I.val hT hr2 hmk (by rw [hcl];exact fun h=>by cases h) (fun h=>by rw [h.1] at hcl;cases hcl) hd hv)
   | a =>
    obtain ⟨_,_,_,k4⟩:=hk.a hcl
    obtain ⟨k5,k6⟩:=k4 hb0
    obtain ⟨y,ob',sz,g1,g2⟩:=MR (w:=w) hI hcl hon k5
    have hfree:=I.off r hrT hnD
    obtain ⟨g3,g4⟩:=g2 (nU ρ (base+r.i) (w.heap.size,sz)) (dp hfree) (cQ _ _ _)
    refine gF (K:=fun v w'=>w'=w.alloc ob'∧Den (nU ρ (base+r.i) (w.heap.size,sz)) r.v v) ha (by unfold WO;rw [g1];exact ⟨rfl,g3⟩) fun v w' hkk=>?_
    obtain ⟨rfl,hv⟩:=hkk
    exact go (ha.put o.dst v hdo) (I.new hT hN hr2 hnD hmk ⟨hcl,hb0⟩ hd hv g4)
   | e =>
    have k5:=(hk.e hcl).2.2.2 hb0
    obtain ⟨_,_,hnx,_,hst,_,_⟩:=I.at_ hT hsp hmk hcl
    refine gF ha (SR hC hI hcl hon I.slot.uQ hst (by rw [hnx];exact I.free) k5) fun v w' hkk=>?_
    obtain ⟨ρ',hv,st⟩:=hkk
    exact go (ha.put o.dst v hdo) (I.eff hT hN hsp hmk hcl hd hv st)
theorem SS (hm:P.follows .mixedOrders=true) (hC:jS P call):yY P n call:=by
 intro ops id ρ f fr fr' h h' nx aL w a hr hD hs hf ha
 unfold R8 at hr
 split at hr
 ·rename_i l hp
  have hp:=Nb hp
  obtain ⟨hlen,hr⟩:=nX hr
  have hlen:=Nat.eq_of_beq_eq_true hlen
  obtain ⟨T,hT0⟩:=jZ hr
  have hT:=XG hp hlen hT0
  refine wp_region_any hm ?_
  have:=XI (ρ0:=ρ) (w0:=w) (fr0:=fr) (h0:=h) hC hT (N:=ops.toList.length) rfl hT0 ops.size (listed:=Array.replicate ops.size false) (a:=a) (w:=w.drew) (T1:=[]) (T2:=T) (hb:=h) (past:=[]) (nxb:=nx+ops.toList.length) (ρ:=ρ) (f:=f) (by simp) (by
   refine Nat.le_trans (List.length_filter_le _ _) ?_
   have h1:=congrArg List.length (zU hT0).1
   rw [List.length_map,hlen] at h1
   rw [h1]
   simp) ha {
    split:=rfl
    SV:=⟨l,hT0⟩
    last:=rfl
    Vz:=fun y hy=>by cases hy
    QO:=fun y hy he hD=>by
     rw [Array.getD_eq_getD_getElem?,Array.getElem?_replicate] at hD
     split at hD <;> cases hD
    closed:=fun y hy hD=>by
     rw [Array.getD_eq_getD_getElem?,Array.getElem?_replicate] at hD
     split at hD <;> cases hD
    sZ:={ ext:=Ext.refl ρ,sat:=hs.drew,le:=by omega,same:=fun _ _=>rfl,os:=rfl,tape:=rfl,output:=rfl,size:=Nat.le_refl _,kC:=fun _ _ _=>rfl,FF:=fun _ _ k=>k }
    high:=Nat.le_refl _
    free:=fun m hm=>hf m xj
    off:=fun y _ _=>hf _ xj
    xr:=fun y hy hD=>by
     rw [Array.getD_eq_getD_getElem?,Array.getElem?_replicate] at hD
     split at hD <;> cases hD
    apart:=fun y z hy=>by
     have hD:=hy.2
     rw [Array.getD_eq_getD_getElem?,Array.getElem?_replicate] at hD
     split at hD <;> cases hD
    slot:=⟨fun y hy hD'=>(by
     rw [Array.getD_eq_getD_getElem?,Array.getElem?_replicate] at hD'
     split at hD' <;> cases hD'),fun t v _ hv=>hD.slot t v hv,hD.uQ⟩ }
  simpa using this
 ·cases hr
end
end E
namespace E
theorem dH.below {ρ:Rn} {h:H} {nx:Nat} {w w':World} (hs:Sat ρ h w) (hb:Below w.heap.size w w'):dH ρ h nx w ρ h nx w' where
 ext:=Ext.refl ρ
 sat:=hs.more (Ext.refl ρ) hb.block
 le:=Nat.le_refl _
 same:=fun _ _=>rfl
 os:=hb.os
 tape:=hb.tape
 output:=hb.output
 size:=hb.size
 kC:=fun b hb' _=>hb.block b hb'
 FF:=fun _ _ k=>k
noncomputable def dD (f:List V→Option V):List V→H→Nat→HR:=fun vs h nx=>Option.rec (motive:=fun _=>HR) none (fun v=>some (v,h,nx)) (f vs)
def bR (P:Program) (g:Nat) (f:List V→Option V):Prop:=∀ {vs v},f vs=some v→∀ {ρ xs},aT ρ vs xs→∃ x,Den ρ v x∧∀ w,Calls P g xs.toArray w fun e w'=>e=.returned x∧Below w.heap.size w w'
theorem aX {P:Program} {g:Nat} [hb:ab P g] {f:List V→Option V} (hf:bR P g f):fB P g (dD f):=by
 intro vs h nx v h' aL ρ w xs hr hd hs _ _
 unfold dD at hr
 obtain ⟨u,h1,h2⟩:=iM hr
 cases h2
 obtain ⟨x,h3,h4⟩:=hf h1 hd
 rw [aM hb]
 show Calls P g xs.toArray w fun e w''=>∃ x,e=.returned x∧∃ ρ',Den ρ' v x∧dH ρ h nx w ρ' h nx w''
 refine (h4 w).mono ?_
 rintro e w' ⟨rfl,hb⟩
 exact ⟨x,rfl,ρ,h3,dH.below hs hb⟩
theorem jg {P:Program} {g:Nat} {args:Array Value} {x y:Value} (h:∀ w,Calls P g args w fun e w'=>e=.returned x∧Below w.heap.size w w') (e:x=y):∀ w,Calls P g args w fun e w'=>e=.returned y∧Below w.heap.size w w':=by
 subst e
 exact h
theorem XJ {P:Program} {g:Nat} {args:Array Value} {x y:Value} (h:∀ w,Calls P g args w fun e w'=>e=.returned x∧w=w') (e:x=y):∀ w,Calls P g args w fun e w'=>e=.returned y∧Below w.heap.size w w':=fun w=>by
 subst e
 refine (h w).mono ?_
 rintro e w' ⟨rfl,rfl⟩
 exact ⟨rfl,Below.refl _ _⟩
noncomputable def word (v:V) (K:Nat→Option Nat):Option Nat:=match v with
 | .i k n=>bif kb k .u64 then (match n with|.ofNat m=>bif Nat.blt m 18446744073709551616 then K m else none|_=>none) else none
 | _=>none
noncomputable def dW:Nat→List V→Option Nat
 | 0,[]=>some 0
 | k+1,v::l=>word v fun a=>match dW k l with|some r=>some (a+18446744073709551616*r)|none=>none
 | _,_=>none
noncomputable def xt (n:Nat):List V:=[.i .u64 (.ofNat (n % 18446744073709551616)),.i .u64 (.ofNat (n / 18446744073709551616 % 18446744073709551616)),.i .u64 (.ofNat (n / 340282366920938463463374607431768211456 % 18446744073709551616)),.i .u64 (.ofNat (n / 6277101735386680763835789423207666416102355444464034512896 % 18446744073709551616)),.i .u64 (.ofNat (n / 115792089237316195423570985008687907853269984665640564039457584007913129639936 % 18446744073709551616)),.i .u64 (.ofNat (n / 2135987035920910082395021706169552114602704522356652769947041607822219725780640550022962086936576 % 18446744073709551616)),.i .u64 (.ofNat (n / 39402006196394479212279040100143613805079739270465446667948293404245721771497210611414266254884915640806627990306816 % 18446744073709551616)),.i .u64 (.ofNat (n / 726838724295606890549323807888004534353641360687318060281490199180639288113397923326191050713763565560762521606266177933534601628614656 % 18446744073709551616))]
theorem Nc {ρ:Rn} {v:V} {x:Value} {K:Nat→Option Nat} {r:Nat} (h:word v K=some r) (hd:Den ρ v x):∃ m:Nat,m<18446744073709551616∧x=.int .u64 (m:Int)∧K m=some r:=by
 unfold word at h
 split at h
 ·rename_i k n
  obtain ⟨h1,h2⟩:=nX h
  split at h2
  ·rename_i m
   obtain ⟨h3,h4⟩:=nX h2
   rw [blt_eq] at h3
   have:=dC h1
   subst this
   cases hd
   exact ⟨m,of_decide_eq_true h3,rfl,h4⟩
  ·cases h2
 ·cases h
theorem IE {ρ:Rn}:∀ {k:Nat} {l:List V} {n:Nat} {xs:List Value},dW k l=some n→aT ρ l xs→n<fI k∧xs=(List.range k).map fun j=>.int .u64 (wd n j:Nat)
 | 0,[],n,xs,h,hd=>by
  cases h
  cases hd
  exact ⟨by decide,rfl⟩
 | 0,v::l,n,xs,h,hd=>by cases h
 | k+1,[],n,xs,h,hd=>by cases h
 | k+1,v::l,n,xs,h,hd=>by
  cases hd with
  | cons a b =>
   obtain ⟨m,h1,rfl,h2⟩:=Nc (show word v _=some n from h) a
   split at h2
   ·rename_i r hr
    cases h2
    obtain ⟨h3,rfl⟩:=IE hr b
    refine ⟨?_,?_⟩
    ·have e:fI (k+1)=18446744073709551616*fI k:=by
      unfold fI
      rw [show 64*(k+1)=64+64*k by omega,Nat.pow_add]
     have:18446744073709551616*(r+1)≤18446744073709551616*fI k:=Nat.mul_le_mul_left _ h3
     omega
    ·rw [List.range_succ_eq_map,List.map_cons,List.map_map,NX _ _ h1]
     refine congrArg _ (List.map_congr_left fun j _=>?_)
     show _=Value.int .u64 ((wd (m+18446744073709551616*r) (j+1):Nat):Int)
     rw [Tt _ _ _ h1]
   ·cases h2
theorem j4 {ρ:Rn} {l:List V} {n:Nat} {xs:List Value} (h:dW 8 l=some n) (hd:aT ρ l xs):xs=cW (W n)∧(W n).n=n:=by
 obtain ⟨h1,rfl⟩:=IE h hd
 have h2:n<aq:=by
  unfold aq
  exact h1
 exact ⟨by rw [Bw h2];rfl,oP h2⟩
theorem kO (ρ:Rn) (a b:Nat) (h:a=b):Den ρ (.i .u64 (.ofNat a)) (.int .u64 (b:Int)):=by
 subst h
 exact .i _ _
theorem Nd (ρ:Rn) (n:Nat):aT ρ (xt n) (ee n):=by
 unfold xt ee wd
 refine .cons (kO ρ _ _ ?_) (.cons (kO ρ _ _ ?_) (.cons (kO ρ _ _ ?_) (.cons (kO ρ _ _ ?_) (.cons (kO ρ _ _ ?_) (.cons (kO ρ _ _ ?_) (.cons (kO ρ _ _ ?_) (.cons (kO ρ _ _ ?_) .nil)))))))
 ·rw [show 64*0=0 from rfl,Nat.pow_zero,Nat.div_one]
 all_goals kernel_rfl
theorem mB (ρ:Rn) {n:Nat} {a:Wd} (h:a.n=n):aT ρ (xt n) (cW a):=by
 subst h
 exact Nd ρ a.n
noncomputable def zS (neg:Bool) (n:Nat):Int:=bif neg then Int.neg (.ofNat n) else .ofNat n
theorem jq (a:Sg):zS a.neg a.br.n=a.z:=by
 unfold zS Sg.z
 cases a.neg <;> rfl
noncomputable def aW (v:V) (K:Nat→Option V):Option V:=match v with|.ag l=>(match dW 8 l with|some n=>K n|none=>none)|_=>none
noncomputable def aS (v:V) (K:Bool→Nat→Option V):Option V:=match v with|.ag (.b neg::l)=>(match dW 8 l with|some n=>K neg n|none=>none)|_=>none
noncomputable def aZ (v:V) (K:Int→Option V):Option V:=aS v fun neg n=>K (zS neg n)
noncomputable def QP (v:V) (K:Bool→Nat→Bool→Nat→Nat→Option V):Option V:=match v with
 | .ag (.b p::l)=>(match dW 8 (l.take 8),l.drop 8 with
  | some x,.b q::r=>(match dW 8 (r.take 8),dW 8 (r.drop 8) with|some y,some w=>K p x q y w|_,_=>none)
  | _,_=>none)
 | _=>none
theorem aT.cut {ρ:Rn}:∀ {l:List V} {xs:List Value} (k:Nat),aT ρ l xs→aT ρ (l.take k) (xs.take k)∧aT ρ (l.drop k) (xs.drop k)
 | [],_,k,h=>by
  cases h
  simp only [List.take_nil,List.drop_nil]
  exact ⟨.nil,.nil⟩
 | v::l,_,0,h=>⟨.nil,h⟩
 | v::l,_,k+1,h=>by
  cases h with
  | cons a b =>
   obtain ⟨h1,h2⟩:=aT.cut k b
   exact ⟨.cons a h1,h2⟩
section
variable {ρ:Rn} {v r:V} {x:Value}
theorem jy {K:Nat→Option V} (h:aW v K=some r) (hd:Den ρ v x):∃ a:Wd,x=.agg (cW a).toArray∧K a.n=some r:=by
 unfold aW at h
 split at h
 ·rename_i l
  split at h
  ·rename_i n hn
   cases hd with
   | ag hl =>
    obtain ⟨rfl,h2⟩:=j4 hn hl
    exact ⟨W n,rfl,by rw [h2];exact h⟩
  ·cases h
 ·cases h
theorem zW {K:Bool→Nat→Option V} (h:aS v K=some r) (hd:Den ρ v x):∃ a:Sg,x=.agg (cS a).toArray∧K a.neg a.br.n=some r:=by
 unfold aS at h
 split at h
 ·rename_i neg l
  split at h
  ·rename_i n hn
   cases hd with
   | ag hl =>
    cases hl with
    | cons a b =>
     cases a
     obtain ⟨rfl,h2⟩:=j4 hn b
     exact ⟨⟨neg,W n⟩,rfl,by rw [h2];exact h⟩
  ·cases h
 ·cases h
theorem jA {K:Int→Option V} (h:aZ v K=some r) (hd:Den ρ v x):∃ a:Sg,x=.agg (cS a).toArray∧K a.z=some r:=by
 obtain ⟨a,h1,h2⟩:=zW h hd
 exact ⟨a,h1,by rw [← jq];exact h2⟩
theorem iT {K:Bool→Nat→Bool→Nat→Nat→Option V} (h:QP v K=some r) (hd:Den ρ v x):∃ a:Sp,x=.agg (bF a).toArray∧K a.x.neg a.x.br.n a.y.neg a.y.br.n a.w.n=some r:=by
 unfold QP at h
 split at h
 ·rename_i p l
  split at h
  ·rename_i n q l2 hn hq
   split at h
   ·rename_i y w hy hw
    cases hd with
    | ag hl =>
     cases hl with
     | @cons _ u _ us a b =>
      cases a
      obtain ⟨b1,b2⟩:=aT.cut 8 b
      rw [hq] at b2
      obtain ⟨e1,h1⟩:=j4 hn b1
      generalize hd2:us.drop 8=us2 at b2
      cases b2 with
      | @cons _ _ _ us3 c d =>
       cases c
       obtain ⟨d1,d2⟩:=aT.cut 8 d
       obtain ⟨e2,h2⟩:=j4 hy d1
       obtain ⟨e3,h3⟩:=j4 hw d2
       refine ⟨⟨⟨p,W n⟩,⟨q,W y⟩,W w⟩,?_,by rw [h1,h2,h3];exact h⟩
       have e4:us=cW (W n)++(.bool q::(cW (W y)++cW (W w))):=by
        rw [← e1,← e2,← e3,List.take_append_drop,← hd2,List.take_append_drop]
       rw [e4]
       rfl
   ·cases h
  ·cases h
 ·cases h
noncomputable def mW (z:Int):List V:=match z with|.ofNat n=>.b false::xt n|.negSucc n=>.b true::xt (Nat.succ n)
theorem eV (ρ:Rn) {z:Int} (h:z.natAbs<aq):aT ρ (mW z) (cS (a8 z)):=by
 cases z with
 | ofNat n =>
  have e:cS (a8 (Int.ofNat n))=.bool false::cW (W n):=by
   unfold cS a8
   rw [show decide (Int.ofNat n<0)=false from decide_eq_false (by simp)]
   rfl
  rw [e]
  exact .cons (.b _) (mB ρ (oP h))
 | negSucc n =>
  have e:cS (a8 (Int.negSucc n))=.bool true::cW (W (n+1)):=by
   unfold cS a8
   rw [show decide (Int.negSucc n<0)=true from decide_eq_true (Int.negSucc_lt_zero n)]
   rfl
  rw [e]
  exact .cons (.b _) (mB ρ (oP h))
noncomputable def SX:Nat:=aq
theorem zX:SX=aq:=rfl
noncomputable def XK (z:Int):V:=cv z fun z=>bif Nat.blt z.natAbs SX then .t [.ag (mW z),.b true] else .t [.ag (mW 0),.b false]
theorem Nf (ρ:Rn) (z:Int):Den ρ (XK z) (.tuple #[.agg (cS (b7 z)).toArray,.bool (decide (z.natAbs<aq))]):=by
 unfold XK
 rw [bp,blt_eq,zX]
 by_cases h:z.natAbs<aq
 ·rw [decide_eq_true h,oB h]
  exact .t (xs:=[_,_]) (.cons (.ag (eV ρ h)) (.cons (.b _) .nil))
 ·rw [decide_eq_false h,TU h]
  exact .t (xs:=[_,_]) (.cons (.ag (eV ρ (z:=0) bK)) (.cons (.b _) .nil))
noncomputable def KB (a b:Int):V:=.i .i64 (bif wV a b then .negSucc 0 else bif Mf a b then .ofNat 0 else .ofNat 1)
theorem qq (ρ:Rn) (a b:Int):Den ρ (KB a b) (.int .i64 (aR a b)):=by
 unfold KB aR
 rw [ig,k7]
 by_cases h:a<b
 ·rw [decide_eq_true h,if_pos h]
  exact .i _ _
 ·rw [decide_eq_false h,if_neg h]
  by_cases h2:a=b
  ·rw [decide_eq_true h2,if_pos h2]
   exact .i _ _
  ·rw [decide_eq_false h2,if_neg h2]
   exact .i _ _
end
end E
end Go.Proofs.YtlmabdegojeheaaGreatDoor
