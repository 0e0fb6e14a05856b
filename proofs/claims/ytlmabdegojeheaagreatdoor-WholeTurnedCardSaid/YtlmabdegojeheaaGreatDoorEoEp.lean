/- WholeTurned: parts of its proof (Eo Ep). -/
import Derived.Test.YtlmabdegojeheaaGreatDoorEkEn
namespace Go.Proofs.YtlmabdegojeheaaGreatDoor
open R Go.RowKit
namespace E
theorem pj (acc:List Nat) (b:Nat):∀ l:List Edge,(df acc l).testBit b=true↔∃ e∈l,Region.binds .any e=true∧(b=e.on∨(acc.getD e.on 0).testBit b=true)
 | []=>by simp [df]
 | e::l=>by
  have ih:=pj acc b l
  unfold df
  cases hb:Region.binds .any e with
  | true =>
   rw [cond_true,Nat.testBit_or,Nat.testBit_or,Bool.or_eq_true,Bool.or_eq_true,ih]
   constructor
   ·rintro (h|h|h)
    ·refine ⟨e,by simp,hb,.inl ?_⟩
     rw [Nat.testBit_two_pow] at h
     exact (of_decide_eq_true h).symm
    ·exact ⟨e,by simp,hb,.inr h⟩
    ·obtain ⟨e',h1,h2⟩:=h
     exact ⟨e',by simp [h1],h2⟩
   ·rintro ⟨e',h1,h2,h3⟩
    rcases List.mem_cons.1 h1 with rfl|h1
    ·rcases h3 with rfl|h3
     ·left
      simp
     ·exact .inr (.inl h3)
    ·exact .inr (.inr ⟨e',h1,h2,h3⟩)
  | false =>
   rw [cond_false,ih]
   constructor
   ·rintro ⟨e',h1,h2⟩
    exact ⟨e',by simp [h1],h2⟩
   ·rintro ⟨e',h1,h2,h3⟩
    rcases List.mem_cons.1 h1 with rfl|h1
    ·rw [hb] at h2;cases h2
    ·exact ⟨e',h1,h2,h3⟩
theorem qm:∀ (l:List Oper) (acc:List Nat),(dT l acc).take acc.length=acc
 | [],acc=>by simp [dT]
 | o::l,acc=>by
  show (dT l (acc++[df acc o.after.toList])).take acc.length=acc
  have:=qm l (acc++[df acc o.after.toList])
  have h2:=congrArg (List.take acc.length) this
  rw [List.take_take,List.length_append] at h2
  simpa using h2
theorem sV:∀ (l:List Oper) (acc:List Nat) (i:Nat) (o:Oper),l[i]?=some o→(dT l acc)[acc.length+i]?=some (df ((dT l acc).take (acc.length+i)) o.after.toList)
 | [],acc,i,o,h=>by simp at h
 | p::l,acc,0,o,h=>by
  cases h
  show (dT l (acc++[df acc p.after.toList]))[acc.length+0]?=some (df ((dT l (acc++[df acc p.after.toList])).take (acc.length+0)) p.after.toList)
  have h1:=qm l (acc++[df acc p.after.toList])
  have h2:=congrArg (List.take acc.length) h1
  rw [List.take_take,List.length_append] at h2
  have h3:(dT l (acc++[df acc p.after.toList])).take acc.length=acc:=by simpa using h2
  have h4:=congrArg (·[acc.length]?) h1
  rw [Nat.add_zero,h3]
  simpa using h4
 | p::l,acc,i+1,o,h=>by
  show (dT l (acc++[df acc p.after.toList]))[acc.length+(i+1)]?=some (df ((dT l (acc++[df acc p.after.toList])).take (acc.length+(i+1))) o.after.toList)
  have:=sV l (acc++[df acc p.after.toList]) i o (by simpa using h)
  rw [List.length_append,List.length_singleton,show acc.length+1+i=acc.length+(i+1) by omega] at this
  exact this
theorem xR {ops:List Oper} {i:Nat} {o:Oper} (h:ops[i]?=some o):(fZ ops).getD i 0=df ((fZ ops).take i) o.after.toList:=by
 have:=sV ops [] i o h
 simp only [List.length_nil,Nat.zero_add] at this
 rw [List.getD_eq_getElem?_getD]
 unfold fZ
 rw [this]
 rfl
theorem SK {ops:List Oper} {i b:Nat} {o:Oper} (h:ops[i]?=some o) (hb:((fZ ops).getD i 0).testBit b=true):∃ e∈o.after.toList,Region.binds .any e=true∧(b=e.on∨((fZ ops).getD e.on 0).testBit b=true):=by
 rw [xR h,pj] at hb
 obtain ⟨e,h1,h2,h3⟩:=hb
 refine ⟨e,h1,h2,h3.imp id fun h3=>?_⟩
 rw [List.getD_eq_getElem?_getD,List.getElem?_take] at h3
 rw [List.getD_eq_getElem?_getD]
 split at h3
 ·exact h3
 ·simp at h3
theorem SL {ops:List Oper} {i:Nat} {o:Oper} {e:Edge} (h:ops[i]?=some o) (he:e∈o.after.toList) (hb:Region.binds .any e=true):((fZ ops).getD i 0).testBit e.on=true:=by
 rw [xR h,pj]
 exact ⟨e,he,hb,.inl rfl⟩
theorem rP {ops:List Oper} {listed:Array Bool} {i:Nat}:i∈Region.ready .any ops.toArray listed↔∃ o,ops[i]?=some o∧listed.getD i true=false∧∀ e∈o.after.toList,Region.binds .any e=true→listed.getD e.on false=true:=by
 unfold Region.ready
 rw [List.mem_filter,List.mem_range,Bool.and_eq_true]
 simp only [List.size_toArray,List.getElem?_toArray]
 constructor
 ·rintro ⟨h1,h2,h3⟩
  have h4:=List.getElem?_eq_getElem h1
  rw [h4] at h3
  refine ⟨ops[i],h4,by simpa using h2,fun e he hb=>?_⟩
  simp only [Option.map_some,Option.getD_some,Array.all_eq_true',Array.mem_toList_iff.symm] at h3
  have:=h3 e he
  simpa [hb] using this
 ·rintro ⟨o,h1,h2,h3⟩
  have hlt:=(List.getElem?_eq_some_iff.1 h1).1
  refine ⟨hlt,by simpa using h2,?_⟩
  rw [h1]
  simp only [Option.map_some,Option.getD_some,Array.all_eq_true',Array.mem_toList_iff.symm]
  intro e he
  cases hb:Region.binds .any e with
  | true=>simpa using h3 e he hb
  | false=>rfl
structure Rc where
 i:Nat
 mask:Nat
 ins:I
 dst:Option (List Dg)
 g:Option (List Dg×Bool)
 b:Bool
 v:V
 x:O
 done:Nat
 fr:F
 cur:H
 past:List (Nat×H)
 nx:Nat
 k9:H
 oS:List (Nat×H)
 aL:Nat
def xS (h0:H) (past:List (Nat×H)):H:=match past with|[]=>h0|(_,h)::_=>h
structure Ku (call:dB) (base:Nat) (h0:H) (r:Rc):Prop where
 new:r.done.testBit r.i=false
 sub:r.mask&&& r.done=r.mask
 want:Ia r.fr r.g=some r.b
 off:r.b=false→r.v=undef
 q:gz r.ins=.q→r.k9=r.cur∧r.oS=r.past∧r.aL=r.nx∧(r.b=true→look r.ins r.fr (xS h0 r.past)=some r.v∧(isL r.ins=false∨o5 (look r.ins r.fr) r.v r.mask r.past h0=true))
 a:gz r.ins=.a→r.oS=r.past∧r.aL=r.nx∧(r.b=false→r.k9=r.cur)∧(r.b=true→news r.ins r.fr (base+r.i)=some (r.v,r.x)∧r.k9=dL r.cur (base+r.i) (some r.x))
 e:gz r.ins=.e→r.done=r.mask∧r.oS=(r.i,r.k9)::r.past∧(r.b=false→r.k9=r.cur∧r.aL=r.nx)∧(r.b=true→J6 call r.ins r.fr r.cur r.nx=some (r.v,r.k9,r.aL))
inductive Cb (call:dB) (base:Nat) (h0:H):List (Nat×Nat×CI)→Nat→F→H→List (Nat×H)→Nat→List Rc→F→H→Nat→Prop
 | nil {done fr cur past nx}:Cb call base h0 [] done fr cur past nx [] fr cur nx
 | cons {l T fr' h' aL} {r:Rc}:Ku call base h0 r→Cb call base h0 l (r.done||| 2 ^ r.i) (FM r.dst r.fr r.v) r.k9 r.oS r.aL T fr' h' aL→Cb call base h0 ((r.i,r.mask,.mk r.ins r.dst r.g)::l) r.done r.fr r.cur r.past r.nx (r::T) fr' h' aL
theorem aag {b:Bool} {β:Type} {x:Option β} {r:β} (h:Bool.rec (motive:=fun _=>Option β) x none b=some r):b=false∧x=some r:=by
 cases b with
 | false=>exact ⟨rfl,h⟩
 | true=>cases h
theorem Vv {b:Bool} {β:Type} {x:Option β} {r:β} (h:Bool.rec (motive:=fun _=>Option β) none x b=some r):b=true∧x=some r:=by
 cases b with
 | false=>cases h
 | true=>exact ⟨rfl,h⟩
theorem M5 (m n:Nat):tb m n=m.testBit n:=by
 unfold tb
 rw [bE]
 show decide ((m >>> n)&&& 1=1)=_
 rw [Nat.and_one_is_mod,Nat.testBit_eq_decide_div_mod_eq,Nat.shiftRight_eq_div_pow]
theorem jZ {call:dB} {base:Nat} {h0:H}:∀ {l:List (Nat×Nat×CI)} {done:Nat} {fr fr':F} {cur h':H} {past:List (Nat×H)} {nx aL:Nat},FA call base h0 l done fr cur past nx=some (fr',h',aL)→∃ T,Cb call base h0 l done fr cur past nx T fr' h' aL
 | [],done,fr,fr',cur,h',past,nx,aL,hr=>by
  cases hr
  exact ⟨[],.nil⟩
 | (i,mask,.mk ins dst g)::l,done,fr,fr',cur,h',past,nx,aL,hr=>by
  obtain ⟨hc,h1⟩:=aag hr
  rw [Bool.or_eq_false_iff,M5] at hc
  have hsub:mask&&& done=mask:=by
   have:=hc.2
   rw [bE] at this
   simpa using this
  obtain ⟨b,hb,h2⟩:=iM h1
  clear hr h1
  cases hcl:gz ins with
  | q =>
   rw [hcl] at h2
   cases b with
   | false =>
    replace h2:(mj dst fr undef fun fr'=>FA call base h0 l (done||| 2 ^ i) fr' cur past nx)=some (fr',h',aL):=h2
    rw [iC] at h2
    obtain ⟨T,hT⟩:=jZ h2
    exact ⟨_,.cons (r:=⟨i,mask,ins,dst,g,false,undef,default,done,fr,cur,past,nx,cur,past,nx⟩) ⟨hc.1,hsub,hb,fun _=>rfl,fun _=>⟨rfl,rfl,rfl,(fun h=>by cases h)⟩,(fun h=>by cases (hcl.symm.trans h)),(fun h=>by cases (hcl.symm.trans h))⟩ hT⟩
   | true =>
    obtain ⟨v,h3,h4⟩:=iM h2
    obtain ⟨h5,h6⟩:=Vv h4
    rw [iC] at h6
    obtain ⟨T,hT⟩:=jZ h6
    refine ⟨_,.cons (r:=⟨i,mask,ins,dst,g,true,v,default,done,fr,cur,past,nx,cur,past,nx⟩) ⟨hc.1,hsub,hb,(fun h=>by cases h),fun _=>⟨rfl,rfl,rfl,fun _=>⟨h3,?_⟩⟩,(fun h=>by cases (hcl.symm.trans h)),(fun h=>by cases (hcl.symm.trans h))⟩ hT⟩
    rw [Bool.or_eq_true] at h5
    exact h5.imp (fun h=>by simpa using h) id
  | a =>
   rw [hcl] at h2
   cases b with
   | false =>
    replace h2:(mj dst fr undef fun fr'=>FA call base h0 l (done||| 2 ^ i) fr' cur past nx)=some (fr',h',aL):=h2
    rw [iC] at h2
    obtain ⟨T,hT⟩:=jZ h2
    exact ⟨_,.cons (r:=⟨i,mask,ins,dst,g,false,undef,default,done,fr,cur,past,nx,cur,past,nx⟩) ⟨hc.1,hsub,hb,fun _=>rfl,(fun h=>by cases (hcl.symm.trans h)),fun _=>⟨rfl,rfl,fun _=>rfl,(fun h=>by cases h)⟩,(fun h=>by cases (hcl.symm.trans h))⟩ hT⟩
   | true =>
    obtain ⟨⟨v,x⟩,h3,h4⟩:=iM h2
    replace h4:(cur.dE (base+i) x fun k9=>mj dst fr v fun fr'=>FA call base h0 l (done||| 2 ^ i) fr' k9 past nx)=some (fr',h',aL):=h4
    rw [dh,iC] at h4
    obtain ⟨T,hT⟩:=jZ h4
    exact ⟨_,.cons (r:=⟨i,mask,ins,dst,g,true,v,x,done,fr,cur,past,nx,dL cur (base+i) (some x),past,nx⟩) ⟨hc.1,hsub,hb,(fun h=>by cases h),(fun h=>by cases (hcl.symm.trans h)),fun _=>⟨rfl,rfl,(fun h=>by cases h),fun _=>⟨h3,rfl⟩⟩,(fun h=>by cases (hcl.symm.trans h))⟩ hT⟩
  | e =>
   rw [hcl] at h2
   obtain ⟨hm,h2⟩:=Vv h2
   have hm:=Nat.eq_of_beq_eq_true hm
   cases b with
   | false =>
    replace h2:(mj dst fr undef fun fr'=>FA call base h0 l (done||| 2 ^ i) fr' cur ((i,cur)::past) nx)=some (fr',h',aL):=h2
    rw [iC] at h2
    obtain ⟨T,hT⟩:=jZ h2
    exact ⟨_,.cons (r:=⟨i,mask,ins,dst,g,false,undef,default,done,fr,cur,past,nx,cur,(i,cur)::past,nx⟩) ⟨hc.1,hsub,hb,fun _=>rfl,(fun h=>by cases (hcl.symm.trans h)),(fun h=>by cases (hcl.symm.trans h)),fun _=>⟨hm,rfl,fun _=>⟨rfl,rfl⟩,(fun h=>by cases h)⟩⟩ hT⟩
   | true =>
    obtain ⟨⟨v,h1,nx1⟩,h3,h4⟩:=iM h2
    replace h4:(mj dst fr v fun fr'=>FA call base h0 l (done||| 2 ^ i) fr' h1 ((i,h1)::past) nx1)=some (fr',h',aL):=h4
    rw [iC] at h4
    obtain ⟨T,hT⟩:=jZ h4
    exact ⟨_,.cons (r:=⟨i,mask,ins,dst,g,true,v,default,done,fr,cur,past,nx,h1,(i,h1)::past,nx1⟩) ⟨hc.1,hsub,hb,(fun h=>by cases h),(fun h=>by cases (hcl.symm.trans h)),(fun h=>by cases (hcl.symm.trans h)),fun _=>⟨hm,rfl,(fun h=>by cases h),fun _=>h3⟩⟩ hT⟩
noncomputable def sW (done:Nat) (T:List Rc):Nat:=T.foldl (fun d r=>d||| 2 ^ r.i) done
noncomputable def Vw (fr:F) (T:List Rc):F:=T.foldl (fun fr r=>FM r.dst fr r.v) fr
theorem jM {call:dB} {base:Nat} {h0:H}:∀ {T1:List Rc} {l:List (Nat×Nat×CI)} {done:Nat} {fr fr':F} {cur h':H} {past:List (Nat×H)} {nx aL:Nat} {r:Rc} {T2:List Rc},Cb call base h0 l done fr cur past nx (T1++r::T2) fr' h' aL →
  Ku call base h0 r∧r.done=sW done T1∧r.fr=Vw fr T1∧∃ l2,Cb call base h0 l2 r.done r.fr r.cur r.past r.nx (r::T2) fr' h' aL
 | [],l,done,fr,fr',cur,h',past,nx,aL,r,T2,h=>by
  cases h with
  | cons a b=>exact ⟨a,rfl,rfl,_,.cons a b⟩
 | t::T1,l,done,fr,fr',cur,h',past,nx,aL,r,T2,h=>by
  cases h with
  | cons a b =>
   obtain ⟨k1,k2,k3,k4⟩:=jM b
   exact ⟨k1,k2,k3,k4⟩
theorem lN (j:Nat):∀ (T:List Rc) (done:Nat),(sW done T).testBit j=true↔done.testBit j=true∨∃ r∈T,r.i=j
 | [],done=>by simp [sW]
 | t::T,done=>by
  show (sW (done||| 2 ^ t.i) T).testBit j=true↔_
  rw [lN j T,Nat.testBit_or,Bool.or_eq_true,Nat.testBit_two_pow,decide_eq_true_iff]
  constructor
  ·rintro ((h|h)|⟨r,h1,h2⟩)
   ·exact .inl h
   ·exact .inr ⟨t,by simp,h⟩
   ·exact .inr ⟨r,by simp [h1],h2⟩
  ·rintro (h|⟨r,h1,h2⟩)
   ·exact .inl (.inl h)
   ·rcases List.mem_cons.1 h1 with rfl|h1
    ·exact .inl (.inr h2)
    ·exact .inr ⟨r,h1,h2⟩
theorem zR (t:Nat) (v:V):∀ (T:List Rc) (fr:F),(∀ r∈T,∀ p,r.dst=some p→∃ d,p=path d)→at_ (Vw fr T) t=some v→(∃ r∈T,r.dst=some (path t)∧r.v=v)∨((∀ r∈T,r.dst≠some (path t))∧at_ fr t=some v)
 | [],fr,_,h=>.inr ⟨by simp,h⟩
 | u::T,fr,hp,h=>by
  rcases zR t v T (FM u.dst fr u.v) (fun r hr=>hp r (by simp [hr])) h with ⟨r,h1,h2⟩|⟨h1,h2⟩
  ·exact .inl ⟨r,by simp [h1],h2⟩
  ·by_cases hd:u.dst=some (path t)
   ·rw [hd] at h2
    replace h2:at_ (dL fr t (some u.v)) t=some v:=h2
    rw [cg,if_pos rfl] at h2
    cases h2
    exact .inl ⟨u,by simp,hd,rfl⟩
   ·refine .inr ⟨fun r hr=>?_,?_⟩
    ·rcases List.mem_cons.1 hr with rfl|hr
     ·exact hd
     ·exact h1 r hr
    ·cases hu:u.dst with
     | none =>
      rw [hu] at h2
      exact h2
     | some p =>
      obtain ⟨d,rfl⟩:=hp u (by simp) p hu
      rw [hu] at h2
      replace h2:at_ (dL fr d (some u.v)) t=some v:=h2
      rw [cg] at h2
      split at h2
      ·rename_i e
       rw [hu,e] at hd
       exact absurd rfl hd
      ·exact h2
mutual
theorem zT:∀ (u v:V),oZ u v=true→u=v
 | .b x,v,h=>by
  cases v <;> first|(unfold oZ at h;rw [beq_iff_eq.1 h])|cases h
 | .i k n,v,h=>by
  cases v <;> first|(unfold oZ at h;rw [Bool.and_eq_true] at h;rw [dC h.1];have h2:=h.2;rw [k7] at h2;rw [of_decide_eq_true h2])|cases h
 | .s x,v,h=>by
  cases v <;> first|(unfold oZ at h;rw [beq_iff_eq.1 h])|cases h
 | .p x,v,h=>by
  cases v <;> first|(unfold oZ at h;rw [of_decide_eq_true h])|cases h
 | .sl x n (.k c),v,h=>by
  cases v <;> try (cases h;done)
  rename_i y n' c'
  cases c' <;> try (cases h;done)
  unfold oZ at h
  rw [Bool.and_eq_true,Bool.and_eq_true] at h
  rw [of_decide_eq_true h.1,Nat.eq_of_beq_eq_true h.2.1,Nat.eq_of_beq_eq_true h.2.2]
 | .sl x n (.u c),v,h=>by
  cases v <;> try (cases h;done)
  rename_i y n' c'
  cases c' <;> try (cases h;done)
  unfold oZ at h
  rw [Bool.and_eq_true,Bool.and_eq_true] at h
  rw [of_decide_eq_true h.1,Nat.eq_of_beq_eq_true h.2.1,Nat.eq_of_beq_eq_true h.2.2]
 | .sl x n .x,v,h=>by
  cases v <;> try (cases h;done)
  rename_i y n' c'
  cases c' <;> try (cases h;done)
  unfold oZ at h
  rw [Bool.and_eq_true] at h
  rw [of_decide_eq_true h.1,Nat.eq_of_beq_eq_true h.2]
 | .m x,v,h=>by
  cases v <;> first|(unfold oZ at h;rw [of_decide_eq_true h])|cases h
 | .f fn x y,v,h=>by
  cases v <;> try (cases h;done)
  rename_i fn' x' y'
  unfold oZ at h
  rw [Bool.and_eq_true,Bool.and_eq_true] at h
  rw [of_decide_eq_true h.1,nA x x' h.2.1,nA y y' h.2.2]
 | .f0,v,h=>by
  cases v <;> first|rfl|cases h
 | .ni,v,h=>by
  cases v <;> first|rfl|cases h
 | .ag x,v,h=>by
  cases v <;> try (cases h;done)
  rename_i y
  unfold oZ at h
  rw [nA x y h]
 | .t x,v,h=>by
  cases v <;> try (cases h;done)
  rename_i y
  unfold oZ at h
  rw [nA x y h]
theorem nA:∀ (l r:List V),uz l r=true→l=r
 | [],r,h=>by cases r with|nil=>rfl|cons=>cases h
 | u::l,r,h=>by
  cases r with
  | nil=>cases h
  | cons v r =>
   unfold uz at h
   rw [Bool.and_eq_true] at h
   rw [zT u v h.1,nA l r h.2]
end
theorem xT {f:H→Option V} {v:V} {mask:Nat} {h0:H}:∀ {A B:List (Nat×H)},o5 f v mask (A++B) h0=true→(∀ e∈A,mask.testBit e.1=false)→f (xS h0 B)=some v
 | [],[],h,_=>by
  unfold o5 at h
  simp only [List.append_nil] at h
  split at h
  ·rename_i u hu
   rw [show xS h0 []=h0 from rfl,hu,zT u v h]
  ·cases h
 | [],(e,hh)::B,h,_=>by
  simp only [List.nil_append] at h
  unfold o5 at h
  rw [Bool.and_eq_true] at h
  have h1:=h.1
  split at h1
  ·rename_i u hu
   rw [show xS h0 ((e,hh)::B)=hh from rfl,hu,zT u v h1]
  ·cases h1
 | (e,hh)::A,B,h,hm=>by
  rw [List.cons_append] at h
  unfold o5 at h
  rw [Bool.and_eq_true,Bool.or_eq_true,M5] at h
  refine xT (h.2.resolve_left ?_) fun x hx=>hm x (by simp [hx])
  rw [hm (e,hh) (by simp)]
  simp
theorem M6 {ins:I} {fr:F} (h:isL ins=false) (h1 h2:H):look ins fr h1=look ins fr h2:=by
 cases ins <;> first|rfl|cases h
theorem xU {P:Program} {n:Nat} {ops:List Oper}:∀ {is:List Nat} {l:List (Nat×Nat×CI)},(is.foldr (fun i r=>match r,ops[i]? with
  | some l,some o=>(match R4 P n ops o with|some c=>some ((i,(fZ ops).getD i 0,c)::l)|none=>none)
  | _,_=>none) (some []))=some l→∀ c∈l,∃ o,ops[c.1]?=some o∧c.2.1=(fZ ops).getD c.1 0∧R4 P n ops o=some c.2.2
 | [],l,h=>by
  cases h
  simp
 | i::is,l,h=>by
  rw [List.foldr_cons] at h
  split at h
  ·rename_i l' o h1 h2
   split at h
   ·rename_i c hc
    cases h
    intro x hx
    rcases List.mem_cons.1 hx with rfl|hx
    ·exact ⟨o,h2,rfl,hc⟩
    ·exact xU h1 x hx
   ·cases h
  ·cases h
theorem zU {call:dB} {base:Nat} {h0:H}:∀ {l:List (Nat×Nat×CI)} {done:Nat} {fr fr':F} {cur h':H} {past:List (Nat×H)} {nx aL:Nat} {T:List Rc},Cb call base h0 l done fr cur past nx T fr' h' aL→T.map (fun r=>(r.i,r.mask,CI.mk r.ins r.dst r.g))=l∧(∀ r∈T,Ku call base h0 r∧done.testBit r.i=false)∧(T.map (·.i)).Nodup:=by
 intro l done fr fr' cur h' past nx aL T ht
 induction ht with
 | nil=>simp
 | @cons l T fr' h' aL r a b ih =>
  obtain ⟨h1,h2,h3⟩:=ih
  refine ⟨by rw [List.map_cons,h1],fun x hx=>?_,?_⟩
  ·rcases List.mem_cons.1 hx with rfl|hx
   ·exact ⟨a,a.new⟩
   ·obtain ⟨k1,k2⟩:=h2 x hx
    refine ⟨k1,?_⟩
    rw [Nat.testBit_or,Bool.or_eq_false_iff] at k2
    exact k2.1
  ·rw [List.map_cons,List.nodup_cons]
   refine ⟨fun hm=>?_,h3⟩
   obtain ⟨x,hx,he⟩:=List.mem_map.1 hm
   have:=(h2 x hx).2
   rw [Nat.testBit_or,Bool.or_eq_false_iff,Nat.testBit_two_pow,decide_eq_false_iff_not] at this
   exact this.2 he.symm
theorem M7:∀ (n:Nat) (l:List Nat),l.Nodup→(∀ x∈l,x<n)→l.length≤n
 | 0,l,_,h=>by
  cases l with
  | nil=>exact Nat.le_refl _
  | cons x l=>exact absurd (h x (by simp)) (Nat.not_lt_zero _)
 | n+1,l,hn,h=>by
  have h1:=M7 n (l.erase n) (hn.erase n) fun x hx=>by
   rw [hn.mem_erase_iff] at hx
   have:=h x hx.2
   have:=hx.1
   omega
  rw [List.length_erase] at h1
  split at h1 <;> omega
theorem Kv {n:Nat} {l:List Nat} (hn:l.Nodup) (h:∀ x∈l,x<n) (hl:l.length=n):∀ i,i<n→i∈l:=fun i hi=>by
 refine Classical.byContradiction fun hm=>?_
 have:=M7 n (i::l) (List.nodup_cons.2 ⟨hm,hn⟩) fun x hx=>by
  rcases List.mem_cons.1 hx with rfl|hx
  ·exact hi
  ·exact h x hx
 rw [List.length_cons] at this
 omega
theorem vg {ops:List Oper} (h:kL ops=true) {i j d:Nat} {oi oj:Oper} (hi:ops[i]?=some oi) (hj:ops[j]?=some oj) (hne:i≠j) (hd:oj.dst=some d) :
  oi.dst≠some d∧(d∈slotsOf oi ops→((fZ ops).getD i 0).testBit j=true∨((fZ ops).getD j 0).testBit i=true):=by
 unfold kL at h
 rw [List.all_eq_true] at h
 have h1:=h i (List.mem_range.2 (List.getElem?_eq_some_iff.1 hi).1)
 rw [List.all_eq_true] at h1
 have h2:=h1 j (List.mem_range.2 (List.getElem?_eq_some_iff.1 hj).1)
 rw [Bool.or_eq_true] at h2
 have h3:=h2.resolve_left fun hb=>hne (Nat.eq_of_beq_eq_true hb)
 rw [hi,hj] at h3
 simp only [hd] at h3
 rw [Bool.and_eq_true] at h3
 obtain ⟨h4,h5⟩:=h3
 refine ⟨fun he=>?_,fun hm=>?_⟩
 ·rw [he] at h4
  simp at h4
 ·rw [Bool.or_eq_true,Bool.or_eq_true] at h5
  rcases h5 with (h5|h5)|h5
  ·rw [Bool.not_eq_true',← Bool.not_eq_true] at h5
   exact absurd (by simpa using hm) h5
  ·exact .inl h5
  ·exact .inr h5
theorem vh {m n:Nat} (h:path m=path n):m=n:=by
 refine Classical.byContradiction fun hne=>?_
 have h1:at_ (dL (Tr.e:F) m (some V.ni)) n=none:=by
  rw [cg,if_neg (Ne.symm hne),FC]
 have h2:at_ (dL (Tr.e:F) m (some V.ni)) m=some V.ni:=nh _ _ _
 unfold at_ at h1 h2
 rw [← h,h2] at h1
 cases h1
structure sX (ρ:Rn) (D:Nat→Prop) (fr0:F) (T:List Rc) (f:Fr):Prop where
 wrote:∀ r∈T,D r.i→∀ t,r.dst=some (path t)→Den ρ r.v (f t)
 old:∀ t v,(∀ r∈T,D r.i→r.dst≠some (path t))→at_ fr0 t=some v→Den ρ v (f t)
 uQ:∀ g,g<1000→∃ sz,ρ g=some (g,sz)
theorem sX.ext {ρ ρ':Rn} {D:Nat→Prop} {fr0:F} {T:List Rc} {f:Fr} (h:sX ρ D fr0 T f) (e:Ext ρ ρ'):sX ρ' D fr0 T f :=
 ⟨fun r hr hD t ht=>(h.wrote r hr hD t ht).ext e,fun t v hn hv=>(h.old t v hn hv).ext e,fun g hg=>(h.uQ g hg).imp fun _ k=>e _ _ k⟩
theorem sX.put {ρ:Rn} {D:Nat→Prop} {fr0:F} {T:List Rc} {f:Fr} (h:sX ρ D fr0 T f) {r:Rc} (hr:r∈T) {d:Option Nat} (hd:r.dst=d.map path) {x:Value} (hx:Den ρ r.v x)
  (hidx:∀ r'∈T,r'.i=r.i→r'=r) (hone:∀ r'∈T,∀ t,r'.dst=some (path t)→r.dst=some (path t)→r'=r):sX ρ (fun i=>D i∨i=r.i) fr0 T (cH f d x):=by
 have hne:∀ t,r.dst≠some (path t)→cH f d x t=f t:=fun t ht=>by
  cases d with
  | none=>rfl
  | some d =>
   show cw f d x t=f t
   unfold cw
   have:t≠d:=by
    rintro rfl
    exact ht hd
   rw [show Nat.beq t d=false from by rw [bE];exact decide_eq_false this]
   rfl
 have heq:∀ t,r.dst=some (path t)→cH f d x t=x:=fun t ht=>by
  cases d with
  | none=>rw [hd] at ht;cases ht
  | some d =>
   rw [hd] at ht
   have:t=d:=vh (by simpa using ht.symm)
   subst this
   show cw f t x t=x
   unfold cw
   rw [show Nat.beq t t=true from Nat.beq_refl t]
   rfl
 refine ⟨fun r' hr' hD t ht=>?_,fun t v hn hv=>?_,h.uQ⟩
 ·by_cases hrt:r.dst=some (path t)
  ·rw [hone r' hr' t ht hrt,heq t hrt]
   exact hx
  ·rw [hne t hrt]
   exact h.wrote r' hr' (hD.resolve_right fun e=>hrt (by rw [← hidx r' hr' e];exact ht)) t ht
 ·have hrt:=hn r hr (.inr rfl)
  rw [hne t hrt]
  exact h.old t v (fun r' hr' hD=>hn r' hr' (.inl hD)) hv
theorem SM {call:dB} {base:Nat} {h0:H} {l:List (Nat×Nat×CI)} {fr0 fr':F} {cur h':H} {past:List (Nat×H)} {nx aL:Nat} {A B:List Rc} {r:Rc} {ops:List Oper} {o:Oper} {ρ:Rn} {D:Nat→Prop} {f:Fr}
  (hT:Cb call base h0 l 0 fr0 cur past nx (A++r::B) fr' h' aL) (hops:∀ x∈A++r::B,∃ o,ops[x.i]?=some o∧x.mask=(fZ ops).getD x.i 0∧x.dst=o.dst.map path) (ho:ops[r.i]?=some o) (hsl:kL ops=true)
  (hS:sX ρ D fr0 (A++r::B) f) (hD:¬ D r.i) (hcl:∀ x∈A++r::B,D x.i→∀ j,x.mask.testBit j=true→D j) (hmk:∀ j,r.mask.testBit j=true→D j) {t:Nat} {u:V} (ht:t∈slotsOf o ops) (hu:at_ r.fr t=some u):Den ρ u (f t):=by
 obtain ⟨hall,hok,hnd⟩:=zU hT
 obtain ⟨k1,k2,k3,_⟩:=jM hT
 have hbit:∀ (m d j:Nat),m&&& d=m→m.testBit j=true→d.testBit j=true:=fun m d j h hb=>by
  rw [← h,Nat.testBit_and,Bool.and_eq_true] at hb
  exact hb.2
 have hdst:∀ x∈A++r::B,∀ p,x.dst=some p→∃ d,p=path d:=fun x hx p hp=>by
  obtain ⟨ox,_,_,h3⟩:=hops x hx
  rw [h3] at hp
  obtain ⟨d,_,rfl⟩:=Option.map_eq_some_iff.1 hp
  exact ⟨d,rfl⟩
 have hod:∀ x∈A++r::B,∀ ox,ops[x.i]?=some ox→x.dst=some (path t)→ox.dst=some t:=fun x hx ox hox hp=>by
  obtain ⟨ox',h1,_,h3⟩:=hops x hx
  rw [hox] at h1
  cases h1
  rw [h3] at hp
  obtain ⟨d,hd,he⟩:=Option.map_eq_some_iff.1 hp
  rw [hd,vh he]
 obtain ⟨or',hor,hmr,_⟩:=hops r (by simp)
 rw [List.map_append,List.map_cons,List.nodup_append] at hnd
 rw [k3] at hu
 rcases zR t u A fr0 (fun x hx=>hdst x (by simp [hx])) hu with ⟨x,hx,hxd,rfl⟩|⟨hno,hu0⟩
 ·obtain ⟨ox,hox,hmx,_⟩:=hops x (by simp [hx])
  have hne:r.i≠x.i:=fun e=>hnd.2.2 x.i (List.mem_map_of_mem hx) r.i (by simp) e.symm
  rcases (vg hsl ho hox hne (hod x (by simp [hx]) ox hox hxd)).2 ht with hm|hm
  ·rw [← hmr] at hm
   exact hS.wrote x (by simp [hx]) (hmk _ hm) t hxd
  ·exfalso
   obtain ⟨A1,A2,rfl⟩:=List.append_of_mem hx
   rw [List.append_assoc,List.cons_append] at hT
   obtain ⟨j1,j2,_,_⟩:=jM hT
   rw [← hmx] at hm
   have hb:=hbit _ _ _ j1.sub hm
   rw [j2,lN] at hb
   rcases hb with hb|⟨y,hy,he⟩
   ·simp at hb
   ·exact hnd.2.2 y.i (List.mem_map_of_mem (by simp [hy])) r.i (by simp) he
 ·refine hS.old t u (fun x hx hDx hxd=>?_) hu0
  have hne:r.i≠x.i:=fun e=>hD (by rw [e];exact hDx)
  obtain ⟨ox,hox,hmx,_⟩:=hops x hx
  rcases (vg hsl ho hox hne (hod x hx ox hox hxd)).2 ht with hm|hm
  ·rw [← hmr] at hm
   have hb:=hbit _ _ _ k1.sub hm
   rw [k2,lN] at hb
   rcases hb with hb|⟨y,hy,he⟩
   ·simp at hb
   ·rcases List.mem_append.1 hx with hx|hx
    ·exact hno x hx hxd
    ·rcases List.mem_cons.1 hx with rfl|hx
     ·exact hne rfl
     ·exact hnd.2.2 y.i (List.mem_map_of_mem hy) x.i (List.mem_cons_of_mem _ (List.mem_map_of_mem hx)) he
  ·rw [← hmx] at hm
   exact hD (hcl x hx hDx _ hm)
theorem Sat.add {ρ:Rn} {h:H} {w:World} (hs:Sat ρ h w) {nm b sz:Nat} {x:O} {ob:Obj} (hr:ρ nm=some (b,sz)) (hb:w.heap[b]?=some ob) (ho:iL ρ x ob sz) (hi:¬ Im ρ h b):Sat ρ (dL h nm (some x)) w where
 has:=fun m o hm=>by
  rw [cg] at hm
  split at hm
  ·rename_i e
   cases hm
   rw [e]
   exact ⟨b,sz,ob,hr,hb,ho⟩
  ·exact hs.has m o hm
 inj:=fun m1 m2 b' s1 s2 h1 h2 r1 r2=>by
  rw [cg] at h1 h2
  by_cases e1:m1=nm <;> by_cases e2:m2=nm
  ·rw [e1,e2]
  ·rw [if_neg e2] at h2
   rw [e1,hr] at r1
   cases r1
   exact absurd ⟨m2,s2,h2,r2⟩ hi
  ·rw [if_neg e1] at h1
   rw [e2,hr] at r2
   cases r2
   exact absurd ⟨m1,s1,h1,r1⟩ hi
  ·rw [if_neg e1] at h1
   rw [if_neg e2] at h2
   exact hs.inj m1 m2 b' s1 s2 h1 h2 r1 r2
theorem F3 {ρ:Rn} {h:H} {nm b sz k:Nat} {x:O} (hr:ρ nm=some (b,sz)) (hi:Im ρ (dL h nm (some x)) k):k=b∨Im ρ h k:=by
 obtain ⟨m,s,hm,h2⟩:=hi
 rw [cg] at hm
 split at hm
 ·rename_i e
  rw [e,hr] at h2
  cases h2
  exact .inl rfl
 ·exact .inr ⟨m,s,hm,h2⟩
end E
namespace E
section
variable {call:dB} {base:Nat} {h0:H}
theorem tY {l:List (Nat×Nat×CI)} {done:Nat} {fr fr':F} {cur h':H} {past:List (Nat×H)} {nx aL:Nat} {r:Rc} {T:List Rc} (h:Cb call base h0 l done fr cur past nx (r::T) fr' h' aL) :
  Ku call base h0 r∧r.done=done∧r.fr=fr∧r.cur=cur∧r.past=past∧r.nx=nx∧∃ l2,Cb call base h0 l2 (done||| 2 ^ r.i) (FM r.dst fr r.v) r.k9 r.oS r.aL T fr' h' aL:=by
 cases h with
 | cons a b=>exact ⟨a,rfl,rfl,rfl,rfl,rfl,_,b⟩
theorem SN {l:List (Nat×Nat×CI)} {done:Nat} {fr fr':F} {cur h':H} {past:List (Nat×H)} {nx aL:Nat} (h:Cb call base h0 l done fr cur past nx [] fr' h' aL):fr'=fr∧h'=cur∧aL=nx:=by
 cases h
 exact ⟨rfl,rfl,rfl⟩
def Kw (r:Rc):Prop:=gz r.ins=.a∧r.b=true
noncomputable def C5 (base:Nat) (h:H) (r:Rc):H:=match gz r.ins,r.b with
 | .a,true=>dL h (base+r.i) (some r.x)
 | _,_=>h
theorem Iz {h:H} {r:Rc} (k:Kw r):C5 base h r=dL h (base+r.i) (some r.x):=by
 unfold C5
 rw [k.1,k.2]
theorem vk {h:H} {r:Rc} (k:¬ Kw r):C5 base h r=h:=by
 unfold C5
 unfold Kw at k
 cases hc:gz r.ins <;> cases hb:r.b <;> simp_all
noncomputable def zV (base:Nat) (h:H) (S:List Rc):H:=S.foldl (C5 base) h
theorem xV {fr':F} {h':H} {past:List (Nat×H)} {nx aL:Nat} {R:List Rc}:∀ (S:List Rc) {l:List (Nat×Nat×CI)} {done:Nat} {fr:F} {cur:H},Cb call base h0 l done fr cur past nx (S++R) fr' h' aL→(∀ r∈S,gz r.ins≠.e) →
  ∃ l2,Cb call base h0 l2 (sW done S) (Vw fr S) (zV base cur S) past nx R fr' h' aL:=by
 intro S
 induction S with
 | nil=>exact fun h _=>⟨_,h⟩
 | cons r S ih =>
  intro l done fr cur h hq
  obtain ⟨k,e1,e2,e3,e4,e5,l2,h2⟩:=tY h
  have key:r.k9=C5 base cur r∧r.oS=past∧r.aL=nx:=by
   cases hc:gz r.ins with
   | q =>
    obtain ⟨k1,k2,k3,_⟩:=k.q hc
    rw [vk (fun ha=>by rw [ha.1] at hc;cases hc)]
    exact ⟨k1.trans e3,k2.trans e4,k3.trans e5⟩
   | a =>
    obtain ⟨k1,k2,k3,k4⟩:=k.a hc
    refine ⟨?_,k1.trans e4,k2.trans e5⟩
    cases hb:r.b with
    | false=>rw [k3 hb,e3,vk (fun ha=>by rw [ha.2] at hb;cases hb)]
    | true=>rw [(k4 hb).2,e3,Iz ⟨hc,hb⟩]
   | e=>exact absurd hc (hq r (by simp))
  obtain ⟨k1,k2,k3⟩:=key
  rw [k1,k2,k3] at h2
  exact ih h2 fun x hx=>hq x (by simp [hx])
theorem M8 {fr':F} {h':H} {aL:Nat} {r:Rc} {B:List Rc}:∀ (A:List Rc) {l:List (Nat×Nat×CI)} {done:Nat} {fr:F} {cur:H} {past:List (Nat×H)} {nx:Nat},Cb call base h0 l done fr cur past nx (A++r::B) fr' h' aL →
  ∃ E,r.past=E++past∧∀ e∈E,∃ x∈A,x.i=e.1∧gz x.ins=.e:=by
 intro A
 induction A with
 | nil =>
  intro l done fr cur past nx h
  obtain ⟨_,_,_,_,e4,_⟩:=tY h
  exact ⟨[],e4,by simp⟩
 | cons a A ih =>
  intro l done fr cur past nx h
  obtain ⟨k,e1,e2,e3,e4,e5,l2,h2⟩:=tY h
  obtain ⟨E,k1,k2⟩:=ih h2
  cases hc:gz a.ins with
  | q =>
   rw [(k.q hc).2.1,e4] at k1
   exact ⟨E,k1,fun e he=>(k2 e he).imp fun x hx=>⟨by simp [hx.1],hx.2⟩⟩
  | a =>
   rw [(k.a hc).1,e4] at k1
   exact ⟨E,k1,fun e he=>(k2 e he).imp fun x hx=>⟨by simp [hx.1],hx.2⟩⟩
  | e =>
   rw [(k.e hc).2.1,e4] at k1
   refine ⟨E++[(a.i,a.k9)],by simpa using k1,fun e he=>?_⟩
   rcases List.mem_append.1 he with he|he
   ·exact (k2 e he).imp fun x hx=>⟨by simp [hx.1],hx.2⟩
   ·rw [List.mem_singleton.1 he]
    exact ⟨a,by simp,rfl,hc⟩
end
section
variable {base lo:Nat} {ρ ρ' ρ0:Rn} {h h0 h2:H} {w w' w0:World} {nx nx0:Nat}
def Pd (base:Nat) (ρ:Rn) (h:H) (w:World) (lo:Nat) (r:Rc):Prop:=∃ bl sz ob,ρ (base+r.i)=some (bl,sz)∧w.heap[bl]?=some ob∧iL ρ r.x ob sz∧¬ Im ρ h bl∧lo≤bl
def XD (base:Nat) (ρ:Rn) (S:Rc→Prop):Prop:=∀ r r',S r→S r'→Kw r→Kw r'→∀ bl sz sz',ρ (base+r.i)=some (bl,sz)→ρ (base+r'.i)=some (bl,sz')→r.i=r'.i
theorem C6:∀ (S:List Rc) {h:H},Sat ρ h w→(∀ r∈S,Kw r→Pd base ρ h w lo r)→XD base ρ (fun r=>r∈S)→(S.map (·.i)).Nodup →
  Sat ρ (zV base h S) w∧∀ k,Im ρ (zV base h S) k→Im ρ h k∨∃ r∈S,Kw r∧lo≤k∧∃ sz,ρ (base+r.i)=some (k,sz):=by
 intro S
 induction S with
 | nil=>exact fun hs _ _ _=>⟨hs,fun k hk=>.inl hk⟩
 | cons r S ih =>
  intro h hs hp ha hn
  rw [List.map_cons,List.nodup_cons] at hn
  have hsub:XD base ρ (fun r=>r∈S):=fun x y hx hy=>ha x y (List.mem_cons_of_mem _ hx) (List.mem_cons_of_mem _ hy)
  by_cases hA:Kw r
  ·obtain ⟨bl,sz,ob,k1,k2,k3,k4,k5⟩:=hp r (by simp) hA
   have e:zV base h (r::S)=zV base (dL h (base+r.i) (some r.x)) S:=by
    show zV base (C5 base h r) S=_
    rw [Iz hA]
   rw [e]
   obtain ⟨j1,j2⟩:=ih (h:=dL h (base+r.i) (some r.x)) (hs.add k1 k2 k3 k4) (fun y hy hyA=>by
    obtain ⟨bl',sz',ob',l1,l2,l3,l4,l5⟩:=hp y (by simp [hy]) hyA
    refine ⟨bl',sz',ob',l1,l2,l3,fun hi=>?_,l5⟩
    rcases F3 k1 hi with rfl|hi
    ·exact hn.1 (by rw [ha r y (by simp) (by simp [hy]) hA hyA _ _ _ k1 l1];exact List.mem_map_of_mem hy)
    ·exact l4 hi) hsub hn.2
   refine ⟨j1,fun k hk=>?_⟩
   rcases j2 k hk with hi|⟨y,hy,hi⟩
   ·rcases F3 k1 hi with rfl|hi
    ·exact .inr ⟨r,by simp,hA,k5,sz,k1⟩
    ·exact .inl hi
   ·exact .inr ⟨y,by simp [hy],hi⟩
  ·have e:zV base h (r::S)=zV base h S:=by
    show zV base (C5 base h r) S=_
    rw [vk hA]
   rw [e]
   obtain ⟨j1,j2⟩:=ih hs (fun y hy=>hp y (by simp [hy])) hsub hn.2
   refine ⟨j1,fun k hk=>?_⟩
   rcases j2 k hk with hi|⟨y,hy,hi⟩
   ·exact .inl hi
   ·exact .inr ⟨y,by simp [hy],hi⟩
theorem dH.sat' (s:dH ρ0 h0 nx0 w0 ρ h nx w) (hs:Sat ρ h2 w) (hi:∀ k,Im ρ h2 k→Im ρ h k∨w0.heap.size≤k):dH ρ0 h0 nx0 w0 ρ h2 nx w :=
 ⟨s.ext,hs,s.le,s.same,s.os,s.tape,s.output,s.size,s.kC,fun b hb hk=>s.FF b hb ((hi b hk).resolve_right xj)⟩
theorem Sat.more (hs:Sat ρ h w) (he:Ext ρ ρ') (hw:∀ b,b<w.heap.size→w'.heap[b]?=w.heap[b]?):Sat ρ' h w' where
 has:=fun n o hn=>by
  obtain ⟨b,sz,ob,h1,h2,h3⟩:=hs.has n o hn
  exact ⟨b,sz,ob,he _ _ h1,(hw b (Array.getElem?_eq_some_iff.1 h2).1).trans h2,h3.ext he⟩
 inj:=fun m n b s s' hm hn r1 r2=>by
  have key:∀ m s,at_ h m≠none→ρ' m=some (b,s)→ρ m=some (b,s):=fun m s hm hr=>by
   cases ho:at_ h m with
   | none=>exact absurd ho hm
   | some o =>
    obtain ⟨b',sz',_,h1,_⟩:=hs.has m o ho
    have:=he _ _ h1
    rw [hr] at this
    cases this
    exact h1
  exact hs.inj m n b s s' hm hn (key m s hm r1) (key n s' hn r2)
theorem qn (hs:Sat ρ h w) (he:Ext ρ ρ') {k:Nat} (hi:Im ρ' h k):Im ρ h k:=by
 obtain ⟨m,s,hm,hr⟩:=hi
 cases ho:at_ h m with
 | none=>exact absurd ho hm
 | some o =>
  obtain ⟨b',sz',_,h1,_⟩:=hs.has m o ho
  have:=he _ _ h1
  rw [hr] at this
  cases this
  exact ⟨m,_,hm,h1⟩
theorem SP {f:Fr} {fr:F} {xs:List Operand} (hs:∀ t,Operand.tmp t∈xs→∀ u,at_ fr t=some u→Den ρ u (f t)) (hg:∀ g,g<1000→∃ sz,ρ g=some (g,sz)):xb ρ f fr xs:=by
 intro x hx d v hd hv
 cases x with
 | tmp t =>
  cases hd
  exact hs t hx v hv
 | const c =>
  obtain ⟨u,hu,rfl⟩:=ik (show (Wf c).map cu.k=some d from hd)
  cases hv
  exact fM hu
 | global g =>
  obtain ⟨h1,h2⟩:=nX (show (bif Nat.blt g 1000 then some (cu.k (.p (some (g,0)))) else none)=some d from hd)
  cases h2
  cases hv
  rw [blt_eq] at h1
  obtain ⟨sz,hg⟩:=hg g (of_decide_eq_true h1)
  exact .p hg
 | func g =>
  cases hd
  cases hv
  exact Den.f (xs:=[]) (ys:=[]) .nil .nil
theorem SQ {P:Program} {call:dB} {f:Fr} {fr:F} {o:Oper} {ins:I} (hC:jS P call) (hI:uP P o.op ins) (hcl:gz ins=.e) (hD:xb ρ f fr o.op.operands.toList) (hg:∀ g,g<1000→∃ sz,ρ g=some (g,sz)) (hs:Sat ρ h w) (hf:tD ρ nx) {v:V} {h':H} {aL:Nat} (ha:J6 call ins fr h nx=some (v,h',aL)) :
  WO P (bn P) o f w fun x w'=>∃ ρ',Den ρ' v x∧dH ρ h nx w ρ' h' aL w':=by
 unfold WO
 cases hI with
 | q e _=>rw [e] at hcl;cases hcl
 | a e _=>rw [e] at hcl;cases hcl
 | e _ hA _ =>
  obtain ⟨x,w',ρ',h1,h2,h3⟩:=hA hD hs hf ha
  rcases h1 o rfl with k1|⟨k1,k2⟩
  ·rw [k1];exact ⟨ρ',h2,h3⟩
  ·rw [k1];subst k2;exact ⟨ρ',h2,h3⟩
 | @c c fo fd l ho hc hfo hl hins =>
  subst hins
  have hops:o.op.operands.toList=fo::c.args.toList:=by
   rw [ho]
   simp [Op.operands,Call.operands,hc]
  rw [hops] at hD
  obtain ⟨u,h1,h2⟩:=iM ha
  have hu:=hD fo (by simp) fd u hfo h1
  split at h2
  ·rename_i g first cap
   obtain ⟨vs,h3,h4⟩:=iM h2
   have hvs:=iN (xs:=c.args.toList) (fun x hx=>hD x (List.mem_cons_of_mem _ hx)) hl h3
   generalize hev:ev f fo=fv at hu
   cases hu with
   | @f _ _ _ xs ys hx hy =>
    rw [CR ho hc hev (cF rfl)]
    exact hC h4 (hx.append (hvs.append hy)) hs hf hg
  ·cases h2
end
structure F4 (P:Program) (n:Nat) (ops:List Oper) (T:List Rc):Prop where
 op:∀ r∈T,∃ o,ops[r.i]?=some o∧r.mask=(fZ ops).getD r.i 0∧r.dst=o.dst.map path∧cI P o.op=some r.ins∧cG ops o.guard=some r.g∧fx n o.dst=true
 nd:(T.map (·.i)).Nodup
 all:∀ i,i<ops.length→∃ r∈T,r.i=i
 slots:kL ops=true
theorem Ky {l:List Rc} (h:(l.map (·.i)).Nodup) {x y:Rc} (hx:x∈l) (hy:y∈l) (e:x.i=y.i):x=y:=by
 induction l with
 | nil=>cases hx
 | cons a l ih =>
  rw [List.map_cons,List.nodup_cons] at h
  rcases List.mem_cons.1 hx with h1|h1 <;> rcases List.mem_cons.1 hy with h2|h2
  ·rw [h1,h2]
  ·exact absurd (by rw [← h1,e];exact List.mem_map_of_mem h2) h.1
  ·exact absurd (by rw [← h2,← e];exact List.mem_map_of_mem h1) h.1
  ·exact ih h.2 h1 h2
section
variable {P:Program} {n:Nat} {ops:List Oper} {T:List Rc}
theorem F4.idx (h:F4 P n ops T) {x y:Rc} (hx:x∈T) (hy:y∈T) (e:x.i=y.i):x=y:=Ky h.nd hx hy e
theorem F4.lt (h:F4 P n ops T) {x:Rc} (hx:x∈T):x.i<ops.length:=by
 obtain ⟨o,ho,_⟩:=h.op x hx
 exact (List.getElem?_eq_some_iff.1 ho).1
theorem F4.dst (h:F4 P n ops T) {x:Rc} (hx:x∈T) {t:Nat} (ht:x.dst=some (path t)):∃ o,ops[x.i]?=some o∧o.dst=some t:=by
 obtain ⟨o,ho,_,h3,_⟩:=h.op x hx
 rw [h3] at ht
 obtain ⟨d,hd,he⟩:=Option.map_eq_some_iff.1 ht
 exact ⟨o,ho,by rw [hd,vh he]⟩
theorem F4.one (h:F4 P n ops T) {x y:Rc} (hx:x∈T) (hy:y∈T) {t:Nat} (h1:x.dst=some (path t)) (h2:y.dst=some (path t)):x=y:=by
 obtain ⟨ox,k1,k2⟩:=h.dst hx h1
 obtain ⟨oy,k3,k4⟩:=h.dst hy h2
 refine Classical.byContradiction fun hne=>?_
 exact (vg h.slots k1 k3 (fun e=>hne (h.idx hx hy e)) k4).1 k2
theorem XE {call:dB} {base:Nat} {h0:H} {l:List (Nat×Nat×CI)} {fr fr':F} {cur h':H} {past:List (Nat×H)} {nx aL:Nat} (hp:kL ops=true∧∀ c∈l,∃ o,ops[c.1]?=some o∧c.2.1=(fZ ops).getD c.1 0∧R4 P n ops o=some c.2.2) (hl:l.length=ops.length) (hT:Cb call base h0 l 0 fr cur past nx T fr' h' aL):F4 P n ops T:=by
 obtain ⟨h1,h2⟩:=hp
 obtain ⟨h3,h4,h5⟩:=zU hT
 have hop:∀ r∈T,∃ o,ops[r.i]?=some o∧r.mask=(fZ ops).getD r.i 0∧r.dst=o.dst.map path∧cI P o.op=some r.ins∧cG ops o.guard=some r.g∧fx n o.dst=true:=fun r hr=>by
  obtain ⟨o,k1,k2,k3⟩:=h2 (r.i,r.mask,CI.mk r.ins r.dst r.g) (by rw [← h3];exact List.mem_map_of_mem (f:=fun r:Rc=>(r.i,r.mask,CI.mk r.ins r.dst r.g)) hr)
  obtain ⟨ins,g,e,k4,k5,k6⟩:=CS k3
  injection e with e1 e2 e3
  exact ⟨o,k1,k2,e2,e1▸k4,e3▸k5,k6⟩
 refine ⟨hop,h5,fun i hi=>?_,h1⟩
 have:=Kv h5 (n:=ops.length) (fun x hx=>by
  obtain ⟨r,hr,rfl⟩:=List.mem_map.1 hx
  obtain ⟨o,ho,_⟩:=hop r hr
  exact (List.getElem?_eq_some_iff.1 ho).1) (by rw [List.length_map,← hl,← h3,List.length_map]) i hi
 obtain ⟨r,hr,rfl⟩:=List.mem_map.1 this
 exact ⟨r,hr,rfl⟩
end
end E
end Go.Proofs.YtlmabdegojeheaaGreatDoor
