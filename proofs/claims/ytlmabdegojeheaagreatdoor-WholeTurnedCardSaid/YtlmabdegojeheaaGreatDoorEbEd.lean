/- WholeTurned: parts of its proof (Eb Ec Ed). -/
import Derived.Test.YtlmabdegojeheaaGreatDoorEa
namespace Go.Proofs.YtlmabdegojeheaaGreatDoor
open R Go.RowKit
namespace E
mutual
noncomputable def oZ:V→V→Bool
 | .b x,.b y=>x == y
 | .i k x,.i k' y=>kb k k'&&Mf x y
 | .s x,.s y=>x == y
 | .p x,.p y=>decide (x=y)
 | .sl x n (.k c),.sl y n' (.k c')=>decide (x=y)&&(Nat.beq n n'&&Nat.beq c c')
 | .sl x n (.u c),.sl y n' (.u c')=>decide (x=y)&&(Nat.beq n n'&&Nat.beq c c')
 | .sl x n .x,.sl y n' .x=>decide (x=y)&&Nat.beq n n'
 | .m x,.m y=>decide (x=y)
 | .f fn x y,.f fn' x' y'=>decide (fn=fn')&&(uz x x'&&uz y y')
 | .f0,.f0=>true
 | .ni,.ni=>true
 | .ag x,.ag y=>uz x y
 | .t x,.t y=>uz x y
 | _,_=>false
noncomputable def uz:List V→List V→Bool
 | [],[]=>true
 | x::l,y::r=>oZ x y&&uz l r
 | _,_=>false
end
abbrev dB:=Nat→List V→H→Nat→HR
inductive CI where
 | mk (ins:I) (dst:Option (List Dg)) (guard:Option (List Dg×Bool))
section
variable (P:Program)
noncomputable def cG (ops:List Oper):Option (Nat×Bool)→Option (Option (List Dg×Bool))
 | none=>some none
 | some (j,b)=>match ops[j]? with
  | some oj=>(match oj.dst with|some d=>some (some (path d,b))|none=>none)
  | none=>none
noncomputable def R5 (n:Nat) (ops:List Oper) (o:Oper):Option CI :=
 match cJ P o.op,cG ops o.guard with
 | some ins,some g=>(match o.dst with
  | none=>some (.mk ins none g)
  | some d=>bif Nat.blt d n then some (.mk ins (some (path d)) g) else none)
 | _,_=>none
noncomputable def mj {β:Type} (d:Option (List Dg)) (fr:F) (v:V) (K:F→β):β:=Option.rec (motive:=fun _=>β) (K fr) (fun p=>dE p fr (some v) K) d
noncomputable def Z4 (b:Bool) (v:V):Bool:=match v with|.b c=>c == b|_=>false
noncomputable def Ia (fr:F) (g:Option (List Dg×Bool)):Option Bool:=Option.rec (motive:=fun _=>Option Bool) (some true) (fun g=>Prod.rec (motive:=fun _=>Option Bool) (fun p b=>Option.rec (motive:=fun _=>Option Bool) none (fun v=>some (Z4 b v)) (jc p fr)) g) g
noncomputable def Mq (fr:F) (x:cu):Option V:=cu.rec (motive:=fun _=>Option V) (fun p=>jc p fr) (fun v=>some v) x
noncomputable def J5 (fr:F) (l:List cu):Option (List V):=List.rec (motive:=fun _=>Option (List V)) (some []) (fun x _ ih=>Option.rec (motive:=fun _=>Option (List V)) none (fun v=>Option.rec (motive:=fun _=>Option (List V)) none (fun r=>some (v::r)) ih) (Mq fr x)) l
noncomputable def look (ins:I) (fr:F) (h:H):Option V:=I.rec (motive:=fun _=>Option V)
 (fun x f=>Option.rec (motive:=fun _=>Option V) none f (Mq fr x))
 (fun x y f=>Option.rec (motive:=fun _=>Option V) none (fun u=>Option.rec (motive:=fun _=>Option V) none (fun v=>f u v) (Mq fr y)) (Mq fr x))
 (fun x f=>Option.rec (motive:=fun _=>Option V) none (fun v=>f h v) (Mq fr x))
 (fun xs f=>Option.rec (motive:=fun _=>Option V) none f (J5 fr xs))
 (fun c a b=>Option.rec (motive:=fun _=>Option V) none (fun v=>match v with|.b t=>Mq fr (bif t then a else b)|_=>none) (Mq fr c))
 (fun xs f=>Option.rec (motive:=fun _=>Option V) none (fun vs=>f h vs) (J5 fr xs))
 (fun _ _=>none) (fun _ _=>none) (fun _ _=>none) ins
noncomputable def J6 (call:dB) (ins:I) (fr:F) (h:H) (nx:Nat):HR:=I.rec (motive:=fun _=>HR)
 (fun _ _=>none) (fun _ _ _=>none) (fun _ _=>none) (fun _ _=>none) (fun _ _ _=>none) (fun _ _=>none) (fun _ _=>none)
 (fun xs f=>Option.rec (motive:=fun _=>HR) none (fun vs=>f h nx vs) (J5 fr xs))
 (fun fn xs=>Option.rec (motive:=fun _=>HR) none (fun v=>match v with
  | .f (.func g) first cap=>Option.rec (motive:=fun _=>HR) none (fun vs=>call g (first++(vs++cap)) h nx) (J5 fr xs)
  | _=>none) (Mq fr fn)) ins
noncomputable def news (ins:I) (fr:F) (nm:Nat):Option (V×O):=I.rec (motive:=fun _=>Option (V×O))
 (fun _ _=>none) (fun _ _ _=>none) (fun _ _=>none) (fun _ _=>none) (fun _ _ _=>none) (fun _ _=>none)
 (fun xs f=>Option.rec (motive:=fun _=>Option (V×O)) none (fun vs=>f nm vs) (J5 fr xs))
 (fun _ _=>none) (fun _ _=>none) ins
inductive Cl where|q|a|e
noncomputable def gz (ins:I):Cl:=I.rec (motive:=fun _=>Cl) (fun _ _=>.q) (fun _ _ _=>.q) (fun _ _=>.q) (fun _ _=>.q) (fun _ _ _=>.q) (fun _ _=>.q) (fun _ _=>.a) (fun _ _=>.e) (fun _ _=>.e) ins
abbrev RR:=Option (F×H×Nat)
noncomputable def Mr (call:dB) (ins:I) (dst:Option (List Dg)) (fr:F) (h:H) (nx:Nat) (K:F→H→Nat→RR):RR :=
 Cl.rec (motive:=fun _=>RR)
  (Option.rec (motive:=fun _=>RR) none (fun v=>mj dst fr v fun fr'=>K fr' h nx) (look ins fr h))
  (Option.rec (motive:=fun _=>RR) none (fun r=>Prod.rec (motive:=fun _=>RR) (fun v x=>h.dE nx x fun h'=>mj dst fr v fun fr'=>K fr' h' (nx+1)) r) (news ins fr nx))
  (Option.rec (motive:=fun _=>RR) none (fun r=>Prod.rec (motive:=fun _=>RR) (fun v r=>Prod.rec (motive:=fun _=>RR) (fun h' aL=>mj dst fr v fun fr'=>K fr' h' aL) r) r) (J6 call ins fr h nx)) (gz ins)
noncomputable def R7 (n:Nat) (call:dB) (ops:List Oper) (l:List Oper):F→H→Nat→RR :=
 List.rec (motive:=fun _=>F→H→Nat→RR) (fun fr h nx=>some (fr,h,nx)) (fun o _ ih fr h nx =>
  Option.rec (motive:=fun _=>RR) none (fun c=>CI.rec (motive:=fun _=>RR) (fun ins dst g =>
   Option.rec (motive:=fun _=>RR) none (fun b=>Bool.rec (motive:=fun _=>RR) (mj dst fr undef fun fr'=>ih fr' h nx) (Mr call ins dst fr h nx ih) b) (Ia fr g)) c) (R5 P n ops o)) l
noncomputable def tb (m n:Nat):Bool:=Nat.beq (Nat.land (Nat.shiftRight m n) 1) 1
noncomputable def df (acc:List Nat):List Edge→Nat
 | []=>0
 | e::l=>bif Region.binds .any e then 2 ^ e.on||| (acc.getD e.on 0||| df acc l) else df acc l
noncomputable def dT:List Oper→List Nat→List Nat
 | [],acc=>acc
 | o::l,acc=>dT l (acc++[df acc o.after.toList])
noncomputable def fZ (ops:List Oper):List Nat:=dT ops []
noncomputable def isE (n:Nat) (ops:List Oper) (o:Oper):Bool:=match R5 P n ops o with|some (.mk (.e _ _) _ _)=>true|some (.mk (.c _ _) _ _)=>true|_=>false
noncomputable def slotsOf (o:Oper) (ops:List Oper):List Nat :=
 (o.op.operands.toList.filterMap fun x=>match x with|.tmp t=>some t|_=>none)++(match o.guard with|some (j,_)=>(match ops[j]? with|some oj=>oj.dst.toList|none=>[])|none=>[])
noncomputable def kL (ops:List Oper):Bool :=
 (List.range ops.length).all fun i=>(List.range ops.length).all fun j=>Nat.beq i j ||
  match ops[i]?,ops[j]? with
  | some oi,some oj=>(match oj.dst with
   | some d=>(match oi.dst with|some d'=>!Nat.beq d d'|none=>true)&&(!(slotsOf oi ops).contains d||((fZ ops).getD i 0).testBit j||((fZ ops).getD j 0).testBit i)
   | none=>true)
  | _,_=>false
noncomputable def fO {β:Type} (n:Nat) (K:Nat→β):β:=Nat.rec (motive:=fun _=>β) (K 0) (fun k _=>K (Nat.succ k)) n
noncomputable def kB (x:Option Nat):Nat:=Option.rec (motive:=fun _=>Nat) 0 (fun n=>n) x
noncomputable def o4 (t:Tr Nat) (l:List Edge):Nat:=List.rec (motive:=fun _=>Nat) 0 (fun e _ ih=>bif Region.binds .any e then Nat.lor (Nat.pow 2 e.on) (Nat.lor (kB (jc (path e.on) t)) ih) else ih) l
noncomputable def oR (l:List Oper):Nat→Tr Nat→Tr Nat:=List.rec (motive:=fun _=>Nat→Tr Nat→Tr Nat) (fun _ t=>t) (fun o _ ih i t=>fO (o4 t o.after.toList) fun m=>dE (path i) t (some m) fun t'=>ih (Nat.succ i) t') l
noncomputable def LW (l:List Oper):Nat→Tr Nat→Option (Tr Nat):=List.rec (motive:=fun _=>Nat→Tr Nat→Option (Tr Nat)) (fun _ t=>some t) (fun o _ ih i t =>
 Option.rec (motive:=fun _=>Option (Tr Nat)) (ih (Nat.succ i) t) (fun d=>Option.rec (motive:=fun _=>Option (Tr Nat)) (dE (path d) t (some i) fun t'=>ih (Nat.succ i) t') (fun _=>none) (jc (path d) t)) o.dst) l
noncomputable def na (mT wT:Tr Nat) (i:Nat) (l:List Nat):Bool:=List.rec (motive:=fun _=>Bool) true (fun t _ ih=>Option.rec (motive:=fun _=>Bool) ih (fun j=>Bool.rec (motive:=fun _=>Bool) (Bool.rec (motive:=fun _=>Bool) (Bool.rec (motive:=fun _=>Bool) false ih (tb (kB (jc (path j) mT)) i)) ih (tb (kB (jc (path i) mT)) j)) ih (Nat.beq i j)) (jc (path t) wT)) l
noncomputable def Mu (ops:List Oper) (mT wT:Tr Nat) (l:List Oper):Nat→Bool:=List.rec (motive:=fun _=>Nat→Bool) (fun _=>true) (fun o _ ih i=>Bool.rec (motive:=fun _=>Bool) false (ih (Nat.succ i)) (na mT wT i (slotsOf o ops))) l
noncomputable def Fz (ops:List Oper) (mT:Tr Nat):Bool:=Option.rec (motive:=fun _=>Bool) false (fun wT=>Mu ops mT wT ops 0) (LW ops 0 .e)
noncomputable def Vq (fuel:Nat):Nat→Nat→List Nat:=Nat.rec (motive:=fun _=>Nat→Nat→List Nat) (fun _ _=>[]) (fun _ ih d i=>bif Nat.beq d 0 then [] else fO (Nat.shiftRight d 1) fun d'=>bif Nat.beq (Nat.land d 1) 1 then i::ih d' (Nat.succ i) else ih d' (Nat.succ i)) fuel
noncomputable def WJ (f:Nat→Nat) (n:Nat) (l:List Nat):Nat→List Nat:=List.rec (motive:=fun _=>Nat→List Nat) (fun done=>Vq n (Nat.xor (Nat.sub (Nat.pow 2 n) 1) done) 0)
 (fun e _ ih done=>fO (f e) fun m=>fO (Nat.xor m (Nat.land m done)) fun d=>Vq n d 0++e::fO (Nat.lor done (Nat.lor m (Nat.pow 2 e))) ih) l
noncomputable def adh (n:Nat) (ops l:List Oper):Nat→List Nat:=List.rec (motive:=fun _=>Nat→List Nat) (fun _=>[]) (fun o _ ih i=>bif isE P n ops o then i::ih (Nat.succ i) else ih (Nat.succ i)) l
noncomputable def Mv (n:Nat) (ops:List Oper):Option (List (Nat×Nat×CI)) :=
 (fun mT=>bif Fz ops mT then (WJ (fun e=>kB (jc (path e) mT)) ops.length (adh P n ops ops 0) 0).foldr (fun i r=>match r,ops[i]? with
  | some l,some o=>(match R5 P n ops o with|some c=>some ((i,kB (jc (path i) mT),c)::l)|none=>none)
  | _,_=>none) (some []) else none) (oR ops 0 .e)
noncomputable def o5 (f:H→Option V) (v:V) (mask:Nat):List (Nat×H)→H→Bool
 | [],h=>(match f h with|some u=>oZ u v|none=>false)
 | (e,h)::l,h0=>(match f h with|some u=>oZ u v|none=>false)&&(tb mask e||o5 f v mask l h0)
noncomputable def isL (ins:I):Bool:=match ins with|.l _ _=>true|.l1 _ _=>true|_=>false
noncomputable def FA (call:dB) (base:Nat) (h0:H) (l:List (Nat×Nat×CI)):Nat→F→H→List (Nat×H)→Nat→RR :=
 List.rec (motive:=fun _=>Nat→F→H→List (Nat×H)→Nat→RR) (fun _ fr cur _ nx=>some (fr,cur,nx)) (fun c _ ih done fr cur past nx =>
  Prod.rec (motive:=fun _=>RR) (fun i c=>Prod.rec (motive:=fun _=>RR) (fun mask c=>CI.rec (motive:=fun _=>RR) (fun ins dst g =>
   Bool.rec (motive:=fun _=>RR) (Option.rec (motive:=fun _=>RR) none (fun b=>Cl.rec (motive:=fun _=>RR)
    (Bool.rec (motive:=fun _=>RR) (mj dst fr undef fun fr'=>ih (Nat.lor done (Nat.pow 2 i)) fr' cur past nx)
     (Option.rec (motive:=fun _=>RR) none (fun v=>Bool.rec (motive:=fun _=>RR) none (mj dst fr v fun fr'=>ih (Nat.lor done (Nat.pow 2 i)) fr' cur past nx) (!isL ins||o5 (look ins fr) v mask past h0)) (look ins fr (match past with|[]=>h0|(_,h)::_=>h))) b)
    (Bool.rec (motive:=fun _=>RR) (mj dst fr undef fun fr'=>ih (Nat.lor done (Nat.pow 2 i)) fr' cur past nx)
     (Option.rec (motive:=fun _=>RR) none (fun r=>Prod.rec (motive:=fun _=>RR) (fun v x=>cur.dE (base+i) x fun k9=>mj dst fr v fun fr'=>ih (Nat.lor done (Nat.pow 2 i)) fr' k9 past nx) r) (news ins fr (base+i))) b)
    (Bool.rec (motive:=fun _=>RR) none (Bool.rec (motive:=fun _=>RR) (mj dst fr undef fun fr'=>ih (Nat.lor done (Nat.pow 2 i)) fr' cur ((i,cur)::past) nx)
     (Option.rec (motive:=fun _=>RR) none (fun r=>Prod.rec (motive:=fun _=>RR) (fun v r=>Prod.rec (motive:=fun _=>RR) (fun h' aL=>mj dst fr v fun fr'=>ih (Nat.lor done (Nat.pow 2 i)) fr' h' ((i,h')::past) aL) r) r) (J6 call ins fr cur nx)) b) (Nat.beq done mask)) (gz ins)) (Ia fr g))
    none (tb done i||!Nat.beq (Nat.land mask done) mask)) c) c) c) l
noncomputable def R8 (n:Nat) (call:dB) (ops:List Oper) (fr:F) (h:H) (nx:Nat):Option (F×H×Nat) :=
 match Mv P n ops with
 | some l=>bif Nat.beq l.length ops.length then FA call nx h l 0 fr h [] (nx+ops.length) else none
 | none=>none
inductive Ex where
 | n
 | x (id:Nat)
 | r
abbrev XR:=Option (Ex×F×H×Nat)
noncomputable def WK (x:XR) (K:Ex→F→H→Nat→XR):XR:=Option.rec (motive:=fun _=>XR) none (fun r=>Prod.rec (motive:=fun _=>XR) (fun e r=>Prod.rec (motive:=fun _=>XR) (fun fr r=>Prod.rec (motive:=fun _=>XR) (fun h nx=>K e fr h nx) r) r) r) x
noncomputable def onR (x:RR) (K:F→H→Nat→XR):XR:=Option.rec (motive:=fun _=>XR) none (fun r=>Prod.rec (motive:=fun _=>XR) (fun fr r=>Prod.rec (motive:=fun _=>XR) (fun h nx=>K fr h nx) r) r) x
noncomputable def Cx (body:F→H→Nat→XR) (m:Nat):F→H→Nat→XR:=Nat.rec (motive:=fun _=>F→H→Nat→XR) (fun _ _ _=>none)
 (fun _ ih fr h nx=>WK (body fr h nx) fun e fr' h' aL=>Ex.rec (motive:=fun _=>XR) (ih fr' h' aL) (fun id=>some (.x id,fr',h',aL)) (some (.r,fr',h',aL)) e) m
noncomputable def exec (n:Nat) (call:dB) (c:Code):F→H→Nat→XR :=
 Code.rec (motive:=fun _=>F→H→Nat→XR)
  (fun fr h nx=>some (.n,fr,h,nx))
  (fun _ ops draw fr h nx=>onR (bif draw then R8 P n call ops.toList fr h nx else R7 P n call ops.toList ops.toList fr h nx) fun fr' h' aL=>some (.n,fr',h',aL))
  (fun _ _ ia ib fr h nx=>WK (ia fr h nx) fun e fr' h' aL=>Ex.rec (motive:=fun _=>XR) (ib fr' h' aL) (fun id=>some (.x id,fr',h',aL)) (some (.r,fr',h',aL)) e)
  (fun c _ _ ia ib fr h nx=>Option.rec (motive:=fun _=>XR) none (fun x=>Option.rec (motive:=fun _=>XR) none (fun v=>match v with|.b t=>Bool.rec (motive:=fun _=>XR) (ib fr h nx) (ia fr h nx) t|_=>none) (Mq fr x)) (cO c))
  (fun id _ ih fr h nx=>WK (ih fr h nx) fun e fr' h' aL=>Ex.rec (motive:=fun _=>XR) (some (.n,fr',h',aL)) (fun j=>bif Nat.beq j id then some (.n,fr',h',aL) else some (.x j,fr',h',aL)) (some (.r,fr',h',aL)) e)
  (fun _ ih fr h nx=>Cx ih 100000 fr h nx)
  (fun _ _ _ _ _ _ _ _ _=>none)
  (fun id fr h nx=>some (.x id,fr,h,nx))
  (fun _ _ _ _ _=>none)
  (fun _ fr h nx=>some (.n,fr,h,nx))
  (fun _ _ _ _=>none)
  (fun fr h nx=>some (.r,fr,h,nx))
  (fun _ _ _ _=>none) c
noncomputable def FB (fr:F) (h:H):List ResultVar→Option (List V)
 | []=>some []
 | .tmp t::l=>(match jc (path t) fr,FB fr h l with|some v,some r=>some (v::r)|_,_=>none)
 | .cell a t::l=>(match jc (path a) fr,aY P t,ct P t,FB fr h l with
  | some v,some ag,some sz,some r=>(match (bif ag then uw sz h v else ux h v) with|some u=>some (u::r)|none=>none)
  | _,_,_,_=>none)
noncomputable def one (vs:List V):V:=match vs with|[v]=>v|l=>.t l
noncomputable def frK {β:Type} (l:List V):Nat→F→(F→β)→β:=List.rec (motive:=fun _=>Nat→F→(F→β)→β) (fun _ fr K=>K fr) (fun v _ ih t fr K=>dE (path t) fr (some v) fun fr'=>ih (t+1) fr' K) l
noncomputable def tB (rs:List ResultVar) (fr:F) (h:H) (nx:Nat):HR:=match FB P fr h rs with|some l=>some (one l,h,nx)|none=>none
noncomputable def Ib (call:dB) (fn:Func) (as_:List V) (h:H) (nx:Nat):HR:=match fn.body with
 | none=>none
 | some c=>bif Nat.ble as_.length fn.ntmps then frK as_ 0 .e fun fr=>(match exec P fn.ntmps call c fr h nx with
  | some (.r,fr',h',aL)=>tB P fn.results.toList fr' h' aL
  | some (.n,fr',h',aL)=>tB P fn.results.toList fr' h' aL
  | _=>none) else none
noncomputable def Cy (fns:Nat→Option Func) (prim:Nat→Option (List V→H→Nat→HR)) (m:Nat):dB:=Nat.rec (motive:=fun _=>dB) (fun _ _ _ _=>none)
 (fun _ ih g as_ h nx=>Option.rec (motive:=fun _=>HR) (Option.rec (motive:=fun _=>HR) none (fun fn=>Ib P ih fn as_ h nx) (fns g)) (fun f=>f as_ h nx) (prim g)) m
end
end E
namespace E
inductive Q4 where|a|b|c|d
def dg:Q4→Dg
 | .a=>dga|.b=>dgb|.c=>dgc|.d=>dgd
def qi (n:Nat):Q4:=bif Nat.beq n 0 then .a else bif Nat.beq n 1 then .b else bif Nat.beq n 2 then .c else .d
theorem WM (n:Nat):dgi n=dg (qi n):=by
 unfold dgi qi
 cases Nat.beq n 0 <;> cases Nat.beq n 1 <;> cases Nat.beq n 2 <;> rfl
def R9:Nat→Nat→List Q4
 | 0,_=>[]
 | f+1,n=>bif Nat.beq n 0 then [] else qi (n % 4)::R9 f (n / 4)
theorem Cz:∀ f n,Md f n=(R9 f n).map dg
 | 0,_=>rfl
 | f+1,n=>by
  show (bif Nat.beq n 0 then [] else dgi (n % 4)::Md f (n / 4))=_
  unfold R9
  cases Nat.beq n 0
  ·simp [Cz f,WM]
  ·rfl
theorem WN {m n:Nat} (hm:m<4) (hn:n<4) (h:qi m=qi n):m=n:=by
 have h1:m=0∨m=1∨m=2∨m=3:=by omega
 have h2:n=0∨n=1∨n=2∨n=3:=by omega
 rcases h1 with rfl|rfl|rfl|rfl <;> rcases h2 with rfl|rfl|rfl|rfl <;> first|rfl|(exfalso;revert h;simp [qi,Nat.beq])
theorem Sa:∀ f g m n,m≤f→n≤g→R9 f m=R9 g n→m=n:=by
 intro f
 induction f with
 | zero =>
  intro g m n hm hn h
  obtain rfl:m=0:=by omega
  cases g with
  | zero=>omega
  | succ g =>
   unfold R9 at h
   cases hb:Nat.beq n 0 with
   | true=>exact (Nat.eq_of_beq_eq_true hb).symm
   | false=>rw [hb] at h;cases h
 | succ f ih =>
  intro g m n hm hn h
  cases g with
  | zero =>
   obtain rfl:n=0:=by omega
   unfold R9 at h
   cases hb:Nat.beq m 0 with
   | true=>exact Nat.eq_of_beq_eq_true hb
   | false=>rw [hb] at h;cases h
  | succ g =>
   unfold R9 at h
   cases hb:Nat.beq m 0 with
   | true =>
    rw [hb] at h
    cases hc:Nat.beq n 0 with
    | true=>rw [Nat.eq_of_beq_eq_true hb,Nat.eq_of_beq_eq_true hc]
    | false=>rw [hc] at h;cases h
   | false =>
    rw [hb] at h
    cases hc:Nat.beq n 0 with
    | true=>rw [hc] at h;cases h
    | false =>
     rw [hc] at h
     simp only [cond_false,List.cons.injEq] at h
     have h1:=WN (Nat.mod_lt _ vj) (Nat.mod_lt _ vj) h.1
     have hm0:m≠0:=Nat.ne_of_beq_eq_false hb
     have hn0:n≠0:=Nat.ne_of_beq_eq_false hc
     have h2:=ih g (m / 4) (n / 4) xj xj h.2
     omega
def qs (n:Nat):List Q4:=R9 n n
theorem yO (n:Nat):path n=(qs n).map dg:=Cz n n
theorem WQ {m n:Nat} (h:qs m=qs n):m=n:=Sa m n m n (Nat.le_refl _) (Nat.le_refl _) h
section
variable {α β:Type}
noncomputable def mU (p:List Dg) (t:Tr α) (x:Option α):Tr α:=dE p t x fun r=>r
theorem o6 (p:List Dg):jc p (.e:Tr α)=none:=by cases p <;> rfl
theorem uA (x:Option α) (a b c d:Tr α):jc [] (.n x a b c d)=x:=rfl
theorem lC (q:Dg) (p:List Dg) (x:Option α) (a b c d:Tr α):jc (q::p) (.n x a b c d)=jc p (q.H9 a b c d):=rfl
theorem nb:∀ (p:List Dg) (β:Type) (t:Tr α) (x:Option α) (K:Tr α→β),dE p t x K=K (mU p t x)
 | [],_,.e,_,_=>rfl
 | [],_,.n _ _ _ _ _,_,_=>rfl
 | q::p,β,.e,x,K=>(nb p β .e x fun r=>K (q.up none r .e .e .e .e)).trans (congrArg K (nb p _ .e x (fun r=>q.up none r .e .e .e .e)).symm)
 | q::p,β,.n y a b c d,x,K=>(nb p β (q.H9 a b c d) x fun r=>K (q.up y r a b c d)).trans (congrArg K (nb p _ (q.H9 a b c d) x (fun r=>q.up y r a b c d)).symm)
theorem jt (p:List Dg) (t:Tr α) (x:Option α) (K:Tr α→β):dE p t x K=K (mU p t x):=nb p β t x K
theorem nf (q:Dg) (p:List Dg) (x:Option α):mU (q::p) (.e:Tr α) x=q.up none (mU p .e x) .e .e .e .e:=by
 show dE p .e x (fun r=>q.up none r .e .e .e .e)=_
 rw [jt]
theorem ng (q:Dg) (p:List Dg) (y x:Option α) (a b c d:Tr α):mU (q::p) (.n y a b c d) x=q.up y (mU p (q.H9 a b c d) x) a b c d:=by
 show dE p _ x (fun r=>q.up y r a b c d)=_
 rw [jt]
theorem J7 (q:Q4) (y:Option α) (r a b c d:Tr α):∃ a' b' c' d',(dg q).up y r a b c d=.n y a' b' c' d'∧(dg q).H9 a' b' c' d'=r∧∀ q',q'≠q→(dg q').H9 a' b' c' d'=(dg q').H9 a b c d:=by
 cases q
 ·exact ⟨r,b,c,d,rfl,rfl,fun q' h=>by cases q' <;> first|rfl|(exact absurd rfl h)⟩
 ·exact ⟨a,r,c,d,rfl,rfl,fun q' h=>by cases q' <;> first|rfl|(exact absurd rfl h)⟩
 ·exact ⟨a,b,r,d,rfl,rfl,fun q' h=>by cases q' <;> first|rfl|(exact absurd rfl h)⟩
 ·exact ⟨a,b,c,r,rfl,rfl,fun q' h=>by cases q' <;> first|rfl|(exact absurd rfl h)⟩
theorem Vr (q:Dg) (hq:∃ u,q=dg u):q.H9 (.e:Tr α) .e .e .e=.e:=by
 obtain ⟨u,rfl⟩:=hq
 cases u <;> rfl
theorem mn:∀ (p:List Q4) (t:Tr α) (x:Option α),jc (p.map dg) (mU (p.map dg) t x)=x
 | [],.e,_=>rfl
 | [],.n _ _ _ _ _,_=>rfl
 | q::p,.e,x=>by
  rw [List.map_cons,nf]
  obtain ⟨a',b',c',d',h1,h2,_⟩:=J7 q none (mU (p.map dg) .e x) .e .e .e .e
  rw [h1,lC,h2]
  exact mn p .e x
 | q::p,.n y a b c d,x=>by
  rw [List.map_cons,ng]
  obtain ⟨a',b',c',d',h1,h2,_⟩:=J7 q y (mU (p.map dg) ((dg q).H9 a b c d) x) a b c d
  rw [h1,lC,h2]
  exact mn p _ x
theorem o7:∀ (p p':List Q4) (t:Tr α) (x:Option α),p'≠p→jc (p'.map dg) (mU (p.map dg) t x)=jc (p'.map dg) t
 | [],[],_,_,h=>absurd rfl h
 | [],q::p',.e,_,_=>by
  show jc (p'.map dg) ((dg q).H9 .e .e .e .e)=_
  rw [Vr _ ⟨q,rfl⟩,o6,o6]
 | [],q::p',.n _ _ _ _ _,_,_=>rfl
 | q::p,[],.e,x,_=>by
  rw [List.map_cons,nf]
  obtain ⟨a',b',c',d',h1,_⟩:=J7 q none (mU (p.map dg) .e x) .e .e .e .e
  rw [h1,List.map_nil,uA,o6]
 | q::p,[],.n y a b c d,x,_=>by
  rw [List.map_cons,ng]
  obtain ⟨a',b',c',d',h1,_⟩:=J7 q y (mU (p.map dg) ((dg q).H9 a b c d) x) a b c d
  rw [h1,List.map_nil,uA,uA]
 | q::p,q'::p',.e,x,h=>by
  rw [List.map_cons,List.map_cons,nf]
  obtain ⟨a',b',c',d',h1,h2,h3⟩:=J7 q none (mU (p.map dg) .e x) .e .e .e .e
  rw [h1,lC,o6]
  by_cases hq:q'=q
  ·subst hq
   rw [h2,o7 p p' .e x (fun e=>h (by rw [e])),o6]
  ·rw [h3 q' hq,Vr _ ⟨q',rfl⟩,o6]
 | q::p,q'::p',.n y a b c d,x,h=>by
  rw [List.map_cons,List.map_cons,ng]
  obtain ⟨a',b',c',d',h1,h2,h3⟩:=J7 q y (mU (p.map dg) ((dg q).H9 a b c d) x) a b c d
  rw [h1,lC,lC]
  by_cases hq:q'=q
  ·subst hq
   rw [h2,o7 p p' _ x (fun e=>h (by rw [e]))]
  ·rw [h3 q' hq]
end
noncomputable def at_ {α:Type} (t:Tr α) (n:Nat):Option α:=jc (path n) t
noncomputable def dL {α:Type} (t:Tr α) (n:Nat) (x:Option α):Tr α:=mU (path n) t x
section
variable {α β:Type}
theorem FC (n:Nat):at_ (.e:Tr α) n=none:=o6 _
theorem nh (t:Tr α) (n:Nat) (x:Option α):at_ (dL t n x) n=x:=by
 unfold at_ dL
 rw [yO]
 exact mn _ _ _
theorem J8 (t:Tr α) {m n:Nat} (x:Option α) (h:m≠n):at_ (dL t n x) m=at_ t m:=by
 unfold at_ dL
 rw [yO,yO]
 exact o7 _ _ _ _ fun e=>h (WQ e)
theorem cg (t:Tr α) (m n:Nat) (x:Option α):at_ (dL t n x) m=if m=n then x else at_ t m:=by
 by_cases h:m=n
 ·subst h;rw [if_pos rfl,nh]
 ·rw [if_neg h,J8 t x h]
theorem dh (h:H) (n:Nat) (o:O) (K:H→β):h.dE n o K=K (dL h n (some o)):=jt _ _ _ _
theorem Mw (h:H) (n:Nat) (K:H→β):h.Wh n K=K (dL h n none):=jt _ _ _ _
end
abbrev Rn:=Nat→Option (Nat×Nat)
mutual
inductive Den (ρ:Rn):V→Value→Prop
 | b (x):Den ρ (.b x) (.bool x)
 | i (k n):Den ρ (.i k n) (.int k n)
 | s (l):Den ρ (.s l) (.string ⟨l.toArray⟩)
 | p0:Den ρ (.p none) (.pointer none)
 | p {n off b sz}:ρ n=some (b,sz)→Den ρ (.p (some (n,off))) (.pointer (some ⟨b,off,none⟩))
 | Vs (n c):Den ρ (.sl none n (.k c)) (.slice none n c)
 | B7 {m off n c b sz}:ρ m=some (b,sz)→Den ρ (.sl (some (m,off)) n (.k c)) (.slice (some ⟨b,off,none⟩) n c)
 | Ca {m off n s c b sz}:ρ m=some (b,sz)→off+c*s=sz→n≤c→Den ρ (.sl (some (m,off)) n (.u s)) (.slice (some ⟨b,off,none⟩) n c)
 | Vt {m off a c}:Den ρ (.sl (some (m,off)) 0 .x) (.slice (some a) 0 c)
 | m0:Den ρ (.m none) (.map none)
 | m {n b sz}:ρ n=some (b,sz)→Den ρ (.m (some n)) (.map (some b))
 | f {fn a c xs ys}:aT ρ a xs→aT ρ c ys→Den ρ (.f fn a c) (.func fn xs.toArray ys.toArray)
 | f0:Den ρ .f0 .nilFunc
 | ni:Den ρ .ni .nilIface
 | ag {cs xs}:aT ρ cs xs→Den ρ (.ag cs) (.agg xs.toArray)
 | t {vs xs}:aT ρ vs xs→Den ρ (.t vs) (.tuple xs.toArray)
inductive aT (ρ:Rn):List V→List Value→Prop
 | nil:aT ρ [] []
 | cons {v x l r}:Den ρ v x→aT ρ l r→aT ρ (v::l) (x::r)
end
def Ext (ρ ρ':Rn):Prop:=∀ n x,ρ n=some x→ρ' n=some x
theorem Ext.refl (ρ:Rn):Ext ρ ρ:=fun _ _ h=>h
theorem Ext.trans {a b c:Rn} (h:Ext a b) (k:Ext b c):Ext a c:=fun n x hx=>k n x (h n x hx)
section
variable {ρ ρ':Rn}
mutual
theorem Den.ext (h:Ext ρ ρ'):∀ {v x},Den ρ v x→Den ρ' v x
 | _,_,.b x=>.b x
 | _,_,.i k n=>.i k n
 | _,_,.s l=>.s l
 | _,_,.p0=>.p0
 | _,_,.p e=>.p (h _ _ e)
 | _,_,.Vs n c=>.Vs n c
 | _,_,.B7 e=>.B7 (h _ _ e)
 | _,_,.Ca e e1 e2=>.Ca (h _ _ e) e1 e2
 | _,_,.Vt=>.Vt
 | _,_,.m0=>.m0
 | _,_,.m e=>.m (h _ _ e)
 | _,_,.f a c=>.f (aT.ext h a) (aT.ext h c)
 | _,_,.f0=>.f0
 | _,_,.ni=>.ni
 | _,_,.ag l=>.ag (aT.ext h l)
 | _,_,.t l=>.t (aT.ext h l)
theorem aT.ext (h:Ext ρ ρ'):∀ {v x},aT ρ v x→aT ρ' v x
 | _,_,.nil=>.nil
 | _,_,.cons a l=>.cons (Den.ext h a) (aT.ext h l)
end
theorem aT.len {l:List V} {r:List Value} (h:aT ρ l r):l.length=r.length:=by
 induction l generalizing r with
 | nil=>cases h;rfl
 | cons v l ih=>cases h with|cons _ h=>simp [ih h]
theorem aT.append {l l':List V} {r r':List Value} (h:aT ρ l r) (h':aT ρ l' r'):aT ρ (l++l') (r++r'):=by
 induction l generalizing r with
 | nil=>cases h;exact h'
 | cons v l ih=>cases h with|cons a h=>exact .cons a (ih h)
theorem aT.drop {l:List V} {r:List Value} (h:aT ρ l r) (n:Nat):aT ρ (l.drop n) (r.drop n):=by
 induction n generalizing l r with
 | zero=>exact h
 | succ n ih=>cases h with|nil=>exact .nil|cons _ h=>exact ih h
theorem aT.take {l:List V} {r:List Value} (h:aT ρ l r) (n:Nat):aT ρ (l.take n) (r.take n):=by
 induction n generalizing l r with
 | zero=>exact .nil
 | succ n ih=>cases h with|nil=>exact .nil|cons a h=>exact .cons a (ih h)
theorem aT.nth {l:List V} {r:List Value} (h:aT ρ l r) {n:Nat} {v:V} (hv:l[n]?=some v):∃ x,r[n]?=some x∧Den ρ v x:=by
 induction n generalizing l r with
 | zero=>cases h with|nil=>cases hv|cons a h=>simp at hv;subst hv;exact ⟨_,rfl,a⟩
 | succ n ih=>cases h with|nil=>cases hv|cons a h=>exact ih h (by simpa using hv)
end
section
variable {ρ:Rn}
theorem CA {x:Value} {v:V} (h:Me x=some v):Den ρ v x:=by
 unfold Me at h
 split at h <;> first|cases h|skip
 ·exact .b _
 ·exact .i _ _
 ·rename_i s
  have:Den ρ (.s s.data.toList) (.string ⟨s.data.toList.toArray⟩):=.s _
  simpa using this
 ·exact .p0
 ·exact .Vs 0 0
 ·exact .m0
 ·exact .f0
 ·exact .ni
theorem uB:∀ {l:List Value} {vs:List V},Cn l=some vs→aT ρ vs l
 | [],vs,h=>by cases h;exact .nil
 | x::l,vs,h=>by
  unfold Cn at h
  cases h1:Me x with
  | none=>rw [h1] at h;cases h
  | some v =>
   cases h2:Cn l with
   | none=>rw [h1,h2] at h;cases h
   | some r =>
    rw [h1,h2] at h
    cases h
    exact .cons (CA h1) (uB h2)
theorem fM {x:Value} {v:V} (h:Wi x=some v):Den ρ v x:=by
 unfold Wi at h
 split at h
 ·rename_i cs
  cases h2:Cn cs.toList with
  | none=>rw [h2] at h;cases h
  | some r =>
   rw [h2] at h
   cases h
   have:Den ρ (.ag r) (.agg cs.toList.toArray):=.ag (uB h2)
   simpa using this
 ·rename_i cs
  cases h2:Cn cs.toList with
  | none=>rw [h2] at h;cases h
  | some r =>
   rw [h2] at h
   cases h
   have:Den ρ (.t r) (.tuple cs.toList.toArray):=.t (uB h2)
   simpa using this
 ·exact CA h
theorem jI:Den ρ undef Go.undef:=.t .nil
theorem eu {v:V} {x:Value} (h:Den ρ v x):aT ρ v.cells x.cells.toList:=by
 cases h with
 | ag l=>exact l
 | _=>exact .cons (by constructor <;> assumption) .nil
theorem Ic {v:V} {x:Value} (h:Den ρ v x) (h1:v.one=true):x.oneCell'=true:=by
 cases h <;> first|rfl|(cases h1)
end
end E
namespace E
theorem pP:∀ (l:List V) (n:Nat),JZ l n=l[n]?
 | [],_=>rfl
 | v::l,n=>by
  show Bool.rec (motive:=fun _=>Option V) (JZ l (n-1)) (some v) (Nat.beq n 0)=_
  cases n with
  | zero=>rfl
  | succ n =>
   show JZ l n=_
   rw [pP l n]
   simp
theorem lD:∀ (l:List V) (n:Nat),uv l n=l.drop n
 | [],n=>by simp [uv]
 | v::l,n=>by
  show Bool.rec (motive:=fun _=>List V) (uv l (n-1)) (v::l) (Nat.beq n 0)=_
  cases n with
  | zero=>rfl
  | succ n =>
   show uv l n=_
   rw [lD l n]
   simp
theorem eR:∀ {l:List V} {n:Nat} {r:List V},sM l n=some r→r=l.take n∧n≤l.length
 | [],n,r,h=>by
  cases n with
  | zero=>cases h;exact ⟨rfl,Nat.le_refl _⟩
  | succ n=>cases h
 | v::l,n,r,h=>by
  cases n with
  | zero=>cases h;exact ⟨rfl,Nat.zero_le _⟩
  | succ n =>
   replace h:Option.rec (motive:=fun _=>Option (List V)) none (fun r=>some (v::r)) (sM l n)=some r:=h
   cases h2:sM l n with
   | none=>rw [h2] at h;cases h
   | some r' =>
    rw [h2] at h
    cases h
    obtain ⟨rfl,h3⟩:=eR h2
    exact ⟨rfl,by simpa using h3⟩
theorem rC:∀ {vs cs r:List V},Fu vs cs=some r→vs.length≤cs.length∧r=vs++cs.drop vs.length
 | [],cs,r,h=>by cases h;exact ⟨Nat.zero_le _,rfl⟩
 | v::vs,[],r,h=>by cases h
 | v::vs,c::cs,r,h=>by
  replace h:Option.rec (motive:=fun _=>Option (List V)) none (fun r'=>some (v::r')) (Fu vs cs)=some r:=h
  cases h2:Fu vs cs with
  | none=>rw [h2] at h;cases h
  | some r' =>
   rw [h2] at h
   cases h
   obtain ⟨h3,rfl⟩:=rC h2
   exact ⟨by simpa using h3,rfl⟩
theorem rD:∀ {cs:List V} {n:Nat} {vs r:List V},Fv cs n vs=some r→n+vs.length≤cs.length∧r=cs.take n++(vs++cs.drop (n+vs.length))
 | [],n,vs,r,h=>by
  cases n with
  | zero =>
   obtain ⟨h1,rfl⟩:=rC (show Fu vs []=some r from h)
   exact ⟨by simpa using h1,by simp⟩
  | succ n=>cases h
 | c::cs,n,vs,r,h=>by
  cases n with
  | zero =>
   obtain ⟨h1,rfl⟩:=rC (show Fu vs (c::cs)=some r from h)
   exact ⟨by simpa using h1,by simp⟩
  | succ n =>
   replace h:Option.rec (motive:=fun _=>Option (List V)) none (fun r=>some (c::r)) (Fv cs n vs)=some r:=h
   cases h2:Fv cs n vs with
   | none=>rw [h2] at h;cases h
   | some r' =>
    rw [h2] at h
    cases h
    obtain ⟨h3,rfl⟩:=rD h2
    refine ⟨by simp;omega,?_⟩
    rw [show n+1+vs.length=n+vs.length+1 by omega]
    simp
theorem dC {k k':IntKind} (h:kb k k'=true):k=k':=by
 cases k <;> cases k' <;> first|rfl|(exact absurd h vj)
theorem wrap_i64 (n:Int):IntKind.i64.wrap n=if 9223372036854775808≤n % 18446744073709551616 then n % 18446744073709551616-18446744073709551616 else n % 18446744073709551616:=by
 simp [IntKind.wrap,IntKind.bits,IntKind.signed]
theorem wrap_u64 (n:Int):IntKind.u64.wrap n=n % 18446744073709551616:=by
 simp [IntKind.wrap,IntKind.bits,IntKind.signed]
set_option maxRecDepth 100000 in
theorem eU (k:IntKind) (n:Int):jk k n=k.wrap n:=by
 cases k
 case i8=>rfl
 case i16=>rfl
 case i32=>rfl
 case u8=>rfl
 case u16=>rfl
 case u32=>rfl
 case i64 =>
  rw [wrap_i64]
  cases n with
  | ofNat m =>
   simp only [jk]
   cases hb:Nat.ble m 9223372036854775807 with
   | false=>rw [cond_false,wrap_i64]
   | true =>
    have:=Nat.le_of_ble_eq_true hb
    simp only [cond_true,Int.ofNat_eq_natCast]
    split <;> omega
  | negSucc m =>
   simp only [jk]
   cases hb:Nat.ble m 9223372036854775807 with
   | false=>rw [cond_false,wrap_i64]
   | true =>
    have:=Nat.le_of_ble_eq_true hb
    simp only [cond_true,Int.negSucc_eq]
    split <;> omega
 case u64 =>
  rw [wrap_u64]
  cases n with
  | ofNat m =>
   simp only [jk,Int.ofNat_eq_natCast]
   omega
  | negSucc m =>
   simp only [jk,Int.ofNat_eq_natCast,Int.negSucc_eq]
   omega
theorem blt_eq (m n:Nat):Nat.blt m n=decide (m<n):=by
 cases h:Nat.blt m n with
 | true=>exact (decide_eq_true (by simpa [Nat.blt_eq] using h)).symm
 | false=>exact (decide_eq_false (fun hh=>by rw [show Nat.blt m n=true from by simpa [Nat.blt_eq] using hh] at h;cases h)).symm
theorem bE (m n:Nat):Nat.beq m n=decide (m=n):=by
 cases h:Nat.beq m n with
 | true=>exact (decide_eq_true (Nat.eq_of_beq_eq_true h)).symm
 | false=>exact (decide_eq_false (Nat.ne_of_beq_eq_false h)).symm
theorem ig (a b:Int):wV a b=decide (a<b):=by
 cases a with
 | ofNat m =>
  cases b with
  | ofNat n =>
   show Nat.blt m n=_
   rw [blt_eq]
   exact decide_eq_decide.2 (by simp)
  | negSucc n=>exact (decide_eq_false (by rw [Int.negSucc_eq];simp only [Int.ofNat_eq_natCast];omega)).symm
 | negSucc m =>
  cases b with
  | ofNat n=>exact (decide_eq_true (by rw [Int.negSucc_eq];simp only [Int.ofNat_eq_natCast];omega)).symm
  | negSucc n =>
   show Nat.blt n m=_
   rw [blt_eq]
   exact decide_eq_decide.2 (by rw [Int.negSucc_eq,Int.negSucc_eq];omega)
theorem k7 (a b:Int):Mf a b=decide (a=b):=by
 cases a with
 | ofNat m =>
  cases b with
  | ofNat n =>
   show Nat.beq m n=_
   rw [bE]
   exact decide_eq_decide.2 (by simp only [Int.ofNat_eq_natCast];omega)
  | negSucc n=>exact (decide_eq_false (by simp)).symm
 | negSucc m =>
  cases b with
  | ofNat n=>exact (decide_eq_false (by simp)).symm
  | negSucc n =>
   show Nat.beq m n=_
   rw [bE]
   exact decide_eq_decide.2 (by simp)
theorem bp {β:Type} (n:Int) (K:Int→β):cv n K=K n:=by
 unfold cv
 cases n with
 | ofNat m =>
  show (bif Nat.beq m 0 then K (.ofNat 0) else K (.ofNat m))=_
  cases hb:Nat.beq m 0 with
  | true=>rw [Nat.eq_of_beq_eq_true hb];rfl
  | false=>rfl
 | negSucc m =>
  show (bif Nat.beq m 0 then K (.negSucc 0) else K (.negSucc m))=_
  cases hb:Nat.beq m 0 with
  | true=>rw [Nat.eq_of_beq_eq_true hb];rfl
  | false=>rfl
theorem rE {n:Int} {m:Nat} (h:QZ n=some m):n=(m:Int):=by
 cases n <;> cases h
 rfl
def CB (ρ:Rn) (e:V×V×Nat) (m:MapEntry):Prop:=Den ρ e.1 m.key∧Den ρ e.2.1 m.val∧m.born=e.2.2
inductive dM (ρ:Rn):List (V×V×Nat)→List MapEntry→Prop
 | nil:dM ρ [] []
 | cons {e m l r}:CB ρ e m→dM ρ l r→dM ρ (e::l) (m::r)
inductive iL (ρ:Rn):O→Obj→Nat→Prop
 | row {cs opn t xs tl sz}:aT ρ cs xs→(opn=false→tl=[])→(xs++tl).length=sz→iL ρ (.row cs opn t) (.cells (xs++tl).toArray t) sz
 | mp {es clock ms sz}:dM ρ es ms→iL ρ (.mp es clock) (.map ms.toArray clock) sz
 | it0 {since seen st sz}:iL ρ (.it none since seen st) (.mapIter none since seen.toArray st) sz
 | it {r b z since seen st sz}:ρ r=some (b,z)→iL ρ (.it (some r) since seen st) (.mapIter (some b) since seen.toArray st) sz
 | si {l pos sz}:iL ρ (.si l pos) (.stringIter ⟨l.toArray⟩ pos) sz
theorem CB.ext {ρ ρ':Rn} (h:Ext ρ ρ') {e m} (k:CB ρ e m):CB ρ' e m:=⟨k.1.ext h,k.2.1.ext h,k.2.2⟩
theorem dM.ext {ρ ρ':Rn} (h:Ext ρ ρ') {l r} (k:dM ρ l r):dM ρ' l r:=by
 induction k with
 | nil=>exact .nil
 | cons a _ ih=>exact .cons (a.ext h) ih
theorem iL.ext {ρ ρ':Rn} (h:Ext ρ ρ') {o ob sz} (k:iL ρ o ob sz):iL ρ' o ob sz:=by
 cases k with
 | row a b c=>exact .row (a.ext h) b c
 | mp a=>exact .mp (a.ext h)
 | it0=>exact .it0
 | it a=>exact .it (h _ _ a)
 | si=>exact .si
structure Sat (ρ:Rn) (h:H) (w:World):Prop where
 has:∀ n o,at_ h n=some o→∃ b sz ob,ρ n=some (b,sz)∧w.heap[b]?=some ob∧iL ρ o ob sz
 inj:∀ m n b sz sz',at_ h m≠none→at_ h n≠none→ρ m=some (b,sz)→ρ n=some (b,sz')→m=n
def Im (ρ:Rn) (h:H) (b:Nat):Prop:=∃ n sz,at_ h n≠none∧ρ n=some (b,sz)
structure dH (ρ:Rn) (h:H) (nx:Nat) (w:World) (ρ':Rn) (h':H) (aL:Nat) (w':World):Prop where
 ext:Ext ρ ρ'
 sat:Sat ρ' h' w'
 le:nx≤aL
 same:∀ n,n<nx∨aL≤n→ρ' n=ρ n
 os:w'.os=w.os
 tape:w'.tape=w.tape
 output:w'.output=w.output
 size:w.heap.size≤w'.heap.size
 kC:∀ b,b<w.heap.size→¬ Im ρ h b→w'.heap[b]?=w.heap[b]?
 FF:∀ b,b<w.heap.size→Im ρ' h' b→Im ρ h b
section
variable {ρ ρ1 ρ2:Rn} {h h1 h2:H} {nx nx1 nx2:Nat} {w w1 w2:World}
theorem dH.refl (hs:Sat ρ h w) (nx:Nat):dH ρ h nx w ρ h nx w:=⟨Ext.refl ρ,hs,Nat.le_refl _,fun _ _=>rfl,rfl,rfl,rfl,Nat.le_refl _,fun _ _ _=>rfl,fun _ _ k=>k⟩
theorem dH.trans (a:dH ρ h nx w ρ1 h1 nx1 w1) (b:dH ρ1 h1 nx1 w1 ρ2 h2 nx2 w2):dH ρ h nx w ρ2 h2 nx2 w2 where
 ext:=a.ext.trans b.ext
 sat:=b.sat
 le:=Nat.le_trans a.le b.le
 same:=fun n hn=>by
  have:=a.le
  have:=b.le
  rw [b.same n xj,a.same n (by omega)]
 os:=b.os.trans a.os
 tape:=b.tape.trans a.tape
 output:=b.output.trans a.output
 size:=Nat.le_trans a.size b.size
 kC:=fun k hk hi=>(b.kC k (Nat.lt_of_lt_of_le hk a.size) fun hi1=>hi (a.FF k hk hi1)).trans (a.kC k hk hi)
 FF:=fun k hk hi=>a.FF k hk (b.FF k (Nat.lt_of_lt_of_le hk a.size) hi)
theorem Sat.drew (hs:Sat ρ h w):Sat ρ h w.drew:=⟨hs.has,hs.inj⟩
theorem dH.yP (a:dH ρ h nx w.drew ρ1 h1 nx1 w1):dH ρ h nx w ρ1 h1 nx1 w1:=⟨a.ext,a.sat,a.le,a.same,a.os,a.tape,a.output,a.size,a.kC,a.FF⟩
theorem dH.free (a:dH ρ h nx w ρ1 h1 nx1 w1) (hf:∀ n,nx≤n→ρ n=none):∀ n,nx1≤n→ρ1 n=none:=fun n hn=>by
 have:=a.le
 rw [a.same n (.inr hn)]
 exact hf n xj
theorem Sat.lt (hs:Sat ρ h w) {n b sz:Nat} (hn:at_ h n≠none) (hr:ρ n=some (b,sz)):b<w.heap.size:=by
 cases ho:at_ h n with
 | none=>exact absurd ho hn
 | some o =>
  obtain ⟨b',sz',ob,h1,h2,_⟩:=hs.has n o ho
  rw [hr] at h1
  cases h1
  exact (Array.getElem?_eq_some_iff.1 h2).1
theorem dH.change (hs:Sat ρ h w) {n b sz:Nat} {o':O} {ob':Obj} (hn:at_ h n≠none) (hr:ρ n=some (b,sz)) (hb:w1.heap[b]?=some ob') (ho:iL ρ o' ob' sz)
  (hx:∀ k,k≠b→w1.heap[k]?=w.heap[k]?) (hz:w1.heap.size=w.heap.size) (e1:w1.os=w.os) (e2:w1.tape=w.tape) (e3:w1.output=w.output):dH ρ h nx w ρ (dL h n (some o')) nx w1 where
 ext:=Ext.refl ρ
 sat:=by
  have key:∀ m,at_ (dL h n (some o')) m≠none→at_ h m≠none:=fun m hm=>by
   rw [cg] at hm
   split at hm
   ·rename_i e;rw [e];exact hn
   ·exact hm
  refine ⟨fun m o hm=>?_,fun m1 m2 b1 s1 s2 h1 h2=>hs.inj m1 m2 b1 s1 s2 (key m1 h1) (key m2 h2)⟩
  rw [cg] at hm
  split at hm
  ·rename_i e
   cases hm
   rw [e]
   exact ⟨b,sz,ob',hr,hb,ho⟩
  ·rename_i e
   obtain ⟨b',sz',ob,h1,h2,h3⟩:=hs.has m o hm
   refine ⟨b',sz',ob,h1,?_,h3⟩
   rw [hx b' ?_]
   ·exact h2
   ·rintro rfl
    exact e (hs.inj m n b' sz' sz (by rw [hm];simp) hn h1 hr)
 le:=Nat.le_refl _
 same:=fun _ _=>rfl
 os:=e1
 tape:=e2
 output:=e3
 size:=by omega
 kC:=fun k _ hi=>hx k (by rintro rfl;exact hi ⟨n,sz,hn,hr⟩)
 FF:=fun k _ ⟨m,s,hm,hr'⟩=>by
  refine ⟨m,s,?_,hr'⟩
  rw [cg] at hm
  split at hm
  ·rename_i e;rw [e];exact hn
  ·exact hm
def nU (ρ:Rn) (n:Nat) (x:Nat×Nat):Rn:=fun m=>if m=n then some x else ρ m
theorem dp {n:Nat} {x:Nat×Nat} (hn:ρ n=none):Ext ρ (nU ρ n x):=fun m y hm=>by
 unfold nU
 split
 ·rename_i e;rw [e,hn] at hm;cases hm
 ·exact hm
theorem cQ (ρ:Rn) (n:Nat) (x:Nat×Nat):nU ρ n x n=some x:=if_pos rfl
theorem rF (ρ:Rn) {m n:Nat} (x:Nat×Nat) (h:m≠n):nU ρ n x m=ρ m:=if_neg h
theorem Sat.alloc (hs:Sat ρ h w) {n sz:Nat} {o:O} {ob:Obj} (hn:ρ n=none) (ho:iL (nU ρ n (w.heap.size,sz)) o ob sz):Sat (nU ρ n (w.heap.size,sz)) (dL h n (some o)) (w.alloc ob) where
 has:=fun m o' hm=>by
  rw [cg] at hm
  split at hm
  ·rename_i e
   cases hm
   rw [e]
   exact ⟨_,_,ob,cQ _ _ _,heap_alloc_new w _,ho⟩
  ·rename_i e
   obtain ⟨b',sz',ob',h1,h2,h3⟩:=hs.has m o' hm
   exact ⟨b',sz',ob',dp hn m _ h1,(Below.heap_alloc w _ b' (Array.getElem?_eq_some_iff.1 h2).1).trans h2,h3.ext (dp hn)⟩
 inj:=fun m1 m2 b s s' h1 h2 r1 r2=>by
  rw [cg] at h1 h2
  unfold nU at r1 r2
  by_cases e1:m1=n <;> by_cases e2:m2=n
  ·rw [e1,e2]
  ·rw [if_pos e1] at r1
   rw [if_neg e2] at r2 h2
   cases r1
   exact absurd (hs.lt h2 r2) (Nat.lt_irrefl _)
  ·rw [if_pos e2] at r2
   rw [if_neg e1] at r1 h1
   cases r2
   exact absurd (hs.lt h1 r1) (Nat.lt_irrefl _)
  ·rw [if_neg e1] at r1 h1
   rw [if_neg e2] at r2 h2
   exact hs.inj m1 m2 b s s' h1 h2 r1 r2
theorem dH.alloc (hs:Sat ρ h w) (hf:ρ nx=none) {sz:Nat} {o:O} {ob:Obj} (ho:iL (nU ρ nx (w.heap.size,sz)) o ob sz):dH ρ h nx w (nU ρ nx (w.heap.size,sz)) (dL h nx (some o)) (nx+1) (w.alloc ob) where
 ext:=dp hf
 sat:=hs.alloc hf ho
 le:=Nat.le_succ _
 same:=fun n hn=>rF _ _ xj
 os:=rfl
 tape:=rfl
 output:=rfl
 size:=by simp
 kC:=fun b hb _=>Below.heap_alloc w _ b hb
 FF:=fun b hb ⟨m,s,hm,hr⟩=>by
  rw [cg] at hm
  unfold nU at hr
  by_cases e:m=nx
  ·rw [if_pos e] at hr
   cases hr
   exact absurd hb (Nat.lt_irrefl _)
  ·rw [if_neg e] at hr hm
   exact ⟨m,s,hm,hr⟩
theorem Sat.del (hs:Sat ρ h w) (n:Nat):Sat ρ (dL h n none) w where
 has:=fun m o hm=>by
  rw [cg] at hm
  split at hm
  ·cases hm
  ·exact hs.has m o hm
 inj:=fun m1 m2 b s s' h1 h2=>by
  rw [cg] at h1 h2
  split at h1
  ·exact absurd rfl h1
  ·split at h2
   ·exact absurd rfl h2
   ·exact hs.inj m1 m2 b s s' h1 h2
theorem FE {n b:Nat} (hi:Im ρ (dL h n none) b):Im ρ h b:=by
 obtain ⟨m,s,hm,hr⟩:=hi
 rw [cg] at hm
 split at hm
 ·exact absurd rfl hm
 ·exact ⟨m,s,hm,hr⟩
theorem dH.del (hs:Sat ρ h w) (n:Nat):dH ρ h nx w ρ (dL h n none) nx w:=⟨Ext.refl ρ,hs.del n,Nat.le_refl _,fun _ _=>rfl,rfl,rfl,rfl,Nat.le_refl _,fun _ _ _=>rfl,fun _ _ hi=>FE hi⟩
theorem dH.rename (hs:Sat ρ h w) (hf:ρ nx=none) {n b sz:Nat} {o':O} {ob':Obj} (hn:at_ h n≠none) (hr:ρ n=some (b,sz)) (hb:w1.heap[b]?=some ob') (ho:iL (nU ρ nx (b,sz)) o' ob' sz)
  (hx:∀ k,k≠b→w1.heap[k]?=w.heap[k]?) (hz:w1.heap.size=w.heap.size) (e1:w1.os=w.os) (e2:w1.tape=w.tape) (e3:w1.output=w.output):dH ρ h nx w (nU ρ nx (b,sz)) (dL (dL h n none) nx (some o')) (nx+1) w1 where
 ext:=dp hf
 sat:=by
  refine ⟨fun m o hm=>?_,fun m1 m2 b1 s1 s2 h1 h2 r1 r2=>?_⟩
  ·rw [cg] at hm
   split at hm
   ·rename_i e
    cases hm
    rw [e]
    exact ⟨b,sz,ob',cQ _ _ _,hb,ho⟩
   ·rw [cg] at hm
    split at hm
    ·cases hm
    ·rename_i e
     obtain ⟨b',sz',ob,h1,h2,h3⟩:=hs.has m o hm
     refine ⟨b',sz',ob,dp hf m _ h1,?_,h3.ext (dp hf)⟩
     rw [hx b' ?_]
     ·exact h2
     ·rintro rfl
      exact e (hs.inj m n b' sz' sz (by rw [hm];simp) hn h1 hr)
  ·have key:∀ m,m≠nx→at_ (dL (dL h n none) nx (some o')) m≠none→m≠n∧at_ h m≠none:=fun m e hm=>by
    rw [cg,if_neg e,cg] at hm
    split at hm
    ·exact absurd rfl hm
    ·rename_i e';exact ⟨e',hm⟩
   unfold nU at r1 r2
   by_cases f1:m1=nx <;> by_cases f2:m2=nx
   ·rw [f1,f2]
   ·rw [if_pos f1] at r1
    rw [if_neg f2] at r2
    cases r1
    obtain ⟨g1,g2⟩:=key m2 f2 h2
    exact absurd (hs.inj m2 n b _ _ g2 hn r2 hr) g1
   ·rw [if_pos f2] at r2
    rw [if_neg f1] at r1
    cases r2
    obtain ⟨g1,g2⟩:=key m1 f1 h1
    exact absurd (hs.inj m1 n b _ _ g2 hn r1 hr) g1
   ·rw [if_neg f1] at r1
    rw [if_neg f2] at r2
    exact hs.inj m1 m2 b1 s1 s2 (key m1 f1 h1).2 (key m2 f2 h2).2 r1 r2
 le:=Nat.le_succ _
 same:=fun m hm=>rF _ _ xj
 os:=e1
 tape:=e2
 output:=e3
 size:=by omega
 kC:=fun k _ hi=>hx k (by rintro rfl;exact hi ⟨n,sz,hn,hr⟩)
 FF:=fun k _ ⟨m,s,hm,hr'⟩=>by
  unfold nU at hr'
  by_cases e:m=nx
  ·rw [if_pos e] at hr'
   cases hr'
   exact ⟨n,sz,hn,hr⟩
  ·rw [if_neg e] at hr'
   rw [cg,if_neg e] at hm
   exact FE ⟨m,s,hm,hr'⟩
end
end E
end Go.Proofs.YtlmabdegojeheaaGreatDoor
