/- WholeTurned: parts of its proof (Eb Ec). -/
import Derived.Test.YtlmabdegojeheaaGreatDoorEa
namespace Go.Proofs.YtlmabdegojeheaaGreatDoor
open R
namespace E
mutual
noncomputable def oZ:V→V→Bool
 | .b x,.b y=>x == y
 | .i k x,.i k' y=>kb k k'&&Me x y
 | .s x,.s y=>x == y
 | .p x,.p y=>decide (x=y)
 | .sl x n (.k c),.sl y n' (.k c')=>decide (x=y)&&(Nat.beq n n'&&Nat.beq c c')
 | .sl x n (.u c),.sl y n' (.u c')=>decide (x=y)&&(Nat.beq n n'&&Nat.beq c c')
 | .sl x n .x,.sl y n' .x=>decide (x=y)&&Nat.beq n n'
 | .m x,.m y=>decide (x=y)
 | .f fn x y,.f fn' x' y'=>decide (fn=fn')&&(uz x x'&&uz y y')
 | .f0,.f0=>true
 | .ni,.ni=>true
 | .ag x,.ag y=>uz x y
 | .t x,.t y=>uz x y
 | _,_=>false
noncomputable def uz:List V→List V→Bool
 | [],[]=>true
 | x::l,y::r=>oZ x y&&uz l r
 | _,_=>false
end
abbrev dB:=Nat→List V→H→Nat→HR
inductive CI where
 | mk (ins:I) (dst:Option (List Dg)) (guard:Option (List Dg×Bool))
section
variable (P:Program)
noncomputable def cG (ops:List Oper):Option (Nat×Bool)→Option (Option (List Dg×Bool))
 | none=>some none
 | some (j,b)=>match ops[j]? with
  | some oj=>(match oj.dst with|some d=>some (some (path d,b))|none=>none)
  | none=>none
noncomputable def R4 (n:Nat) (ops:List Oper) (o:Oper):Option CI :=
 match cJ P o.op,cG ops o.guard with
 | some ins,some g=>(match o.dst with
  | none=>some (.mk ins none g)
  | some d=>bif Nat.blt d n then some (.mk ins (some (path d)) g) else none)
 | _,_=>none
noncomputable def mj {β:Type} (d:Option (List Dg)) (fr:F) (v:V) (K:F→β):β:=Option.rec (motive:=fun _=>β) (K fr) (fun p=>dE p fr (some v) K) d
noncomputable def Z2 (b:Bool) (v:V):Bool:=match v with|.b c=>c == b|_=>false
noncomputable def Ia (fr:F) (g:Option (List Dg×Bool)):Option Bool:=Option.rec (motive:=fun _=>Option Bool) (some true) (fun g=>Prod.rec (motive:=fun _=>Option Bool) (fun p b=>Option.rec (motive:=fun _=>Option Bool) none (fun v=>some (Z2 b v)) (jc p fr)) g) g
noncomputable def Mp (fr:F) (x:cu):Option V:=cu.rec (motive:=fun _=>Option V) (fun p=>jc p fr) (fun v=>some v) x
noncomputable def J5 (fr:F) (l:List cu):Option (List V):=List.rec (motive:=fun _=>Option (List V)) (some []) (fun x _ ih=>Option.rec (motive:=fun _=>Option (List V)) none (fun v=>Option.rec (motive:=fun _=>Option (List V)) none (fun r=>some (v::r)) ih) (Mp fr x)) l
noncomputable def look (ins:I) (fr:F) (h:H):Option V:=I.rec (motive:=fun _=>Option V)
 (fun x f=>Option.rec (motive:=fun _=>Option V) none f (Mp fr x))
 (fun x y f=>Option.rec (motive:=fun _=>Option V) none (fun u=>Option.rec (motive:=fun _=>Option V) none (fun v=>f u v) (Mp fr y)) (Mp fr x))
 (fun x f=>Option.rec (motive:=fun _=>Option V) none (fun v=>f h v) (Mp fr x))
 (fun xs f=>Option.rec (motive:=fun _=>Option V) none f (J5 fr xs))
 (fun c a b=>Option.rec (motive:=fun _=>Option V) none (fun v=>match v with|.b t=>Mp fr (bif t then a else b)|_=>none) (Mp fr c))
 (fun xs f=>Option.rec (motive:=fun _=>Option V) none (fun vs=>f h vs) (J5 fr xs))
 (fun _ _=>none) (fun _ _=>none) (fun _ _=>none) ins
noncomputable def J6 (call:dB) (ins:I) (fr:F) (h:H) (nx:Nat):HR:=I.rec (motive:=fun _=>HR)
 (fun _ _=>none) (fun _ _ _=>none) (fun _ _=>none) (fun _ _=>none) (fun _ _ _=>none) (fun _ _=>none) (fun _ _=>none)
 (fun xs f=>Option.rec (motive:=fun _=>HR) none (fun vs=>f h nx vs) (J5 fr xs))
 (fun fn xs=>Option.rec (motive:=fun _=>HR) none (fun v=>match v with
  | .f (.func g) first cap=>Option.rec (motive:=fun _=>HR) none (fun vs=>call g (first++(vs++cap)) h nx) (J5 fr xs)
  | _=>none) (Mp fr fn)) ins
noncomputable def news (ins:I) (fr:F) (nm:Nat):Option (V×O):=I.rec (motive:=fun _=>Option (V×O))
 (fun _ _=>none) (fun _ _ _=>none) (fun _ _=>none) (fun _ _=>none) (fun _ _ _=>none) (fun _ _=>none)
 (fun xs f=>Option.rec (motive:=fun _=>Option (V×O)) none (fun vs=>f nm vs) (J5 fr xs))
 (fun _ _=>none) (fun _ _=>none) ins
inductive Cl where|q|a|e
noncomputable def gz (ins:I):Cl:=I.rec (motive:=fun _=>Cl) (fun _ _=>.q) (fun _ _ _=>.q) (fun _ _=>.q) (fun _ _=>.q) (fun _ _ _=>.q) (fun _ _=>.q) (fun _ _=>.a) (fun _ _=>.e) (fun _ _=>.e) ins
abbrev RR:=Option (F×H×Nat)
noncomputable def Mq (call:dB) (ins:I) (dst:Option (List Dg)) (fr:F) (h:H) (nx:Nat) (K:F→H→Nat→RR):RR :=
 Cl.rec (motive:=fun _=>RR)
  (Option.rec (motive:=fun _=>RR) none (fun v=>mj dst fr v fun fr'=>K fr' h nx) (look ins fr h))
  (Option.rec (motive:=fun _=>RR) none (fun r=>Prod.rec (motive:=fun _=>RR) (fun v x=>h.dE nx x fun h'=>mj dst fr v fun fr'=>K fr' h' (nx+1)) r) (news ins fr nx))
  (Option.rec (motive:=fun _=>RR) none (fun r=>Prod.rec (motive:=fun _=>RR) (fun v r=>Prod.rec (motive:=fun _=>RR) (fun h' aL=>mj dst fr v fun fr'=>K fr' h' aL) r) r) (J6 call ins fr h nx)) (gz ins)
noncomputable def R5 (n:Nat) (call:dB) (ops:List Oper) (l:List Oper):F→H→Nat→RR :=
 List.rec (motive:=fun _=>F→H→Nat→RR) (fun fr h nx=>some (fr,h,nx)) (fun o _ ih fr h nx =>
  Option.rec (motive:=fun _=>RR) none (fun c=>CI.rec (motive:=fun _=>RR) (fun ins dst g =>
   Option.rec (motive:=fun _=>RR) none (fun b=>Bool.rec (motive:=fun _=>RR) (mj dst fr undef fun fr'=>ih fr' h nx) (Mq call ins dst fr h nx ih) b) (Ia fr g)) c) (R4 P n ops o)) l
noncomputable def tb (m n:Nat):Bool:=Nat.beq (Nat.land (Nat.shiftRight m n) 1) 1
noncomputable def df (acc:List Nat):List Edge→Nat
 | []=>0
 | e::l=>bif Region.binds .any e then 2 ^ e.on||| (acc.getD e.on 0||| df acc l) else df acc l
noncomputable def dT:List Oper→List Nat→List Nat
 | [],acc=>acc
 | o::l,acc=>dT l (acc++[df acc o.after.toList])
noncomputable def fZ (ops:List Oper):List Nat:=dT ops []
noncomputable def isE (n:Nat) (ops:List Oper) (o:Oper):Bool:=match R4 P n ops o with|some (.mk (.e _ _) _ _)=>true|some (.mk (.c _ _) _ _)=>true|_=>false
noncomputable def slotsOf (o:Oper) (ops:List Oper):List Nat :=
 (o.op.operands.toList.filterMap fun x=>match x with|.tmp t=>some t|_=>none)++(match o.guard with|some (j,_)=>(match ops[j]? with|some oj=>oj.dst.toList|none=>[])|none=>[])
noncomputable def kL (ops:List Oper):Bool :=
 (List.range ops.length).all fun i=>(List.range ops.length).all fun j=>Nat.beq i j ||
  match ops[i]?,ops[j]? with
  | some oi,some oj=>(match oj.dst with
   | some d=>(match oi.dst with|some d'=>!Nat.beq d d'|none=>true)&&(!(slotsOf oi ops).contains d||((fZ ops).getD i 0).testBit j||((fZ ops).getD j 0).testBit i)
   | none=>true)
  | _,_=>false
noncomputable def fO {β:Type} (n:Nat) (K:Nat→β):β:=Nat.rec (motive:=fun _=>β) (K 0) (fun k _=>K (Nat.succ k)) n
noncomputable def kB (x:Option Nat):Nat:=Option.rec (motive:=fun _=>Nat) 0 (fun n=>n) x
noncomputable def o4 (t:Tr Nat) (l:List Edge):Nat:=List.rec (motive:=fun _=>Nat) 0 (fun e _ ih=>bif Region.binds .any e then Nat.lor (Nat.pow 2 e.on) (Nat.lor (kB (jc (path e.on) t)) ih) else ih) l
noncomputable def oR (l:List Oper):Nat→Tr Nat→Tr Nat:=List.rec (motive:=fun _=>Nat→Tr Nat→Tr Nat) (fun _ t=>t) (fun o _ ih i t=>fO (o4 t o.after.toList) fun m=>dE (path i) t (some m) fun t'=>ih (Nat.succ i) t') l
noncomputable def LV (l:List Oper):Nat→Tr Nat→Option (Tr Nat):=List.rec (motive:=fun _=>Nat→Tr Nat→Option (Tr Nat)) (fun _ t=>some t) (fun o _ ih i t =>
 Option.rec (motive:=fun _=>Option (Tr Nat)) (ih (Nat.succ i) t) (fun d=>Option.rec (motive:=fun _=>Option (Tr Nat)) (dE (path d) t (some i) fun t'=>ih (Nat.succ i) t') (fun _=>none) (jc (path d) t)) o.dst) l
noncomputable def na (mT wT:Tr Nat) (i:Nat) (l:List Nat):Bool:=List.rec (motive:=fun _=>Bool) true (fun t _ ih=>Option.rec (motive:=fun _=>Bool) ih (fun j=>Bool.rec (motive:=fun _=>Bool) (Bool.rec (motive:=fun _=>Bool) (Bool.rec (motive:=fun _=>Bool) false ih (tb (kB (jc (path j) mT)) i)) ih (tb (kB (jc (path i) mT)) j)) ih (Nat.beq i j)) (jc (path t) wT)) l
noncomputable def Mr (ops:List Oper) (mT wT:Tr Nat) (l:List Oper):Nat→Bool:=List.rec (motive:=fun _=>Nat→Bool) (fun _=>true) (fun o _ ih i=>Bool.rec (motive:=fun _=>Bool) false (ih (Nat.succ i)) (na mT wT i (slotsOf o ops))) l
noncomputable def Fz (ops:List Oper) (mT:Tr Nat):Bool:=Option.rec (motive:=fun _=>Bool) false (fun wT=>Mr ops mT wT ops 0) (LV ops 0 .e)
noncomputable def Vo (fuel:Nat):Nat→Nat→List Nat:=Nat.rec (motive:=fun _=>Nat→Nat→List Nat) (fun _ _=>[]) (fun _ ih d i=>bif Nat.beq d 0 then [] else fO (Nat.shiftRight d 1) fun d'=>bif Nat.beq (Nat.land d 1) 1 then i::ih d' (Nat.succ i) else ih d' (Nat.succ i)) fuel
noncomputable def WG (f:Nat→Nat) (n:Nat) (l:List Nat):Nat→List Nat:=List.rec (motive:=fun _=>Nat→List Nat) (fun done=>Vo n (Nat.xor (Nat.sub (Nat.pow 2 n) 1) done) 0)
 (fun e _ ih done=>fO (f e) fun m=>fO (Nat.xor m (Nat.land m done)) fun d=>Vo n d 0++e::fO (Nat.lor done (Nat.lor m (Nat.pow 2 e))) ih) l
noncomputable def adf (n:Nat) (ops l:List Oper):Nat→List Nat:=List.rec (motive:=fun _=>Nat→List Nat) (fun _=>[]) (fun o _ ih i=>bif isE P n ops o then i::ih (Nat.succ i) else ih (Nat.succ i)) l
noncomputable def Mu (n:Nat) (ops:List Oper):Option (List (Nat×Nat×CI)) :=
 (fun mT=>bif Fz ops mT then (WG (fun e=>kB (jc (path e) mT)) ops.length (adf P n ops ops 0) 0).foldr (fun i r=>match r,ops[i]? with
  | some l,some o=>(match R4 P n ops o with|some c=>some ((i,kB (jc (path i) mT),c)::l)|none=>none)
  | _,_=>none) (some []) else none) (oR ops 0 .e)
noncomputable def o5 (f:H→Option V) (v:V) (mask:Nat):List (Nat×H)→H→Bool
 | [],h=>(match f h with|some u=>oZ u v|none=>false)
 | (e,h)::l,h0=>(match f h with|some u=>oZ u v|none=>false)&&(tb mask e||o5 f v mask l h0)
noncomputable def isL (ins:I):Bool:=match ins with|.l _ _=>true|.l1 _ _=>true|_=>false
noncomputable def FA (call:dB) (base:Nat) (h0:H) (l:List (Nat×Nat×CI)):Nat→F→H→List (Nat×H)→Nat→RR :=
 List.rec (motive:=fun _=>Nat→F→H→List (Nat×H)→Nat→RR) (fun _ fr cur _ nx=>some (fr,cur,nx)) (fun c _ ih done fr cur past nx =>
  Prod.rec (motive:=fun _=>RR) (fun i c=>Prod.rec (motive:=fun _=>RR) (fun mask c=>CI.rec (motive:=fun _=>RR) (fun ins dst g =>
   Bool.rec (motive:=fun _=>RR) (Option.rec (motive:=fun _=>RR) none (fun b=>Cl.rec (motive:=fun _=>RR)
    (Bool.rec (motive:=fun _=>RR) (mj dst fr undef fun fr'=>ih (Nat.lor done (Nat.pow 2 i)) fr' cur past nx)
     (Option.rec (motive:=fun _=>RR) none (fun v=>Bool.rec (motive:=fun _=>RR) none (mj dst fr v fun fr'=>ih (Nat.lor done (Nat.pow 2 i)) fr' cur past nx) (!isL ins||o5 (look ins fr) v mask past h0)) (look ins fr (match past with|[]=>h0|(_,h)::_=>h))) b)
    (Bool.rec (motive:=fun _=>RR) (mj dst fr undef fun fr'=>ih (Nat.lor done (Nat.pow 2 i)) fr' cur past nx)
     (Option.rec (motive:=fun _=>RR) none (fun r=>Prod.rec (motive:=fun _=>RR) (fun v x=>cur.dE (base+i) x fun k9=>mj dst fr v fun fr'=>ih (Nat.lor done (Nat.pow 2 i)) fr' k9 past nx) r) (news ins fr (base+i))) b)
    (Bool.rec (motive:=fun _=>RR) none (Bool.rec (motive:=fun _=>RR) (mj dst fr undef fun fr'=>ih (Nat.lor done (Nat.pow 2 i)) fr' cur ((i,cur)::past) nx)
     (Option.rec (motive:=fun _=>RR) none (fun r=>Prod.rec (motive:=fun _=>RR) (fun v r=>Prod.rec (motive:=fun _=>RR) (fun h' aL=>mj dst fr v fun fr'=>ih (Nat.lor done (Nat.pow 2 i)) fr' h' ((i,h')::past) aL) r) r) (J6 call ins fr cur nx)) b) (Nat.beq done mask)) (gz ins)) (Ia fr g))
    none (tb done i||!Nat.beq (Nat.land mask done) mask)) c) c) c) l
noncomputable def R7 (n:Nat) (call:dB) (ops:List Oper) (fr:F) (h:H) (nx:Nat):Option (F×H×Nat) :=
 match Mu P n ops with
 | some l=>bif Nat.beq l.length ops.length then FA call nx h l 0 fr h [] (nx+ops.length) else none
 | none=>none
inductive Ex where
 | n
 | x (id:Nat)
 | r
abbrev XR:=Option (Ex×F×H×Nat)
noncomputable def WI (x:XR) (K:Ex→F→H→Nat→XR):XR:=Option.rec (motive:=fun _=>XR) none (fun r=>Prod.rec (motive:=fun _=>XR) (fun e r=>Prod.rec (motive:=fun _=>XR) (fun fr r=>Prod.rec (motive:=fun _=>XR) (fun h nx=>K e fr h nx) r) r) r) x
noncomputable def onR (x:RR) (K:F→H→Nat→XR):XR:=Option.rec (motive:=fun _=>XR) none (fun r=>Prod.rec (motive:=fun _=>XR) (fun fr r=>Prod.rec (motive:=fun _=>XR) (fun h nx=>K fr h nx) r) r) x
noncomputable def Cx (body:F→H→Nat→XR) (m:Nat):F→H→Nat→XR:=Nat.rec (motive:=fun _=>F→H→Nat→XR) (fun _ _ _=>none)
 (fun _ ih fr h nx=>WI (body fr h nx) fun e fr' h' aL=>Ex.rec (motive:=fun _=>XR) (ih fr' h' aL) (fun id=>some (.x id,fr',h',aL)) (some (.r,fr',h',aL)) e) m
noncomputable def exec (n:Nat) (call:dB) (c:Code):F→H→Nat→XR :=
 Code.rec (motive:=fun _=>F→H→Nat→XR)
  (fun fr h nx=>some (.n,fr,h,nx))
  (fun _ ops draw fr h nx=>onR (bif draw then R7 P n call ops.toList fr h nx else R5 P n call ops.toList ops.toList fr h nx) fun fr' h' aL=>some (.n,fr',h',aL))
  (fun _ _ ia ib fr h nx=>WI (ia fr h nx) fun e fr' h' aL=>Ex.rec (motive:=fun _=>XR) (ib fr' h' aL) (fun id=>some (.x id,fr',h',aL)) (some (.r,fr',h',aL)) e)
  (fun c _ _ ia ib fr h nx=>Option.rec (motive:=fun _=>XR) none (fun x=>Option.rec (motive:=fun _=>XR) none (fun v=>match v with|.b t=>Bool.rec (motive:=fun _=>XR) (ib fr h nx) (ia fr h nx) t|_=>none) (Mp fr x)) (cO c))
  (fun id _ ih fr h nx=>WI (ih fr h nx) fun e fr' h' aL=>Ex.rec (motive:=fun _=>XR) (some (.n,fr',h',aL)) (fun j=>bif Nat.beq j id then some (.n,fr',h',aL) else some (.x j,fr',h',aL)) (some (.r,fr',h',aL)) e)
  (fun _ ih fr h nx=>Cx ih 100000 fr h nx)
  (fun _ _ _ _ _ _ _ _ _=>none)
  (fun id fr h nx=>some (.x id,fr,h,nx))
  (fun _ _ _ _ _=>none)
  (fun _ fr h nx=>some (.n,fr,h,nx))
  (fun _ _ _ _=>none)
  (fun fr h nx=>some (.r,fr,h,nx))
  (fun _ _ _ _=>none) c
noncomputable def FB (fr:F) (h:H):List ResultVar→Option (List V)
 | []=>some []
 | .tmp t::l=>(match jc (path t) fr,FB fr h l with|some v,some r=>some (v::r)|_,_=>none)
 | .cell a t::l=>(match jc (path a) fr,aY P t,ct P t,FB fr h l with
  | some v,some ag,some sz,some r=>(match (bif ag then uw sz h v else ux h v) with|some u=>some (u::r)|none=>none)
  | _,_,_,_=>none)
noncomputable def one (vs:List V):V:=match vs with|[v]=>v|l=>.t l
noncomputable def frK {β:Type} (l:List V):Nat→F→(F→β)→β:=List.rec (motive:=fun _=>Nat→F→(F→β)→β) (fun _ fr K=>K fr) (fun v _ ih t fr K=>dE (path t) fr (some v) fun fr'=>ih (t+1) fr' K) l
noncomputable def tB (rs:List ResultVar) (fr:F) (h:H) (nx:Nat):HR:=match FB P fr h rs with|some l=>some (one l,h,nx)|none=>none
noncomputable def Ib (call:dB) (fn:Func) (as_:List V) (h:H) (nx:Nat):HR:=match fn.body with
 | none=>none
 | some c=>bif Nat.ble as_.length fn.ntmps then frK as_ 0 .e fun fr=>(match exec P fn.ntmps call c fr h nx with
  | some (.r,fr',h',aL)=>tB P fn.results.toList fr' h' aL
  | some (.n,fr',h',aL)=>tB P fn.results.toList fr' h' aL
  | _=>none) else none
noncomputable def Cy (fns:Nat→Option Func) (prim:Nat→Option (List V→H→Nat→HR)) (m:Nat):dB:=Nat.rec (motive:=fun _=>dB) (fun _ _ _ _=>none)
 (fun _ ih g as_ h nx=>Option.rec (motive:=fun _=>HR) (Option.rec (motive:=fun _=>HR) none (fun fn=>Ib P ih fn as_ h nx) (fns g)) (fun f=>f as_ h nx) (prim g)) m
end
end E
namespace E
open Go.RowKit
inductive Q4 where|a|b|c|d
def dg:Q4→Dg
 | .a=>dga|.b=>dgb|.c=>dgc|.d=>dgd
def qi (n:Nat):Q4:=bif Nat.beq n 0 then .a else bif Nat.beq n 1 then .b else bif Nat.beq n 2 then .c else .d
theorem WJ (n:Nat):dgi n=dg (qi n):=by
 unfold dgi qi
 cases Nat.beq n 0 <;> cases Nat.beq n 1 <;> cases Nat.beq n 2 <;> rfl
def R8:Nat→Nat→List Q4
 | 0,_=>[]
 | f+1,n=>bif Nat.beq n 0 then [] else qi (n % 4)::R8 f (n / 4)
theorem Cz:∀ f n,Mc f n=(R8 f n).map dg
 | 0,_=>rfl
 | f+1,n=>by
  show (bif Nat.beq n 0 then [] else dgi (n % 4)::Mc f (n / 4))=_
  unfold R8
  cases Nat.beq n 0
  ·simp [Cz f,WJ]
  ·rfl
theorem WK {m n:Nat} (hm:m<4) (hn:n<4) (h:qi m=qi n):m=n:=by
 have h1:m=0∨m=1∨m=2∨m=3:=by omega
 have h2:n=0∨n=1∨n=2∨n=3:=by omega
 rcases h1 with rfl|rfl|rfl|rfl <;> rcases h2 with rfl|rfl|rfl|rfl <;> first|rfl|(exfalso;revert h;simp [qi,Nat.beq])
theorem R9:∀ f g m n,m≤f→n≤g→R8 f m=R8 g n→m=n:=by
 intro f
 induction f with
 | zero =>
  intro g m n hm hn h
  obtain rfl:m=0:=by omega
  cases g with
  | zero=>omega
  | succ g =>
   unfold R8 at h
   cases hb:Nat.beq n 0 with
   | true=>exact (Nat.eq_of_beq_eq_true hb).symm
   | false=>rw [hb] at h;cases h
 | succ f ih =>
  intro g m n hm hn h
  cases g with
  | zero =>
   obtain rfl:n=0:=by omega
   unfold R8 at h
   cases hb:Nat.beq m 0 with
   | true=>exact Nat.eq_of_beq_eq_true hb
   | false=>rw [hb] at h;cases h
  | succ g =>
   unfold R8 at h
   cases hb:Nat.beq m 0 with
   | true =>
    rw [hb] at h
    cases hc:Nat.beq n 0 with
    | true=>rw [Nat.eq_of_beq_eq_true hb,Nat.eq_of_beq_eq_true hc]
    | false=>rw [hc] at h;cases h
   | false =>
    rw [hb] at h
    cases hc:Nat.beq n 0 with
    | true=>rw [hc] at h;cases h
    | false =>
     rw [hc] at h
     simp only [cond_false,List.cons.injEq] at h
     have h1:=WK (Nat.mod_lt _ vj) (Nat.mod_lt _ vj) h.1
     have hm0:m≠0:=Nat.ne_of_beq_eq_false hb
     have hn0:n≠0:=Nat.ne_of_beq_eq_false hc
     have h2:=ih g (m / 4) (n / 4) xj xj h.2
     omega
def qs (n:Nat):List Q4:=R8 n n
theorem yO (n:Nat):path n=(qs n).map dg:=Cz n n
theorem WM {m n:Nat} (h:qs m=qs n):m=n:=R9 m n m n (Nat.le_refl _) (Nat.le_refl _) h
section
variable {α β:Type}
noncomputable def mU (p:List Dg) (t:Tr α) (x:Option α):Tr α:=dE p t x fun r=>r
theorem o6 (p:List Dg):jc p (.e:Tr α)=none:=by cases p <;> rfl
theorem uA (x:Option α) (a b c d:Tr α):jc [] (.n x a b c d)=x:=rfl
theorem lC (q:Dg) (p:List Dg) (x:Option α) (a b c d:Tr α):jc (q::p) (.n x a b c d)=jc p (q.H9 a b c d):=rfl
theorem nb:∀ (p:List Dg) (β:Type) (t:Tr α) (x:Option α) (K:Tr α→β),dE p t x K=K (mU p t x)
 | [],_,.e,_,_=>rfl
 | [],_,.n _ _ _ _ _,_,_=>rfl
 | q::p,β,.e,x,K=>(nb p β .e x fun r=>K (q.up none r .e .e .e .e)).trans (congrArg K (nb p _ .e x (fun r=>q.up none r .e .e .e .e)).symm)
 | q::p,β,.n y a b c d,x,K=>(nb p β (q.H9 a b c d) x fun r=>K (q.up y r a b c d)).trans (congrArg K (nb p _ (q.H9 a b c d) x (fun r=>q.up y r a b c d)).symm)
theorem jt (p:List Dg) (t:Tr α) (x:Option α) (K:Tr α→β):dE p t x K=K (mU p t x):=nb p β t x K
theorem nf (q:Dg) (p:List Dg) (x:Option α):mU (q::p) (.e:Tr α) x=q.up none (mU p .e x) .e .e .e .e:=by
 show dE p .e x (fun r=>q.up none r .e .e .e .e)=_
 rw [jt]
theorem ng (q:Dg) (p:List Dg) (y x:Option α) (a b c d:Tr α):mU (q::p) (.n y a b c d) x=q.up y (mU p (q.H9 a b c d) x) a b c d:=by
 show dE p _ x (fun r=>q.up y r a b c d)=_
 rw [jt]
theorem J7 (q:Q4) (y:Option α) (r a b c d:Tr α):∃ a' b' c' d',(dg q).up y r a b c d=.n y a' b' c' d'∧(dg q).H9 a' b' c' d'=r∧∀ q',q'≠q→(dg q').H9 a' b' c' d'=(dg q').H9 a b c d:=by
 cases q
 ·exact ⟨r,b,c,d,rfl,rfl,fun q' h=>by cases q' <;> first|rfl|(exact absurd rfl h)⟩
 ·exact ⟨a,r,c,d,rfl,rfl,fun q' h=>by cases q' <;> first|rfl|(exact absurd rfl h)⟩
 ·exact ⟨a,b,r,d,rfl,rfl,fun q' h=>by cases q' <;> first|rfl|(exact absurd rfl h)⟩
 ·exact ⟨a,b,c,r,rfl,rfl,fun q' h=>by cases q' <;> first|rfl|(exact absurd rfl h)⟩
theorem Vp (q:Dg) (hq:∃ u,q=dg u):q.H9 (.e:Tr α) .e .e .e=.e:=by
 obtain ⟨u,rfl⟩:=hq
 cases u <;> rfl
theorem mn:∀ (p:List Q4) (t:Tr α) (x:Option α),jc (p.map dg) (mU (p.map dg) t x)=x
 | [],.e,_=>rfl
 | [],.n _ _ _ _ _,_=>rfl
 | q::p,.e,x=>by
  rw [List.map_cons,nf]
  obtain ⟨a',b',c',d',h1,h2,_⟩:=J7 q none (mU (p.map dg) .e x) .e .e .e .e
  rw [h1,lC,h2]
  exact mn p .e x
 | q::p,.n y a b c d,x=>by
  rw [List.map_cons,ng]
  obtain ⟨a',b',c',d',h1,h2,_⟩:=J7 q y (mU (p.map dg) ((dg q).H9 a b c d) x) a b c d
  rw [h1,lC,h2]
  exact mn p _ x
theorem o7:∀ (p p':List Q4) (t:Tr α) (x:Option α),p'≠p→jc (p'.map dg) (mU (p.map dg) t x)=jc (p'.map dg) t
 | [],[],_,_,h=>absurd rfl h
 | [],q::p',.e,_,_=>by
  show jc (p'.map dg) ((dg q).H9 .e .e .e .e)=_
  rw [Vp _ ⟨q,rfl⟩,o6,o6]
 | [],q::p',.n _ _ _ _ _,_,_=>rfl
 | q::p,[],.e,x,_=>by
  rw [List.map_cons,nf]
  obtain ⟨a',b',c',d',h1,_⟩:=J7 q none (mU (p.map dg) .e x) .e .e .e .e
  rw [h1,List.map_nil,uA,o6]
 | q::p,[],.n y a b c d,x,_=>by
  rw [List.map_cons,ng]
  obtain ⟨a',b',c',d',h1,_⟩:=J7 q y (mU (p.map dg) ((dg q).H9 a b c d) x) a b c d
  rw [h1,List.map_nil,uA,uA]
 | q::p,q'::p',.e,x,h=>by
  rw [List.map_cons,List.map_cons,nf]
  obtain ⟨a',b',c',d',h1,h2,h3⟩:=J7 q none (mU (p.map dg) .e x) .e .e .e .e
  rw [h1,lC,o6]
  by_cases hq:q'=q
  ·subst hq
   rw [h2,o7 p p' .e x (fun e=>h (by rw [e])),o6]
  ·rw [h3 q' hq,Vp _ ⟨q',rfl⟩,o6]
 | q::p,q'::p',.n y a b c d,x,h=>by
  rw [List.map_cons,List.map_cons,ng]
  obtain ⟨a',b',c',d',h1,h2,h3⟩:=J7 q y (mU (p.map dg) ((dg q).H9 a b c d) x) a b c d
  rw [h1,lC,lC]
  by_cases hq:q'=q
  ·subst hq
   rw [h2,o7 p p' _ x (fun e=>h (by rw [e]))]
  ·rw [h3 q' hq]
end
noncomputable def at_ {α:Type} (t:Tr α) (n:Nat):Option α:=jc (path n) t
noncomputable def dL {α:Type} (t:Tr α) (n:Nat) (x:Option α):Tr α:=mU (path n) t x
section
variable {α β:Type}
theorem FC (n:Nat):at_ (.e:Tr α) n=none:=o6 _
theorem nh (t:Tr α) (n:Nat) (x:Option α):at_ (dL t n x) n=x:=by
 unfold at_ dL
 rw [yO]
 exact mn _ _ _
theorem J8 (t:Tr α) {m n:Nat} (x:Option α) (h:m≠n):at_ (dL t n x) m=at_ t m:=by
 unfold at_ dL
 rw [yO,yO]
 exact o7 _ _ _ _ fun e=>h (WM e)
theorem cg (t:Tr α) (m n:Nat) (x:Option α):at_ (dL t n x) m=if m=n then x else at_ t m:=by
 by_cases h:m=n
 ·subst h;rw [if_pos rfl,nh]
 ·rw [if_neg h,J8 t x h]
theorem dh (h:H) (n:Nat) (o:O) (K:H→β):h.dE n o K=K (dL h n (some o)):=jt _ _ _ _
theorem Mv (h:H) (n:Nat) (K:H→β):h.Wc n K=K (dL h n none):=jt _ _ _ _
end
abbrev Rn:=Nat→Option (Nat×Nat)
mutual
inductive Den (ρ:Rn):V→Value→Prop
 | b (x):Den ρ (.b x) (.bool x)
 | i (k n):Den ρ (.i k n) (.int k n)
 | s (l):Den ρ (.s l) (.string ⟨l.toArray⟩)
 | p0:Den ρ (.p none) (.pointer none)
 | p {n off b sz}:ρ n=some (b,sz)→Den ρ (.p (some (n,off))) (.pointer (some ⟨b,off,none⟩))
 | Vq (n c):Den ρ (.sl none n (.k c)) (.slice none n c)
 | B7 {m off n c b sz}:ρ m=some (b,sz)→Den ρ (.sl (some (m,off)) n (.k c)) (.slice (some ⟨b,off,none⟩) n c)
 | Ca {m off n s c b sz}:ρ m=some (b,sz)→off+c*s=sz→n≤c→Den ρ (.sl (some (m,off)) n (.u s)) (.slice (some ⟨b,off,none⟩) n c)
 | Vr {m off a c}:Den ρ (.sl (some (m,off)) 0 .x) (.slice (some a) 0 c)
 | m0:Den ρ (.m none) (.map none)
 | m {n b sz}:ρ n=some (b,sz)→Den ρ (.m (some n)) (.map (some b))
 | f {fn a c xs ys}:aT ρ a xs→aT ρ c ys→Den ρ (.f fn a c) (.func fn xs.toArray ys.toArray)
 | f0:Den ρ .f0 .nilFunc
 | ni:Den ρ .ni .nilIface
 | ag {cs xs}:aT ρ cs xs→Den ρ (.ag cs) (.agg xs.toArray)
 | t {vs xs}:aT ρ vs xs→Den ρ (.t vs) (.tuple xs.toArray)
inductive aT (ρ:Rn):List V→List Value→Prop
 | nil:aT ρ [] []
 | cons {v x l r}:Den ρ v x→aT ρ l r→aT ρ (v::l) (x::r)
end
def Ext (ρ ρ':Rn):Prop:=∀ n x,ρ n=some x→ρ' n=some x
theorem Ext.refl (ρ:Rn):Ext ρ ρ:=fun _ _ h=>h
theorem Ext.trans {a b c:Rn} (h:Ext a b) (k:Ext b c):Ext a c:=fun n x hx=>k n x (h n x hx)
section
variable {ρ ρ':Rn}
mutual
theorem Den.ext (h:Ext ρ ρ'):∀ {v x},Den ρ v x→Den ρ' v x
 | _,_,.b x=>.b x
 | _,_,.i k n=>.i k n
 | _,_,.s l=>.s l
 | _,_,.p0=>.p0
 | _,_,.p e=>.p (h _ _ e)
 | _,_,.Vq n c=>.Vq n c
 | _,_,.B7 e=>.B7 (h _ _ e)
 | _,_,.Ca e e1 e2=>.Ca (h _ _ e) e1 e2
 | _,_,.Vr=>.Vr
 | _,_,.m0=>.m0
 | _,_,.m e=>.m (h _ _ e)
 | _,_,.f a c=>.f (aT.ext h a) (aT.ext h c)
 | _,_,.f0=>.f0
 | _,_,.ni=>.ni
 | _,_,.ag l=>.ag (aT.ext h l)
 | _,_,.t l=>.t (aT.ext h l)
theorem aT.ext (h:Ext ρ ρ'):∀ {v x},aT ρ v x→aT ρ' v x
 | _,_,.nil=>.nil
 | _,_,.cons a l=>.cons (Den.ext h a) (aT.ext h l)
end
theorem aT.len {l:List V} {r:List Value} (h:aT ρ l r):l.length=r.length:=by
 induction l generalizing r with
 | nil=>cases h;rfl
 | cons v l ih=>cases h with|cons _ h=>simp [ih h]
theorem aT.append {l l':List V} {r r':List Value} (h:aT ρ l r) (h':aT ρ l' r'):aT ρ (l++l') (r++r'):=by
 induction l generalizing r with
 | nil=>cases h;exact h'
 | cons v l ih=>cases h with|cons a h=>exact .cons a (ih h)
theorem aT.drop {l:List V} {r:List Value} (h:aT ρ l r) (n:Nat):aT ρ (l.drop n) (r.drop n):=by
 induction n generalizing l r with
 | zero=>exact h
 | succ n ih=>cases h with|nil=>exact .nil|cons _ h=>exact ih h
theorem aT.take {l:List V} {r:List Value} (h:aT ρ l r) (n:Nat):aT ρ (l.take n) (r.take n):=by
 induction n generalizing l r with
 | zero=>exact .nil
 | succ n ih=>cases h with|nil=>exact .nil|cons a h=>exact .cons a (ih h)
theorem aT.nth {l:List V} {r:List Value} (h:aT ρ l r) {n:Nat} {v:V} (hv:l[n]?=some v):∃ x,r[n]?=some x∧Den ρ v x:=by
 induction n generalizing l r with
 | zero=>cases h with|nil=>cases hv|cons a h=>simp at hv;subst hv;exact ⟨_,rfl,a⟩
 | succ n ih=>cases h with|nil=>cases hv|cons a h=>exact ih h (by simpa using hv)
end
section
variable {ρ:Rn}
theorem CA {x:Value} {v:V} (h:Md x=some v):Den ρ v x:=by
 unfold Md at h
 split at h <;> first|cases h|skip
 ·exact .b _
 ·exact .i _ _
 ·rename_i s
  have:Den ρ (.s s.data.toList) (.string ⟨s.data.toList.toArray⟩):=.s _
  simpa using this
 ·exact .p0
 ·exact .Vq 0 0
 ·exact .m0
 ·exact .f0
 ·exact .ni
theorem uB:∀ {l:List Value} {vs:List V},Cn l=some vs→aT ρ vs l
 | [],vs,h=>by cases h;exact .nil
 | x::l,vs,h=>by
  unfold Cn at h
  cases h1:Md x with
  | none=>rw [h1] at h;cases h
  | some v =>
   cases h2:Cn l with
   | none=>rw [h1,h2] at h;cases h
   | some r =>
    rw [h1,h2] at h
    cases h
    exact .cons (CA h1) (uB h2)
theorem fM {x:Value} {v:V} (h:Wf x=some v):Den ρ v x:=by
 unfold Wf at h
 split at h
 ·rename_i cs
  cases h2:Cn cs.toList with
  | none=>rw [h2] at h;cases h
  | some r =>
   rw [h2] at h
   cases h
   have:Den ρ (.ag r) (.agg cs.toList.toArray):=.ag (uB h2)
   simpa using this
 ·rename_i cs
  cases h2:Cn cs.toList with
  | none=>rw [h2] at h;cases h
  | some r =>
   rw [h2] at h
   cases h
   have:Den ρ (.t r) (.tuple cs.toList.toArray):=.t (uB h2)
   simpa using this
 ·exact CA h
theorem jI:Den ρ undef Go.undef:=.t .nil
theorem eu {v:V} {x:Value} (h:Den ρ v x):aT ρ v.cells x.cells.toList:=by
 cases h with
 | ag l=>exact l
 | _=>exact .cons (by constructor <;> assumption) .nil
theorem Ic {v:V} {x:Value} (h:Den ρ v x) (h1:v.one=true):x.oneCell'=true:=by
 cases h <;> first|rfl|(cases h1)
end
end E
end Go.Proofs.YtlmabdegojeheaaGreatDoor
