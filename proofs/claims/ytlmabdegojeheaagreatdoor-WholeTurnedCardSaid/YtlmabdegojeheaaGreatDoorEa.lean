/- WholeTurned: parts of its proof (Ea). -/
import Derived.Test.YtlmabdegojeheaaGreatDoorEng
namespace Go.Proofs.YtlmabdegojeheaaGreatDoor
open R
namespace E
inductive Cap where
 | k (c:Nat)
 | u (sz:Nat)
 | x
 deriving Inhabited
inductive V where
 | b (x:Bool)
 | i (k:IntKind) (n:Int)
 | s (l:List UInt8)
 | p (a:Option (Nat×Nat))
 | sl (a:Option (Nat×Nat)) (len:Nat) (c:Cap)
 | m (r:Option Nat)
 | f (fn:Fn) (first cap:List V)
 | f0
 | ni
 | ag (cs:List V)
 | t (vs:List V)
 deriving Inhabited
inductive O where
 | row (cs:List V) (opn:Bool) (t:TypeId)
 | mp (es:List (V×V×Nat)) (clock:Nat)
 | it (m:Option Nat) (since:Nat) (seen:List Nat) (stepped:Nat)
 | si (s:List UInt8) (pos:Nat)
 deriving Inhabited
inductive Tr (α:Type) where
 | e
 | n (x:Option α) (a b c d:Tr α)
 deriving Inhabited
structure Dg where
 H9:∀ {α:Type},Tr α→Tr α→Tr α→Tr α→Tr α
 up:∀ {α:Type},Option α→Tr α→Tr α→Tr α→Tr α→Tr α→Tr α
def dga:Dg:=⟨fun a _ _ _=>a,fun x r _ b c d=>.n x r b c d⟩
def dgb:Dg:=⟨fun _ b _ _=>b,fun x r a _ c d=>.n x a r c d⟩
def dgc:Dg:=⟨fun _ _ c _=>c,fun x r a b _ d=>.n x a b r d⟩
def dgd:Dg:=⟨fun _ _ _ d=>d,fun x r a b c _=>.n x a b c r⟩
def dgi (n:Nat):Dg:=bif Nat.beq n 0 then dga else bif Nat.beq n 1 then dgb else bif Nat.beq n 2 then dgc else dgd
noncomputable def Md (f:Nat):Nat→List Dg:=Nat.rec (motive:=fun _=>Nat→List Dg) (fun _=>[]) (fun _ ih n=>bif Nat.beq n 0 then [] else dgi (n % 4)::ih (n / 4)) f
noncomputable def path (n:Nat):List Dg:=Md n n
noncomputable def jc {α:Type} (p:List Dg):Tr α→Option α :=
 List.rec (motive:=fun _=>Tr α→Option α) (fun t=>Tr.rec none (fun x _ _ _ _ _ _ _ _=>x) t)
  (fun q _ ih t=>Tr.rec (motive:=fun _=>Option α) none (fun _ a b c d _ _ _ _=>ih (q.H9 a b c d)) t) p
noncomputable def dE {α β:Type} (p:List Dg):Tr α→Option α→(Tr α→β)→β :=
 List.rec (motive:=fun _=>Tr α→Option α→(Tr α→β)→β)
  (fun t x K=>Tr.rec (motive:=fun _=>β) (K (.n x .e .e .e .e)) (fun _ a b c d _ _ _ _=>K (.n x a b c d)) t)
  (fun q _ ih t x K=>Tr.rec (motive:=fun _=>β)
   (ih .e x fun r=>K (q.up none r .e .e .e .e))
   (fun y a b c d _ _ _ _=>ih (q.H9 a b c d) x fun r=>K (q.up y r a b c d)) t) p
abbrev H:=Tr O
abbrev F:=Tr V
noncomputable def H.get (h:H) (n:Nat):Option O:=jc (path n) h
noncomputable def H.dE {β:Type} (h:H) (n:Nat) (o:O) (K:H→β):β:=E.dE (path n) h (some o) K
noncomputable def H.Wh {β:Type} (h:H) (n:Nat) (K:H→β):β:=E.dE (path n) h none K
noncomputable def undef:V:=.t []
noncomputable def Me:Value→Option V
 | .bool b=>some (.b b)
 | .int k n=>some (.i k n)
 | .string s=>some (.s s.data.toList)
 | .pointer none=>some (.p none)
 | .slice none 0 0=>some (.sl none 0 (.k 0))
 | .map none=>some (.m none)
 | .nilFunc=>some .f0
 | .nilIface=>some .ni
 | _=>none
noncomputable def Cn:List Value→Option (List V)
 | []=>some []
 | v::l=>match Me v,Cn l with|some x,some r=>some (x::r)|_,_=>none
noncomputable def Wi:Value→Option V
 | .agg cs=>(Cn cs.toList).map .ag
 | .tuple cs=>(Cn cs.toList).map .t
 | v=>Me v
noncomputable def V.cells:V→List V
 | .ag cs=>cs
 | v=>[v]
noncomputable def V.one:V→Bool
 | .ag _=>false
 | .t _=>false
 | _=>true
noncomputable def Ft (n:Nat):V:=.i .i64 (.ofNat n)
noncomputable def kn:IntKind→Nat
 | .i8=>0|.i16=>1|.i32=>2|.i64=>3|.u8=>4|.u16=>5|.u32=>6|.u64=>7
noncomputable def kb (k k':IntKind):Bool:=Nat.beq (kn k) (kn k')
noncomputable def jk (k:IntKind) (n:Int):Int :=
 match k with
 | .i64=>match n with
  | .ofNat m=>bif Nat.ble m 9223372036854775807 then .ofNat m else k.wrap n
  | .negSucc m=>bif Nat.ble m 9223372036854775807 then .negSucc m else k.wrap n
 | .u64=>match n with
  | .ofNat m=>.ofNat (m % 18446744073709551616)
  | .negSucc m=>.ofNat (18446744073709551615-m % 18446744073709551616)
 | _=>k.wrap n
noncomputable def wV:Int→Int→Bool
 | .ofNat m,.ofNat n=>Nat.blt m n
 | .ofNat _,.negSucc _=>false
 | .negSucc _,.ofNat _=>true
 | .negSucc m,.negSucc n=>Nat.blt n m
noncomputable def Mf:Int→Int→Bool
 | .ofNat m,.ofNat n=>Nat.beq m n
 | .negSucc m,.negSucc n=>Nat.beq m n
 | _,_=>false
noncomputable def cv {β:Type} (n:Int) (K:Int→β):β :=
 match n with
 | .ofNat m=>bif Nat.beq m 0 then K (.ofNat 0) else K (.ofNat m)
 | .negSucc m=>bif Nat.beq m 0 then K (.negSucc 0) else K (.negSucc m)
noncomputable def QZ:Int→Option Nat
 | .ofNat m=>some m
 | _=>none
section
variable (P:Program)
noncomputable def kY (t:TypeId):Option Nat:=(P.info? t).map (·.bytes)
noncomputable def dK (t:TypeId):Option V:=((P.info? t).bind (·.zero)).bind Wi
noncomputable def fY (t:TypeId):Option TypeId:=match P.underlying t with|some (.slice e)=>some e|_=>none
noncomputable def JZ (l:List V):Nat→Option V:=List.rec (motive:=fun _=>Nat→Option V) (fun _=>none) (fun v _ ih n=>Bool.rec (motive:=fun _=>Option V) (ih (n-1)) (some v) (Nat.beq n 0)) l
noncomputable def uv (l:List V):Nat→List V:=List.rec (motive:=fun _=>Nat→List V) (fun _=>[]) (fun v l ih n=>Bool.rec (motive:=fun _=>List V) (ih (n-1)) (v::l) (Nat.beq n 0)) l
noncomputable def sM (l:List V):Nat→Option (List V):=List.rec (motive:=fun _=>Nat→Option (List V)) (fun n=>Bool.rec (motive:=fun _=>Option (List V)) none (some []) (Nat.beq n 0))
 (fun v _ ih n=>Bool.rec (motive:=fun _=>Option (List V)) (Option.rec (motive:=fun _=>Option (List V)) none (fun r=>some (v::r)) (ih (n-1))) (some []) (Nat.beq n 0)) l
noncomputable def Fu (vs:List V):List V→Option (List V):=List.rec (motive:=fun _=>List V→Option (List V)) (fun cs=>some cs)
 (fun v _ ih cs=>List.rec (motive:=fun _=>Option (List V)) none (fun _ r _=>Option.rec (motive:=fun _=>Option (List V)) none (fun r'=>some (v::r')) (ih r)) cs) vs
noncomputable def Fv (cs:List V) (n:Nat) (vs:List V):Option (List V):=List.rec (motive:=fun _=>Nat→Option (List V)) (fun n=>Bool.rec (motive:=fun _=>Option (List V)) none (Fu vs []) (Nat.beq n 0))
 (fun c cs ih n=>Bool.rec (motive:=fun _=>Option (List V)) (Option.rec (motive:=fun _=>Option (List V)) none (fun r=>some (c::r)) (ih (n-1))) (Fu vs (c::cs)) (Nat.beq n 0)) cs n
noncomputable def rep (z:List V):Nat→List V
 | 0=>[]
 | n+1=>z++rep z n
noncomputable def fu (ag:Bool) (n off:Nat) (cs:List V):Option V:=bif ag then (sM (uv cs off) n).map .ag else JZ cs off
noncomputable def Co:List (Nat×Nat)→List V→List V→Option (List V)
 | [],[],cs=>some cs
 | (off,n)::ps,v::vs,cs=>bif Nat.beq v.cells.length n then (match Fv cs off v.cells with|some cs'=>Co ps vs cs'|none=>none) else none
 | _,_,_=>none
noncomputable def HZ:Nat→TypeId→V→V→Option Bool
 | 0,_,_,_=>none
 | d+1,t,x,y=>match P.underlying t,x,y with
  | some .bool,.b a,.b b=>some (a == b)
  | some (.int _),.i k a,.i k' b=>bif kb k k' then some (Mf a b) else none
  | some .string,.s a,.s b=>some (a == b)
  | some (.pointer _),.p none,.p b=>some b.isNone
  | some (.pointer _),.p (some _),.p none=>some false
  | some (.pointer e),.p (some a),.p (some b)=>match ct P e with
   | some (_+1)=>bif Nat.beq a.1 b.1 then some (Nat.beq a.2 b.2) else none
   | _=>none
  | some .unsafePointer,.p none,.p b=>some b.isNone
  | some .unsafePointer,.p (some _),.p none=>some false
  | some (.struct fs),.ag xs,.ag ys=>if P.stoodInHeld t then none else
   fs.toList.foldr (fun f r=>if f.name= "_" then r else
    match aY P f.type,ct P f.type with
    | some ag,some n=>match fu ag n f.offset xs,fu ag n f.offset ys with
     | some u,some v=>match HZ d f.type u v with|some true=>r|some false=>some false|none=>none
     | _,_=>none
    | _,_=>none) (some true)
  | some (.array n e),.ag xs,.ag ys=>match aY P e,ct P e with
   | some ag,some sz=>(List.range' 0 n).foldr (fun i r =>
    match fu ag sz (i*sz) xs,fu ag sz (i*sz) ys with
    | some u,some v=>match HZ d e u v with|some true=>r|some false=>some false|none=>none
    | _,_=>none) (some true)
   | _,_=>none
  | some (.slice _),.sl none _ _,.sl b _ _=>some b.isNone
  | some (.slice _),.sl (some _) _ _,.sl none _ _=>some false
  | some (.map _ _),.m none,.m b=>some b.isNone
  | some (.map _ _),.m (some _),.m none=>some false
  | some (.func _ _ _),.f0,.f0=>some true
  | some (.func _ _ _),.f0,.f _ _ _=>some false
  | some (.func _ _ _),.f _ _ _,.f0=>some false
  | _,_,_=>none
noncomputable def pN:Nat:=10000
noncomputable def eqF (t:TypeId) (x y:V):Option V:=match HZ P pN t x y with|some r=>some (.b r)|none=>none
noncomputable def Wj (t:TypeId) (x y:V):Option V:=match HZ P pN t x y with|some r=>some (.b (!r))|none=>none
noncomputable def Wk (x y:V):Option V:=match x,y with|.i k a,.i k' b=>bif kb k k' then cv (jk k (Int.add a b)) fun n=>some (.i k n) else none|_,_=>none
noncomputable def Wl (x y:V):Option V:=match x,y with|.i k a,.i k' b=>bif kb k k' then cv (jk k (Int.sub a b)) fun n=>some (.i k n) else none|_,_=>none
noncomputable def Wm (x y:V):Option V:=match x,y with|.i k a,.i k' b=>bif kb k k' then cv (jk k (Int.mul a b)) fun n=>some (.i k n) else none|_,_=>none
noncomputable def Wn (x y:V):Option V:=match x,y with|.i k a,.i k' b=>bif kb k k' then bif Mf b 0 then none else cv (jk k (Int.tdiv a b)) fun n=>some (.i k n) else none|_,_=>none
noncomputable def Wo (x y:V):Option V:=match x,y with|.i k a,.i k' b=>bif kb k k' then bif Mf b 0 then none else cv (Int.tmod a b) fun n=>some (.i k n) else none|_,_=>none
noncomputable def Wq (x y:V):Option V:=match x,y with|.i k a,.i k' b=>bif kb k k' then cv (jk k (.ofNat (BitVec.ofInt k.bits a&&& BitVec.ofInt k.bits b).toNat)) fun n=>some (.i k n) else none|_,_=>none
noncomputable def orF (x y:V):Option V:=match x,y with|.i k a,.i k' b=>bif kb k k' then cv (jk k (.ofNat (BitVec.ofInt k.bits a||| BitVec.ofInt k.bits b).toNat)) fun n=>some (.i k n) else none|_,_=>none
noncomputable def Wr (x y:V):Option V:=match x,y with|.i k a,.i k' b=>bif kb k k' then cv (jk k (.ofNat (BitVec.ofInt k.bits a ^^^ BitVec.ofInt k.bits b).toNat)) fun n=>some (.i k n) else none|_,_=>none
noncomputable def yH (x y:V):Option V:=match x,y with|.i k a,.i k' b=>bif kb k k' then cv (jk k (.ofNat (BitVec.ofInt k.bits a&&& ~~~BitVec.ofInt k.bits b).toNat)) fun n=>some (.i k n) else none|_,_=>none
noncomputable def Ws (x y:V):Option V:=match x,y with|.i k a,.i _ b=>(match QZ b with|some m=>cv (jk k (Int.mul a (.ofNat (2 ^ (min m k.bits))))) fun n=>some (.i k n)|none=>none)|_,_=>none
noncomputable def Wu (x y:V):Option V:=match x,y with|.i k a,.i _ b=>(match QZ b with|some m=>cv (Int.fdiv a (.ofNat (2 ^ (min m k.bits)))) fun n=>some (.i k n)|none=>none)|_,_=>none
noncomputable def ltF (x y:V):Option V:=match x,y with|.i k a,.i k' b=>bif kb k k' then some (.b (wV a b)) else none|_,_=>none
noncomputable def leF (x y:V):Option V:=match x,y with|.i k a,.i k' b=>bif kb k k' then some (.b (!wV b a)) else none|_,_=>none
noncomputable def gtF (x y:V):Option V:=match x,y with|.i k a,.i k' b=>bif kb k k' then some (.b (wV b a)) else none|_,_=>none
noncomputable def geF (x y:V):Option V:=match x,y with|.i k a,.i k' b=>bif kb k k' then some (.b (!wV a b)) else none|_,_=>none
noncomputable def Wv (x y:V):Option V:=match x,y with|.i k a,.i k' b=>bif kb k k' then some (.b (Mf a b)) else none|_,_=>none
noncomputable def Ww (x y:V):Option V:=match x,y with|.i k a,.i k' b=>bif kb k k' then some (.b (!Mf a b)) else none|_,_=>none
noncomputable def m9:List UInt8→List UInt8→Bool
 | _,[]=>false
 | [],_::_=>true
 | a::x,b::y=>a<b||(a == b&&m9 x y)
noncomputable def Wz (x y:V):Option V:=match x,y with|.s a,.s b=>bif Nat.blt (a.length+b.length) 1000000000 then some (.s (a++b)) else none|_,_=>none
noncomputable def pO (f:List UInt8→List UInt8→Bool) (x y:V):Option V:=match x,y with|.s a,.s b=>some (.b (f a b))|_,_=>none
noncomputable def Q0 (op:BinOp) (t:TypeId):Option (V→V→Option V) :=
 match op with
 | .shl=>some Ws
 | .shr=>some Wu
 | _=>match P.underlying t with
  | some (.int _)=>match op with
   | .add=>some Wk|.sub=>some Wl|.mul=>some Wm|.quo=>some Wn|.rem=>some Wo
   | .and=>some Wq|.or=>some orF|.xor=>some Wr|.andNot=>some yH
   | .eql=>some Wv|.neq=>some Ww|.lss=>some ltF|.leq=>some leF|.gtr=>some gtF|.geq=>some geF
   | _=>none
  | some .string=>match op with
   | .add=>some Wz
   | .eql=>some (pO fun a b=>a == b)
   | .neq=>some (pO fun a b=>!(a == b))
   | .lss=>some (pO m9)
   | .leq=>some (pO fun a b=>m9 a b||a == b)
   | .gtr=>some (pO fun a b=>!(m9 a b||a == b))
   | .geq=>some (pO fun a b=>!m9 a b)
   | _=>none
  | some _=>bif P.eqGuardType P.depth t then none else match op with
   | .eql=>some (eqF P t)
   | .neq=>some (Wj P t)
   | _=>none
  | none=>none
noncomputable def WA (x:V):Option V:=match x with|.i k a=>cv (jk k (Int.sub 0 a)) fun n=>some (.i k n)|_=>none
noncomputable def WD (x:V):Option V:=match x with|.b x=>some (.b !x)|_=>none
noncomputable def unF (op:UnOp):Option (V→Option V):=match op with|.neg=>some WA|.not=>some WD|_=>none
noncomputable def Zy (x:V):Option V:=some x
noncomputable def H0 (x:V):Option V:=match x with|.s l=>some (.s l)|_=>none
noncomputable def Q1 (x:V):Option V:=match x with
 | .p (some a)=>some (.p (some a))
 | .f (.func g) x y=>some (.f (.func g) x y)
 | _=>none
noncomputable def H2 (k:IntKind) (x:V):Option V:=match x with|.i _ a=>cv (jk k a) fun n=>some (.i k n)|_=>none
noncomputable def H3 (off:Nat) (x:V):Option V:=match x with|.p (some (n,o))=>some (.p (some (n,o+off)))|_=>none
noncomputable def ZZ (n:Nat) (j:Int):Option Nat:=match j with|.ofNat m=>bif Nat.blt m n then some m else none|_=>none
noncomputable def Q2 (n sz:Nat) (x y:V):Option V:=match x,y with|.p (some (b,o)),.i _ j=>(match ZZ n j with|some m=>some (.p (some (b,o+m*sz)))|none=>none)|_,_=>none
noncomputable def Q3 (sz:Nat) (x y:V):Option V:=match x,y with|.sl (some (b,o)) n _,.i _ j=>(match ZZ n j with|some m=>some (.p (some (b,o+m*sz)))|none=>none)|_,_=>none
noncomputable def Q5 (ag:Bool) (n off:Nat) (x:V):Option V:=match x with|.ag cs=>fu ag n off cs|_=>none
noncomputable def Q6 (m:Nat) (ag:Bool) (sz:Nat) (x y:V):Option V:=match x,y with|.ag cs,.i _ j=>(match ZZ m j with|some i=>fu ag sz (i*sz) cs|none=>none)|_,_=>none
noncomputable def Q7 (x y:V):Option V:=match x,y with|.s l,.i _ j=>(match QZ j with|some i=>(match l[i]? with|some c=>some (.i .u8 (.ofNat c.toNat))|none=>none)|none=>none)|_,_=>none
noncomputable def Q8 (i:Nat) (x:V):Option V:=match x with|.t l=>JZ l i|_=>none
noncomputable def Q9 (fn:Fn) (n:Nat) (vs:List V):Option V:=match sM vs n with|some a=>some (.f fn a (uv vs n))|none=>none
noncomputable def Rb (ps:List (Nat×Nat)) (z:List V) (vs:List V):Option V:=(Co ps vs z).map .ag
noncomputable def Re (vs:List V):Option V:=match vs with|[.s l]=>some (Ft l.length)|_=>none
noncomputable def Rr (vs:List V):Option V:=match vs with|[.sl _ n _]=>some (Ft n)|_=>none
noncomputable def Cp (n:Nat) (vs:List V):Option V:=match vs with|[_]=>some (Ft n)|_=>none
noncomputable def Rs (vs:List V):Option V:=match vs with|[.sl _ _ (.k c)]=>some (Ft c)|_=>none
noncomputable def Ru (mx:Bool) (k:IntKind):Int→List V→Option V
 | x,[]=>some (.i k x)
 | x,.i k' y::l=>bif kb k k' then Ru mx k (bif mx then (bif wV x y then y else x) else (bif wV y x then y else x)) l else none
 | _,_=>none
noncomputable def Cq (mx:Bool) (vs:List V):Option V:=match vs with|.i k x::l=>Ru mx k x l|_=>none
noncomputable def Rv (vs:List V):Option V:=match vs with
 | [.sl none _ _]=>some (.p none)
 | [.sl (some a) _ (.k (_+1))]=>some (.p (some a))
 | [.sl (some a) (_+1) (.u _)]=>some (.p (some a))
 | _=>none
noncomputable def ic (h:H) (n off len:Nat):Option (List V):=match h.get n with|some (.row cs _ _)=>sM (uv cs off) len|_=>none
noncomputable def uw (sz:Nat) (h:H) (x:V):Option V:=match x with|.p (some (n,off))=>(ic h n off sz).map .ag|_=>none
noncomputable def ux (h:H) (x:V):Option V:=match x with|.p (some (n,off))=>(match h.get n with|some (.row cs _ _)=>JZ cs off|_=>none)|_=>none
noncomputable def Rx (h:H) (x:V):Option V:=match x with
 | .p none=>some (.p none)
 | .p (some (n,off))=>(match h.get n with|some (.row cs _ _)=>bif Nat.blt off cs.length then some (.p (some (n,off))) else none|_=>none)
 | _=>none
noncomputable def Ry (u:TypeId) (h:H) (x:V):Option V:=match x with
 | .p none=>some (.p none)
 | .p (some (n,off))=>(match h.get n with|some (.row cs false e)=>bif liesAt P P.depth e (cs.length / P.cellsOf e) off u 1 then some (.p (some (n,off))) else none|_=>none)
 | _=>none
noncomputable def Rz (h:H) (vs:List V):Option V:=match vs with|[.m none]=>some (Ft 0)|[.m (some r)]=>(match h.get r with|some (.mp es _)=>some (Ft es.length)|_=>none)|_=>none
noncomputable def rB:List V→Option (List UInt8)
 | []=>some []
 | .i .u8 x::l=>(match rB l with|some r=>some (UInt8.ofNat x.toNat::r)|none=>none)
 | _=>none
noncomputable def RA (h:H) (x:V):Option V:=match x with
 | .sl none _ _=>some (.s [])
 | .sl (some (b,off)) n (.k _)=>(match ic h b off n with|some cs=>(rB cs).map .s|none=>none)
 | .sl (some (b,off)) n (.u _)=>(match ic h b off n with|some cs=>(rB cs).map .s|none=>none)
 | _=>none
noncomputable def bnd (x:Option V) (y dflt:Nat):Option Nat:=match x with
 | none=>some dflt
 | some (.i _ (.ofNat m))=>bif Nat.ble m y then some m else none
 | _=>none
noncomputable def J2 (l h m:Bool) (vs:List V):Option (Option V×Option V×Option V) :=
 match l,h,m,vs with
 | false,false,false,[]=>some (none,none,none)
 | true,false,false,[a]=>some (some a,none,none)
 | false,true,false,[b]=>some (none,some b,none)
 | true,true,false,[a,b]=>some (some a,some b,none)
 | false,true,true,[b,c]=>some (none,some b,some c)
 | true,true,true,[a,b,c]=>some (some a,some b,some c)
 | _,_,_,_=>none
noncomputable def Z0 (lo hi:Option V) (l:List UInt8):Option V:=match bnd hi l.length l.length with
 | some b=>(match bnd lo b 0 with|some a=>some (.s ((l.drop a).take (b-a)))|none=>none)
 | none=>none
noncomputable def RB (sz:Nat) (a:Option (Nat×Nat)) (len c:Nat) (lo hi mx:Option V):Option V:=match bnd mx c c with
 | some m=>(match bnd hi m len with
  | some b=>(match bnd lo b 0 with
   | some l=>bif Nat.beq m l then some (.sl a (b-l) (.k 0)) else some (.sl (match a with|some (n,o)=>some (n,o+l*sz)|none=>none) (b-l) (.k (m-l)))
   | none=>none)
  | none=>none)
 | none=>none
noncomputable def Z1 (sz n off len:Nat) (kn:Nat) (lo hi mx:Option V):Option V:=match mx with
 | some _=>none
 | none=>(match bnd hi kn len with
  | some b=>(match bnd lo b 0 with
   | some l=>bif Nat.beq l 0 then some (.sl (some (n,off)) b (.u sz)) else bif Nat.blt l kn then some (.sl (some (n,off+l*sz)) (b-l) (.u sz)) else bif Nat.beq l b then some (.sl (some (0,0)) 0 .x) else none
   | none=>none)
  | none=>none)
noncomputable def H4 (l hh m:Bool) (vs:List V):Option V:=match vs with
 | .s s::r=>(match J2 l hh m r with|some (lo,hi,none)=>Z0 lo hi s|_=>none)
 | _=>none
noncomputable def H5 (sz:Nat) (l hh m:Bool) (h:H) (vs:List V):Option V:=match vs with
 | .sl a len (.k c)::r=>(match J2 l hh m r with|some (lo,hi,mx)=>RB sz a len c lo hi mx|none=>none)
 | .sl (some (n,off)) len (.u sz')::r=>(match J2 l hh m r,h.get n with
  | some (lo,hi,mx),some (.row cs _ _)=>bif Nat.beq sz' sz&&Nat.ble off cs.length then Z1 sz n off len ((cs.length-off) / sz) lo hi mx else none
  | _,_=>none)
 | _=>none
noncomputable def H6 (n sz:Nat) (l hh m:Bool) (vs:List V):Option V:=match vs with
 | .p (some (b,off))::r=>(match J2 l hh m r with|some (lo,hi,mx)=>RB sz (some (b,off)) n n lo hi mx|none=>none)
 | _=>none
noncomputable def sN (t:TypeId):Bool:=match P.underlying t with|some (.int _)=>true|some .string=>true|some .bool=>true|some (.struct _)=>true|some (.array _ _)=>true|_=>false
noncomputable def QN:Nat→TypeId→V→Bool
 | 0,_,_=>false
 | d+1,t,v=>match P.underlying t,v with
  | some (.interface _),_=>false
  | some (.array n e),.ag cs=>(match aY P e,ct P e with
   | some ag,some sz=>(List.range' 0 n).foldr (fun i r=>match fu ag sz (i*sz) cs with|some u=>QN d e u&&r|none=>false) true
   | _,_=>false)
  | some (.struct fs),.ag cs=>fs.toList.foldr (fun f r=>if f.name= "_" then r else match aY P f.type,ct P f.type with
   | some ag,some n=>(match fu ag n f.offset cs with|some u=>QN d f.type u&&r|none=>false)
   | _,_=>false) true
  | some (.array _ _),_=>false
  | some (.struct _),_=>false
  | some _,_=>true
  | none,_=>false
noncomputable def xH (kt:TypeId) (k:V):List (V×V×Nat)→Nat→Option (Option (Nat×V×V×Nat))
 | [],_=>some none
 | e::es,i=>match HZ P pN kt k e.1 with
  | some true=>some (some (i,e))
  | some false=>xH kt k es (i+1)
  | none=>none
noncomputable def uy (kt:TypeId) (k:V) (es:List (V×V×Nat)) (i:Nat):Option (Option (Nat×V×V×Nat)):=bif QN P pN kt k then xH P kt k es i else none
noncomputable def H7 (kt:TypeId) (z:V) (ok:Bool) (h:H) (vs:List V):Option V:=match vs with
 | [x,k]=>match (match x with|.m none=>some []|.m (some r)=>(match h.get r with|some (.mp es _)=>some es|_=>none)|_=>none) with
  | none=>none
  | some es=>match uy P kt k es 0 with
   | none=>none
   | some (some (_,e))=>some (bif ok then .t [e.2.1,.b true] else e.2.1)
   | some none=>some (bif ok then .t [z,.b false] else z)
 | _=>none
noncomputable def RC (h:H) (vs:List V):Option V:=match vs with
 | [.p (some (n,off))]=>(match off,h.get n with
  | 0,some (.it (some r) _ seen stepped)=>(match seen.getLast?,h.get r with
   | some stamp,some (.mp es clock)=>bif Nat.beq clock stepped then (match es.find? (fun e=>Nat.beq e.2.2 stamp) with|some e=>some (.t [e.1,e.2.1])|none=>none) else none
   | _,_=>none)
  | _,_=>none)
 | _=>none
noncomputable def WG (z:List V) (e:TypeId) (nm:Nat) (_:List V):Option (V×O):=some (.p (some (nm,0)),.row z false e)
noncomputable def RD (e:TypeId) (nm:Nat) (vs:List V):Option (V×O):=match vs with|[v]=>some (.p (some (nm,0)),.row v.cells false e)|_=>none
noncomputable def RE (e:TypeId) (ps:List (Nat×Nat)) (z:List V) (len:Nat) (nm:Nat) (vs:List V):Option (V×O):=match Co ps vs z with|some cs=>some (.sl (some (nm,0)) len (.k len),.row cs false e)|none=>none
noncomputable def RF (nm:Nat) (vs:List V):Option (V×O):=match vs with|[]=>some (.m (some nm),.mp [] 0)|[.i _ _]=>some (.m (some nm),.mp [] 0)|_=>none
noncomputable def RG (e:TypeId) (z:List V) (nm:Nat) (vs:List V):Option (V×O):=match vs with
 | [.i _ (.ofNat l),.i _ (.ofNat c)]=>bif Nat.ble l c&&Nat.blt c 1000000 then some (.sl (some (nm,0)) l (.k c),.row (rep z c) false e) else none
 | _=>none
abbrev HR:=Option (V×H×Nat)
noncomputable def kZ (h:H) (n off:Nat) (vs:List V) (K:H→HR):HR:=match h.get n with
 | some (.row cs o t)=>(match Fv cs off vs with|some cs'=>bif vs.all V.one then h.dE n (.row cs' o t) K else none|none=>none)
 | _=>none
noncomputable def H8 (sz:Nat) (h:H) (nx:Nat) (vs:List V):HR:=match vs with
 | [.p (some (n,off)),v]=>bif Nat.beq v.cells.length sz then kZ h n off v.cells fun h'=>some (undef,h',nx) else none
 | _=>none
noncomputable def sb1:V→V→Bool
 | .b x,.b y=>x == y
 | .i k x,.i k' y=>kb k k'&&Mf x y
 | .s x,.s y=>x == y
 | _,_=>false
noncomputable def sbs:List V→List V→Bool
 | [],[]=>true
 | x::l,y::r=>sb1 x y&&sbs l r
 | _,_=>false
noncomputable def Z2 (x y:V):Bool:=match x,y with|.ag l,.ag r=>sbs l r|x,y=>sb1 x y
noncomputable def Z3 (es:List (V×V×Nat)) (i:Nat) (k:V) (v:Option V):List (V×V×Nat):=es.modify i fun e=>(k,v.getD e.2.1,e.2.2)
noncomputable def RH (kt:TypeId) (h:H) (nx:Nat) (vs:List V):HR:=match vs with
 | [.m (some r),k,v]=>(match h.get r with
  | some (.mp es clock)=>(match uy P kt k es 0 with
   | some (some (i,e))=>bif Z2 e.1 k then h.dE r (.mp (Z3 es i k (some v)) clock) fun h'=>some (undef,h',nx) else none
   | some none=>h.dE r (.mp (es++[(k,v,clock)]) (clock+1)) fun h'=>some (undef,h',nx)
   | none=>none)
  | _=>none)
 | _=>none
noncomputable def meF (kt:TypeId) (z:V) (h:H) (nx:Nat) (vs:List V):HR:=match vs with
 | [.m (some r),k]=>(match h.get r with
  | some (.mp es clock)=>(match uy P kt k es 0 with
   | some (some (i,e))=>bif Z2 e.1 k then h.dE r (.mp (Z3 es i k none) clock) fun h'=>some (.t [e.2.1,Ft e.2.2],h',nx) else none
   | some none=>h.dE r (.mp (es++[(k,z,clock)]) (clock+1)) fun h'=>some (.t [z,Ft clock],h',nx)
   | none=>none)
  | _=>none)
 | _=>none
noncomputable def esF (h:H) (nx:Nat) (vs:List V):HR:=match vs with
 | [.m (some r),.i _ (.ofNat s),v]=>(match h.get r with
  | some (.mp es clock)=>(match es.findIdx? (fun e=>Nat.beq e.2.2 s) with
   | some i=>h.dE r (.mp (es.modify i fun e=>(e.1,v,e.2.2)) clock) fun h'=>some (undef,h',nx)
   | none=>none)
  | _=>none)
 | _=>none
noncomputable def RI (h:H) (nx:Nat) (vs:List V):HR:=match vs with
 | [.s l]=>h.dE nx (.si l 0) fun h'=>some (.p (some (nx,0)),h',nx+1)
 | _=>none
noncomputable def RJ (h:H) (nx:Nat) (vs:List V):HR:=match vs with
 | [.m none]=>h.dE nx (.it none 0 [] 0) fun h'=>some (.p (some (nx,0)),h',nx+1)
 | [.m (some r)]=>(match h.get r with
  | some (.mp _ clock)=>h.dE nx (.it (some r) clock [] clock) fun h'=>some (.p (some (nx,0)),h',nx+1)
  | _=>none)
 | _=>none
noncomputable def RK (h:H) (nx:Nat) (vs:List V):HR:=match vs with
 | [.p (some (n,off))]=>(match off,h.get n with
  | 0,some (.si l pos)=>(match l.drop pos with
   | []=>some (.t [.b false],h,nx)
   | c::_=>bif Nat.blt c.toNat 128 then h.dE n (.si l (pos+1)) fun h'=>some (.t [.b true,Ft pos,.i .i32 (.ofNat c.toNat)],h',nx) else none)
  | _,_=>none)
 | _=>none
noncomputable def RL (h:H) (nx:Nat) (vs:List V):HR:=match vs with
 | [.p (some (n,off))]=>(match off,h.get n with
  | 0,some (.it none _ _ _)=>some (.t [.b false],h,nx)
  | 0,some (.it (some r) since seen last)=>(match h.get r with
   | some (.mp es clock)=>bif !seen.isEmpty&&(!es.isEmpty&&es.all fun e=>Nat.ble last e.2.2) then none else
    match es.filter (fun e=>!seen.contains e.2.2) with
    | []=>some (.t [.b false],h,nx)
    | [e]=>bif Nat.blt e.2.2 since then h.dE n (.it (some r) since (seen++[e.2.2]) clock) fun h'=>some (.t [.b true,e.1,e.2.1],h',nx) else none
    | _=>none
   | _=>none)
  | _,_=>none)
 | _=>none
noncomputable def yI (h:H) (sz n:Nat):V→Option (List V)
 | .sl none _ _=>bif Nat.beq n 0 then some [] else none
 | .sl (some _) _ .x=>bif Nat.beq n 0 then some [] else none
 | .sl (some (b,off)) _ _=>ic h b off (n*sz)
 | .s l=>bif Nat.beq sz 1 then some ((l.take n).map fun x=>.i .u8 (.ofNat x.toNat)) else none
 | _=>none
noncomputable def Mg:V→Option Nat
 | .sl _ n _=>some n
 | .s l=>some l.length
 | _=>none
noncomputable def RM (e:TypeId) (sz by_:Nat) (h:H) (nx:Nat) (s:V) (n:Nat) (new:List V):HR:=match s with
 | .sl a len c=>bif Nat.blt ((len+n)*(by_+1)) 1000000000 then
  (match a,c with
  | none,.k 0=>bif Nat.beq len 0 then bif Nat.beq n 0 then some (s,h,nx) else h.dE nx (.row new true e) fun h'=>some (.sl (some (nx,0)) n (.u sz),h',nx+1) else none
  | some (b,off),.k cp =>
   bif Nat.ble (len+n) cp then kZ h b (off+len*sz) new fun h'=>some (.sl (some (b,off)) (len+n) (.k cp),h',nx)
   else (match ic h b off (len*sz) with|some old=>h.dE nx (.row (old++new) true e) fun h'=>some (.sl (some (nx,0)) (len+n) (.u sz),h',nx+1)|none=>none)
  | some (b,off),.u sz'=>bif Nat.beq sz sz' then
   bif Nat.beq n 0 then some (s,h,nx) else
   bif Nat.beq off 0&&new.all V.one then (match h.get b with
    | some (.row cs _ t)=>bif Nat.beq t e then (match sM cs (len*sz) with
     | some old=>h.Wh b fun h1=>h1.dE nx (.row (old++new) true e) fun h'=>some (.sl (some (nx,0)) (len+n) (.u sz),h',nx+1)
     | none=>none) else none
    | _=>none) else none else none
  | _,_=>none) else none
 | _=>none
noncomputable def RN (e:TypeId) (sz by_:Nat) (h:H) (nx:Nat) (vs:List V):HR:=match vs with
 | [s,x]=>(match Mg x with
  | some n=>(match yI h sz n x with|some new=>RM e sz by_ h nx s n new|none=>none)
  | none=>none)
 | _=>none
noncomputable def RO (e:TypeId) (sz by_:Nat) (z:List V) (h:H) (nx:Nat) (vs:List V):HR:=match vs with
 | [s,.i _ (.ofNat n)]=>bif Nat.blt n 1000000 then RM e sz by_ h nx s n (rep z n) else none
 | _=>none
noncomputable def RP (sz:Nat) (h:H) (nx:Nat) (vs:List V):HR:=match vs with
 | [.sl a n c,s]=>(match Mg s with
  | some m=>(match yI h sz (Nat.min m n) s with
   | some cs=>(match a,c with
    | none,.k _=>some (Ft (Nat.min m n),h,nx)
    | some (b,off),.k _=>kZ h b off cs fun h'=>some (Ft (Nat.min m n),h',nx)
    | some (b,off),.u _=>kZ h b off cs fun h'=>some (Ft (Nat.min m n),h',nx)
    | _,_=>none)
   | none=>none)
  | none=>none)
 | _=>none
noncomputable def RS (z:List V) (h:H) (nx:Nat) (vs:List V):HR:=match vs with
 | [.sl none _ _]=>some (.t [],h,nx)
 | [.sl (some (b,off)) n _]=>bif Nat.beq n 0 then some (.t [],h,nx) else kZ h b off (rep z n) fun h'=>some (.t [],h',nx)
 | _=>none
noncomputable def RT (kt:TypeId) (h:H) (nx:Nat) (vs:List V):HR:=match vs with
 | [.m none,k]=>bif QN P pN kt k then some (.t [],h,nx) else none
 | [.m (some r),k]=>(match h.get r with
  | some (.mp es clock)=>(match uy P kt k es 0 with
   | some (some (i,_))=>h.dE r (.mp (es.eraseIdx i) clock) fun h'=>some (.t [],h',nx)
   | some none=>h.dE r (.mp es clock) fun h'=>some (.t [],h',nx)
   | none=>none)
  | _=>none)
 | _=>none
noncomputable def yJ:List V→Option (List UInt8)
 | []=>some []
 | .i .u8 (.ofNat x)::l=>bif Nat.blt x 256 then (match yJ l with|some r=>some (UInt8.ofNat x::r)|none=>none) else none
 | _=>none
noncomputable def RU (e:TypeId) (h:H) (nx:Nat) (vs:List V):HR:=match vs with
 | [.p none,.i .i64 (.ofNat n)]=>bif Nat.beq n 0 then some (.s [],h,nx) else none
 | [.p (some (b,off)),.i .i64 (.ofNat n)]=>bif Nat.beq n 0 then some (.s [],h,nx) else bif Nat.beq off 0&&Nat.blt n 1000000000 then
  (match h.get b with
  | some (.row cs _ t)=>bif Nat.beq t e then (match sM cs n with
   | some us=>(match yJ us with|some l=>h.Wh b fun h'=>some (.s l,h',nx)|none=>none)
   | none=>none) else none
  | _=>none) else none
 | _=>none
inductive cu where
 | s (p:List Dg)
 | k (v:V)
inductive I where
 | q1 (x:cu) (f:V→Option V)
 | q2 (x y:cu) (f:V→V→Option V)
 | l1 (x:cu) (f:H→V→Option V)
 | q (xs:List cu) (f:List V→Option V)
 | pick (c a b:cu)
 | l (xs:List cu) (f:H→List V→Option V)
 | a (xs:List cu) (f:Nat→List V→Option (V×O))
 | e (xs:List cu) (f:H→Nat→List V→HR)
 | c (fn:cu) (xs:List cu)
noncomputable def cO:Operand→Option cu
 | .tmp t=>some (.s (path t))
 | .const v=>(Wi v).map .k
 | .global g=>bif Nat.blt g 1000 then some (.k (.p (some (g,0)))) else none
 | .func g=>some (.k (.f (.func g) [] []))
noncomputable def el:List Operand→Option (List cu)
 | []=>some []
 | x::l=>match cO x,el l with|some v,some r=>some (v::r)|_,_=>none
noncomputable def Cr (d:TypeDesc):Option (Nat→Option (Nat×Nat)):=match d with
 | .struct fs=>(fs.toList.mapM fun f=>(P.info? f.type).map fun i=>(f.offset,i.size)).map fun l i=>l[i]?
 | .array _ e=>(ct P e).map fun n i=>some (i*n,n)
 | .slice e=>(ct P e).map fun n i=>some (i*n,n)
 | _=>none
noncomputable def wY (tab:Nat→Option (Nat×Nat)):List (Nat×Operand)→Option (List (Nat×Nat))
 | []=>some []
 | x::l=>match tab x.1,wY tab l with|some v,some r=>some (v::r)|_,_=>none
noncomputable def cI (op:Op):Option I :=
 match op with
 | .move x=>(cO x).map fun x=>.q1 x Zy
 | .assign x=>(cO x).map fun x=>.q1 x Zy
 | .pick c a b=>(match cO c,cO a,cO b with|some c,some a,some b=>some (.pick c a b)|_,_,_=>none)
 | .alloc e=>(dK P e).map fun z=>.a [] (WG z.cells e)
 | .box e x=>(el [x]).map fun l=>.a l (RD e)
 | .build t ps=>(match el (ps.toList.map (·.2)),dK P t,P.underlying t with
  | some l,some z,some d=>(match (match d with|.slice _=>none|_=>Cr P d) with
   | some tab=>(match wY tab ps.toList with|some q=>some (.q l (Rb q z.cells))|none=>none)
   | none=>none)
  | _,_,_=>none)
 | .buildSlice t len ps=>(match el (ps.toList.map (·.2)),fY P t with
  | some l,some e=>(match ct P e,dK P e with
   | some n,some z=>(match wY (fun i=>some (i*n,n)) ps.toList with
    | some q=>bif Nat.blt (len*n) 10000&&Nat.beq z.cells.length n then some (.a l (RE e q (rep z.cells len) len)) else none
    | none=>none)
   | _,_=>none)
  | _,_=>none)
 | .load t x=>(match cO x,aY P t,ct P t with
  | some l,some true,some n=>some (.l1 l (uw n))
  | some l,some false,some _=>some (.l1 l ux)
  | _,_,_=>none)
 | .store t x y=>(match el [x,y],ct P t with|some l,some n=>some (.e l (H8 n))|_,_=>none)
 | .nilCheck x=>(cO x).map fun l=>.q1 l Q1
 | .binOp op t x y _=>(match cO x,cO y,Q0 P op t with|some a,some b,some f=>some (.q2 a b f)|_,_,_=>none)
 | .unOp op _ x=>(match cO x,unF op with|some l,some f=>some (.q1 l f)|_,_=>none)
 | .convert s d x=>(match cO x,P.underlying s,P.underlying d with
  | some l,some (.int _),some (.int k)=>some (.q1 l (H2 k))
  | some l,some .string,some .string=>some (.q1 l H0)
  | some l,some (.slice e),some .string=>(match P.underlying e with|some (.int .u8)=>some (.l1 l RA)|_=>none)
  | some l,some .unsafePointer,some (.pointer u)=>(match ct P u with|some _=>some (.l1 l (Ry P u))|none=>none)
  | some l,some (.pointer t),some .unsafePointer=>(match ct P t with|some n=>bif Nat.beq n 0 then none else some (.l1 l Rx)|none=>none)
  | _,_,_=>none)
 | .makeFunc fn as_ cs=>(el (as_.toList++cs.toList)).map fun l=>.q l (Q9 fn as_.size)
 | .makeMap t r=>(match P.underlying t,el r.toList with|some (.map _ _),some l=>some (.a l RF)|_,_=>none)
 | .makeSlice t l c=>(match el [l,c],fY P t with
  | some l,some e=>(match dK P e,kY P e,ct P e with|some z,some by_,some n=>bif Nat.blt by_ 10000&&Nat.beq z.cells.length n then some (.a l (RG e z.cells)) else none|_,_,_=>none)
  | _,_=>none)
 | .slice t x lo hi mx=>(match el (x::(lo.toList++(hi.toList++mx.toList))),P.underlying t with
  | some l,some .string=>some (.q l (H4 lo.isSome hi.isSome mx.isSome))
  | some l,some (.slice e)=>(match ct P e with|some sz=>some (.l l (H5 sz lo.isSome hi.isSome mx.isSome))|none=>none)
  | some l,some (.array m e)=>(match ct P e with|some sz=>some (.q l (H6 m sz lo.isSome hi.isSome mx.isSome))|none=>none)
  | _,_=>none)
 | .fieldAddr s x f=>(match cO x,P.underlying s with
  | some l,some (.struct fs)=>(match fs[f]? with
   | some fd=>(match ct P fd.type with|some n=>bif Nat.beq n 0 then none else some (.q1 l (H3 fd.offset))|none=>none)
   | none=>none)
  | _,_=>none)
 | .field t x f=>(match cO x,P.underlying t with
  | some l,some (.struct fs)=>(match fs[f]? with
   | some fd=>(match aY P fd.type,ct P fd.type with|some ag,some n=>some (.q1 l (Q5 ag n fd.offset))|_,_=>none)
   | none=>none)
  | _,_=>none)
 | .indexAddr t x i=>(match cO x,cO i,P.underlying t with
  | some l,some m,some (.array n e)=>(match ct P e with|some sz=>some (.q2 l m (Q2 n sz))|none=>none)
  | some l,some m,some (.slice e)=>(match ct P e with|some sz=>some (.q2 l m (Q3 sz))|none=>none)
  | _,_,_=>none)
 | .index t x i=>(match cO x,cO i,P.underlying t with
  | some l,some m,some (.array n e)=>(match aY P e,ct P e with|some ag,some sz=>some (.q2 l m (Q6 n ag sz))|_,_=>none)
  | some l,some m,some .string=>some (.q2 l m Q7)
  | _,_,_=>none)
 | .lookup t x k ok=>(match el [x,k],P.underlying t with
  | some l,some (.map kt et)=>(match dK P et with|some z=>bif sN P kt then some (.l l (H7 P kt z ok)) else none|none=>none)
  | _,_=>none)
 | .mapUpdate t m k x=>(match el [m,k,x],P.underlying t with
  | some l,some (.map kt _)=>bif sN P kt then some (.e l (RH P kt)) else none
  | _,_=>none)
 | .mapEntry t m k=>(match el [m,k],P.underlying t with
  | some l,some (.map kt et)=>(match dK P et with|some z=>bif sN P kt then some (.e l (meF P kt z)) else none|none=>none)
  | _,_=>none)
 | .entryStore _ m s x=>(el [m,s,x]).map fun l=>.e l esF
 | .range t x=>(match el [x],P.underlying t with
  | some l,some .string=>some (.e l RI)
  | some l,some (.map _ _)=>some (.e l RJ)
  | _,_=>none)
 | .next x isS=>(el [x]).map fun l=>.e l (bif isS then RK else RL)
 | .entry x=>(el [x]).map fun l=>.l l RC
 | .extract x i=>(cO x).map fun l=>.q1 l (Q8 i)
 | .call c=>(match el c.args.toList with
  | none=>none
  | some l=>match c.callee with
   | .value f=>(cO f).map fun f=>.c f l
   | .builtin b=>(match b,c.argTypes.toList with
    | .len,[t]=>(match P.underlying t with
     | some .string=>some (.q l Re)
     | some (.slice _)=>some (.q l Rr)
     | some (.array n _)=>some (.q l (Cp n))
     | some (.pointer a)=>(match P.underlying a with|some (.array n _)=>some (.q l (Cp n))|_=>none)
     | some (.map _ _)=>some (.l l Rz)
     | _=>none)
    | .cap,[t]=>(match P.underlying t with|some (.slice _)=>some (.q l Rs)|_=>none)
    | .min,_=>some (.q l (Cq false))
    | .max,_=>some (.q l (Cq true))
    | .append,[t,u]=>(match fY P t with
     | some e=>(match ct P e,kY P e,dK P e with
      | some sz,some by_,some z=>bif Nat.beq z.cells.length sz then (match P.underlying u with
       | some (.int _)=>some (.e l (RO e sz by_ z.cells))
       | some _=>some (.e l (RN e sz by_))
       | none=>none) else none
      | _,_,_=>none)
     | none=>none)
    | .copy,[t,_]=>(match fY P t with|some e=>(match ct P e with|some sz=>some (.e l (RP sz))|none=>none)|none=>none)
    | .clear,[t]=>(match fY P t with|some e=>(match dK P e with|some z=>some (.e l (RS z.cells))|none=>none)|none=>none)
    | .delete,t::_=>(match P.underlying t with|some (.map kt _)=>bif sN P kt then some (.e l (RT P kt)) else none|_=>none)
    | .unsafeSliceData,_=>some (.q l Rv)
    | .unsafeString,[t,_]=>(match P.underlying t with|some (.pointer e)=>(match ct P e with|some sz=>bif Nat.beq sz 1 then some (.e l (RU e)) else none|none=>none)|_=>none)
    | _,_=>none)
   | _=>none)
 | _=>none
noncomputable def RW (x:Operand):Option I:=(cO x).map fun x=>.q1 x Zy
noncomputable def J3 (x:Operand):Option I:=(cO x).map fun x=>.q1 x Zy
noncomputable def RX (c:Operand) (a:Operand) (b:Operand):Option I:=(match cO c,cO a,cO b with|some c,some a,some b=>some (.pick c a b)|_,_,_=>none)
noncomputable def Mh (e:TypeId):Option I:=(dK P e).map fun z=>.a [] (WG z.cells e)
noncomputable def WI (e:TypeId) (x:Operand):Option I:=(el [x]).map fun l=>.a l (RD e)
noncomputable def Mi (t:TypeId) (ps:Array (Nat×Operand)):Option I:=(match el (ps.toList.map (·.2)),dK P t,P.underlying t with
  | some l,some z,some d=>(match (match d with|.slice _=>none|_=>Cr P d) with
   | some tab=>(match wY tab ps.toList with|some q=>some (.q l (Rb q z.cells))|none=>none)
   | none=>none)
  | _,_,_=>none)
noncomputable def wZ (t:TypeId) (len:Nat) (ps:Array (Nat×Operand)):Option I:=(match el (ps.toList.map (·.2)),fY P t with
  | some l,some e=>(match ct P e,dK P e with
   | some n,some z=>(match wY (fun i=>some (i*n,n)) ps.toList with
    | some q=>bif Nat.blt (len*n) 10000&&Nat.beq z.cells.length n then some (.a l (RE e q (rep z.cells len) len)) else none
    | none=>none)
   | _,_=>none)
  | _,_=>none)
noncomputable def RY (t:TypeId) (x:Operand):Option I:=(match cO x,aY P t,ct P t with
  | some l,some true,some n=>some (.l1 l (uw n))
  | some l,some false,some _=>some (.l1 l ux)
  | _,_,_=>none)
noncomputable def Mj (t:TypeId) (x:Operand) (y:Operand):Option I:=(match el [x,y],ct P t with|some l,some n=>some (.e l (H8 n))|_,_=>none)
noncomputable def Cu (x:Operand):Option I:=(cO x).map fun l=>.q1 l Q1
noncomputable def Mk (op:BinOp) (t:TypeId) (x:Operand) (y:Operand) (_a4:TypeId):Option I:=(match cO x,cO y,Q0 P op t with|some a,some b,some f=>some (.q2 a b f)|_,_,_=>none)
noncomputable def RZ (op:UnOp) (_a1:TypeId) (x:Operand):Option I:=(match cO x,unF op with|some l,some f=>some (.q1 l f)|_,_=>none)
noncomputable def Fw (s:TypeId) (d:TypeId) (x:Operand):Option I:=(match cO x,P.underlying s,P.underlying d with
  | some l,some (.int _),some (.int k)=>some (.q1 l (H2 k))
  | some l,some .string,some .string=>some (.q1 l H0)
  | some l,some (.slice e),some .string=>(match P.underlying e with|some (.int .u8)=>some (.l1 l RA)|_=>none)
  | some l,some .unsafePointer,some (.pointer u)=>(match ct P u with|some _=>some (.l1 l (Ry P u))|none=>none)
  | some l,some (.pointer t),some .unsafePointer=>(match ct P t with|some n=>bif Nat.beq n 0 then none else some (.l1 l Rx)|none=>none)
  | _,_,_=>none)
noncomputable def Cv (fn:Fn) (as_:Array Operand) (cs:Array Operand):Option I:=(el (as_.toList++cs.toList)).map fun l=>.q l (Q9 fn as_.size)
noncomputable def Fx (t:TypeId) (r:Option Operand):Option I:=(match P.underlying t,el r.toList with|some (.map _ _),some l=>some (.a l RF)|_,_=>none)
noncomputable def yK (t:TypeId) (l:Operand) (c:Operand):Option I:=(match el [l,c],fY P t with
  | some l,some e=>(match dK P e,kY P e,ct P e with|some z,some by_,some n=>bif Nat.blt by_ 10000&&Nat.beq z.cells.length n then some (.a l (RG e z.cells)) else none|_,_,_=>none)
  | _,_=>none)
noncomputable def Ml (t:TypeId) (x:Operand) (lo:Option Operand) (hi:Option Operand) (mx:Option Operand):Option I:=(match el (x::(lo.toList++(hi.toList++mx.toList))),P.underlying t with
  | some l,some .string=>some (.q l (H4 lo.isSome hi.isSome mx.isSome))
  | some l,some (.slice e)=>(match ct P e with|some sz=>some (.l l (H5 sz lo.isSome hi.isSome mx.isSome))|none=>none)
  | some l,some (.array m e)=>(match ct P e with|some sz=>some (.q l (H6 m sz lo.isSome hi.isSome mx.isSome))|none=>none)
  | _,_=>none)
noncomputable def yL (s:TypeId) (x:Operand) (f:Nat):Option I:=(match cO x,P.underlying s with
  | some l,some (.struct fs)=>(match fs[f]? with
   | some fd=>(match ct P fd.type with|some n=>bif Nat.beq n 0 then none else some (.q1 l (H3 fd.offset))|none=>none)
   | none=>none)
  | _,_=>none)
noncomputable def Mm (t:TypeId) (x:Operand) (f:Nat):Option I:=(match cO x,P.underlying t with
  | some l,some (.struct fs)=>(match fs[f]? with
   | some fd=>(match aY P fd.type,ct P fd.type with|some ag,some n=>some (.q1 l (Q5 ag n fd.offset))|_,_=>none)
   | none=>none)
  | _,_=>none)
noncomputable def yM (t:TypeId) (x:Operand) (i:Operand):Option I:=(match cO x,cO i,P.underlying t with
  | some l,some m,some (.array n e)=>(match ct P e with|some sz=>some (.q2 l m (Q2 n sz))|none=>none)
  | some l,some m,some (.slice e)=>(match ct P e with|some sz=>some (.q2 l m (Q3 sz))|none=>none)
  | _,_,_=>none)
noncomputable def Mn (t:TypeId) (x:Operand) (i:Operand):Option I:=(match cO x,cO i,P.underlying t with
  | some l,some m,some (.array n e)=>(match aY P e,ct P e with|some ag,some sz=>some (.q2 l m (Q6 n ag sz))|_,_=>none)
  | some l,some m,some .string=>some (.q2 l m Q7)
  | _,_,_=>none)
noncomputable def J4 (t:TypeId) (x:Operand) (k:Operand) (ok:Bool):Option I:=(match el [x,k],P.underlying t with
  | some l,some (.map kt et)=>(match dK P et with|some z=>bif sN P kt then some (.l l (H7 P kt z ok)) else none|none=>none)
  | _,_=>none)
noncomputable def yN (t:TypeId) (m:Operand) (k:Operand) (x:Operand):Option I:=(match el [m,k,x],P.underlying t with
  | some l,some (.map kt _)=>bif sN P kt then some (.e l (RH P kt)) else none
  | _,_=>none)
noncomputable def Cw (t:TypeId) (m:Operand) (k:Operand):Option I:=(match el [m,k],P.underlying t with
  | some l,some (.map kt et)=>(match dK P et with|some z=>bif sN P kt then some (.e l (meF P kt z)) else none|none=>none)
  | _,_=>none)
noncomputable def xa (_a0:TypeId) (m:Operand) (s:Operand) (x:Operand):Option I:=(el [m,s,x]).map fun l=>.e l esF
noncomputable def Mo (t:TypeId) (x:Operand):Option I:=(match el [x],P.underlying t with
  | some l,some .string=>some (.e l RI)
  | some l,some (.map _ _)=>some (.e l RJ)
  | _,_=>none)
noncomputable def R3 (x:Operand) (isS:Bool):Option I:=(el [x]).map fun l=>.e l (bif isS then RK else RL)
noncomputable def Mp (x:Operand):Option I:=(el [x]).map fun l=>.l l RC
noncomputable def Fy (x:Operand) (i:Nat):Option I:=(cO x).map fun l=>.q1 l (Q8 i)
noncomputable def R4 (c:Call):Option I:=(match el c.args.toList with
  | none=>none
  | some l=>match c.callee with
   | .value f=>(cO f).map fun f=>.c f l
   | .builtin b=>(match b,c.argTypes.toList with
    | .len,[t]=>(match P.underlying t with
     | some .string=>some (.q l Re)
     | some (.slice _)=>some (.q l Rr)
     | some (.array n _)=>some (.q l (Cp n))
     | some (.pointer a)=>(match P.underlying a with|some (.array n _)=>some (.q l (Cp n))|_=>none)
     | some (.map _ _)=>some (.l l Rz)
     | _=>none)
    | .cap,[t]=>(match P.underlying t with|some (.slice _)=>some (.q l Rs)|_=>none)
    | .min,_=>some (.q l (Cq false))
    | .max,_=>some (.q l (Cq true))
    | .append,[t,u]=>(match fY P t with
     | some e=>(match ct P e,kY P e,dK P e with
      | some sz,some by_,some z=>bif Nat.beq z.cells.length sz then (match P.underlying u with
       | some (.int _)=>some (.e l (RO e sz by_ z.cells))
       | some _=>some (.e l (RN e sz by_))
       | none=>none) else none
      | _,_,_=>none)
     | none=>none)
    | .copy,[t,_]=>(match fY P t with|some e=>(match ct P e with|some sz=>some (.e l (RP sz))|none=>none)|none=>none)
    | .clear,[t]=>(match fY P t with|some e=>(match dK P e with|some z=>some (.e l (RS z.cells))|none=>none)|none=>none)
    | .delete,t::_=>(match P.underlying t with|some (.map kt _)=>bif sN P kt then some (.e l (RT P kt)) else none|_=>none)
    | .unsafeSliceData,_=>some (.q l Rv)
    | .unsafeString,[t,_]=>(match P.underlying t with|some (.pointer e)=>(match ct P e with|some sz=>bif Nat.beq sz 1 then some (.e l (RU e)) else none|none=>none)|_=>none)
    | _,_=>none)
   | _=>none)
noncomputable def cJ (op:Op):Option I:=Op.rec (motive:=fun _=>Option I) (RW) (J3) (RX) (Mh P) (WI) (Mi P) (wZ P) (fun _ _ _ _=>none) (RY P) (Mj P) (fun _=>none) (fun _=>none) (Cu) (Mk P) (RZ) (Fw P) (fun _ _=>none) (fun _ _=>none) (Cv) (Fx P) (fun _ _=>none) (yK P) (Ml P) (yL P) (Mm P) (yM P) (Mn P) (J4 P) (yN P) (Cw P) (xa) (Mo P) (R3) (Mp) (fun _ _ _ _=>none) (Fy) (R4 P) (fun _=>none) (fun _=>none) (fun _=>none) (fun _ _=>none) (fun _ _ _=>none) (fun _ _=>none) op
end
end E
end Go.Proofs.YtlmabdegojeheaaGreatDoor
