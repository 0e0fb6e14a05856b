/- WholeTurned: parts of its proof (Es Et Eu). -/
import Derived.Test.YtlmabdegojeheaaGreatDoorEr
import Derived.Test.YtlmabdegojeheaaGreatDoorZfNt
import Derived.Test.YtlmabdegojeheaaGreatDoorGcS5
import Derived.Test.YtlmabdegojeheaaGreatDoorUsPta
namespace Go.Proofs.YtlmabdegojeheaaGreatDoor
open R Go.RowKit
namespace E
theorem dH.below {ρ:Rn} {h:H} {nx:Nat} {w w':World} (hs:Sat ρ h w) (hb:Below w.heap.size w w'):dH ρ h nx w ρ h nx w' where
 ext:=Ext.refl ρ
 sat:=hs.more (Ext.refl ρ) hb.block
 le:=Nat.le_refl _
 same:=fun _ _=>rfl
 os:=hb.os
 tape:=hb.tape
 output:=hb.output
 size:=hb.size
 kC:=fun b hb' _=>hb.block b hb'
 FF:=fun _ _ k=>k
noncomputable def dD (f:List V→Option V):List V→H→Nat→HR:=fun vs h nx=>Option.rec (motive:=fun _=>HR) none (fun v=>some (v,h,nx)) (f vs)
def bR (P:Program) (g:Nat) (f:List V→Option V):Prop:=∀ {vs v},f vs=some v→∀ {ρ xs},aT ρ vs xs→∃ x,Den ρ v x∧∀ w,Calls P g xs.toArray w fun e w'=>e=.returned x∧Below w.heap.size w w'
theorem aX {P:Program} {g:Nat} [hb:ab P g] {f:List V→Option V} (hf:bR P g f):fB P g (dD f):=by
 intro vs h nx v h' aL ρ w xs hr hd hs _ _
 unfold dD at hr
 obtain ⟨u,h1,h2⟩:=iM hr
 cases h2
 obtain ⟨x,h3,h4⟩:=hf h1 hd
 rw [aM hb]
 show Calls P g xs.toArray w fun e w''=>∃ x,e=.returned x∧∃ ρ',Den ρ' v x∧dH ρ h nx w ρ' h nx w''
 refine (h4 w).mono ?_
 rintro e w' ⟨rfl,hb⟩
 exact ⟨x,rfl,ρ,h3,dH.below hs hb⟩
theorem jg {P:Program} {g:Nat} {args:Array Value} {x y:Value} (h:∀ w,Calls P g args w fun e w'=>e=.returned x∧Below w.heap.size w w') (e:x=y):∀ w,Calls P g args w fun e w'=>e=.returned y∧Below w.heap.size w w':=by
 subst e
 exact h
theorem XH {P:Program} {g:Nat} {args:Array Value} {x y:Value} (h:∀ w,Calls P g args w fun e w'=>e=.returned x∧w=w') (e:x=y):∀ w,Calls P g args w fun e w'=>e=.returned y∧Below w.heap.size w w':=fun w=>by
 subst e
 refine (h w).mono ?_
 rintro e w' ⟨rfl,rfl⟩
 exact ⟨rfl,Below.refl _ _⟩
noncomputable def word (v:V) (K:Nat→Option Nat):Option Nat:=match v with
 | .i k n=>bif kb k .u64 then (match n with|.ofNat m=>bif Nat.blt m 18446744073709551616 then K m else none|_=>none) else none
 | _=>none
noncomputable def dW:Nat→List V→Option Nat
 | 0,[]=>some 0
 | k+1,v::l=>word v fun a=>match dW k l with|some r=>some (a+18446744073709551616*r)|none=>none
 | _,_=>none
noncomputable def xt (n:Nat):List V:=[.i .u64 (.ofNat (n % 18446744073709551616)),.i .u64 (.ofNat (n / 18446744073709551616 % 18446744073709551616)),.i .u64 (.ofNat (n / 340282366920938463463374607431768211456 % 18446744073709551616)),.i .u64 (.ofNat (n / 6277101735386680763835789423207666416102355444464034512896 % 18446744073709551616)),.i .u64 (.ofNat (n / 115792089237316195423570985008687907853269984665640564039457584007913129639936 % 18446744073709551616)),.i .u64 (.ofNat (n / 2135987035920910082395021706169552114602704522356652769947041607822219725780640550022962086936576 % 18446744073709551616)),.i .u64 (.ofNat (n / 39402006196394479212279040100143613805079739270465446667948293404245721771497210611414266254884915640806627990306816 % 18446744073709551616)),.i .u64 (.ofNat (n / 726838724295606890549323807888004534353641360687318060281490199180639288113397923326191050713763565560762521606266177933534601628614656 % 18446744073709551616))]
theorem Nb {ρ:Rn} {v:V} {x:Value} {K:Nat→Option Nat} {r:Nat} (h:word v K=some r) (hd:Den ρ v x):∃ m:Nat,m<18446744073709551616∧x=.int .u64 (m:Int)∧K m=some r:=by
 unfold word at h
 split at h
 ·rename_i k n
  obtain ⟨h1,h2⟩:=nX h
  split at h2
  ·rename_i m
   obtain ⟨h3,h4⟩:=nX h2
   rw [blt_eq] at h3
   have:=dC h1
   subst this
   cases hd
   exact ⟨m,of_decide_eq_true h3,rfl,h4⟩
  ·cases h2
 ·cases h
theorem IE {ρ:Rn}:∀ {k:Nat} {l:List V} {n:Nat} {xs:List Value},dW k l=some n→aT ρ l xs→n<fI k∧xs=(List.range k).map fun j=>.int .u64 (wd n j:Nat)
 | 0,[],n,xs,h,hd=>by
  cases h
  cases hd
  exact ⟨by decide,rfl⟩
 | 0,v::l,n,xs,h,hd=>by cases h
 | k+1,[],n,xs,h,hd=>by cases h
 | k+1,v::l,n,xs,h,hd=>by
  cases hd with
  | cons a b =>
   obtain ⟨m,h1,rfl,h2⟩:=Nb (show word v _=some n from h) a
   split at h2
   ·rename_i r hr
    cases h2
    obtain ⟨h3,rfl⟩:=IE hr b
    refine ⟨?_,?_⟩
    ·have e:fI (k+1)=18446744073709551616*fI k:=by
      unfold fI
      rw [show 64*(k+1)=64+64*k by omega,Nat.pow_add]
     have:18446744073709551616*(r+1)≤18446744073709551616*fI k:=Nat.mul_le_mul_left _ h3
     omega
    ·rw [List.range_succ_eq_map,List.map_cons,List.map_map,NW _ _ h1]
     refine congrArg _ (List.map_congr_left fun j _=>?_)
     show _=Value.int .u64 ((wd (m+18446744073709551616*r) (j+1):Nat):Int)
     rw [Tq _ _ _ h1]
   ·cases h2
theorem j4 {ρ:Rn} {l:List V} {n:Nat} {xs:List Value} (h:dW 8 l=some n) (hd:aT ρ l xs):xs=cW (W n)∧(W n).n=n:=by
 obtain ⟨h1,rfl⟩:=IE h hd
 have h2:n<aq:=by
  unfold aq
  exact h1
 exact ⟨by rw [Bw h2];rfl,oP h2⟩
theorem kO (ρ:Rn) (a b:Nat) (h:a=b):Den ρ (.i .u64 (.ofNat a)) (.int .u64 (b:Int)):=by
 subst h
 exact .i _ _
theorem Nc (ρ:Rn) (n:Nat):aT ρ (xt n) (ee n):=by
 unfold xt ee wd
 refine .cons (kO ρ _ _ ?_) (.cons (kO ρ _ _ ?_) (.cons (kO ρ _ _ ?_) (.cons (kO ρ _ _ ?_) (.cons (kO ρ _ _ ?_) (.cons (kO ρ _ _ ?_) (.cons (kO ρ _ _ ?_) (.cons (kO ρ _ _ ?_) .nil)))))))
 ·rw [show 64*0=0 from rfl,Nat.pow_zero,Nat.div_one]
 all_goals kernel_rfl
theorem mB (ρ:Rn) {n:Nat} {a:Wd} (h:a.n=n):aT ρ (xt n) (cW a):=by
 subst h
 exact Nc ρ a.n
noncomputable def zS (neg:Bool) (n:Nat):Int:=bif neg then Int.neg (.ofNat n) else .ofNat n
theorem jq (a:Sg):zS a.neg a.br.n=a.z:=by
 unfold zS Sg.z
 cases a.neg <;> rfl
noncomputable def aW (v:V) (K:Nat→Option V):Option V:=match v with|.ag l=>(match dW 8 l with|some n=>K n|none=>none)|_=>none
noncomputable def aS (v:V) (K:Bool→Nat→Option V):Option V:=match v with|.ag (.b neg::l)=>(match dW 8 l with|some n=>K neg n|none=>none)|_=>none
noncomputable def aZ (v:V) (K:Int→Option V):Option V:=aS v fun neg n=>K (zS neg n)
noncomputable def QO (v:V) (K:Bool→Nat→Bool→Nat→Nat→Option V):Option V:=match v with
 | .ag (.b p::l)=>(match dW 8 (l.take 8),l.drop 8 with
  | some x,.b q::r=>(match dW 8 (r.take 8),dW 8 (r.drop 8) with|some y,some w=>K p x q y w|_,_=>none)
  | _,_=>none)
 | _=>none
theorem aT.cut {ρ:Rn}:∀ {l:List V} {xs:List Value} (k:Nat),aT ρ l xs→aT ρ (l.take k) (xs.take k)∧aT ρ (l.drop k) (xs.drop k)
 | [],_,k,h=>by
  cases h
  simp only [List.take_nil,List.drop_nil]
  exact ⟨.nil,.nil⟩
 | v::l,_,0,h=>⟨.nil,h⟩
 | v::l,_,k+1,h=>by
  cases h with
  | cons a b =>
   obtain ⟨h1,h2⟩:=aT.cut k b
   exact ⟨.cons a h1,h2⟩
section
variable {ρ:Rn} {v r:V} {x:Value}
theorem jy {K:Nat→Option V} (h:aW v K=some r) (hd:Den ρ v x):∃ a:Wd,x=.agg (cW a).toArray∧K a.n=some r:=by
 unfold aW at h
 split at h
 ·rename_i l
  split at h
  ·rename_i n hn
   cases hd with
   | ag hl =>
    obtain ⟨rfl,h2⟩:=j4 hn hl
    exact ⟨W n,rfl,by rw [h2];exact h⟩
  ·cases h
 ·cases h
theorem zW {K:Bool→Nat→Option V} (h:aS v K=some r) (hd:Den ρ v x):∃ a:Sg,x=.agg (cS a).toArray∧K a.neg a.br.n=some r:=by
 unfold aS at h
 split at h
 ·rename_i neg l
  split at h
  ·rename_i n hn
   cases hd with
   | ag hl =>
    cases hl with
    | cons a b =>
     cases a
     obtain ⟨rfl,h2⟩:=j4 hn b
     exact ⟨⟨neg,W n⟩,rfl,by rw [h2];exact h⟩
  ·cases h
 ·cases h
theorem jA {K:Int→Option V} (h:aZ v K=some r) (hd:Den ρ v x):∃ a:Sg,x=.agg (cS a).toArray∧K a.z=some r:=by
 obtain ⟨a,h1,h2⟩:=zW h hd
 exact ⟨a,h1,by rw [← jq];exact h2⟩
theorem iT {K:Bool→Nat→Bool→Nat→Nat→Option V} (h:QO v K=some r) (hd:Den ρ v x):∃ a:Sp,x=.agg (bF a).toArray∧K a.x.neg a.x.br.n a.y.neg a.y.br.n a.w.n=some r:=by
 unfold QO at h
 split at h
 ·rename_i p l
  split at h
  ·rename_i n q l2 hn hq
   split at h
   ·rename_i y w hy hw
    cases hd with
    | ag hl =>
     cases hl with
     | @cons _ u _ us a b =>
      cases a
      obtain ⟨b1,b2⟩:=aT.cut 8 b
      rw [hq] at b2
      obtain ⟨e1,h1⟩:=j4 hn b1
      generalize hd2:us.drop 8=us2 at b2
      cases b2 with
      | @cons _ _ _ us3 c d =>
       cases c
       obtain ⟨d1,d2⟩:=aT.cut 8 d
       obtain ⟨e2,h2⟩:=j4 hy d1
       obtain ⟨e3,h3⟩:=j4 hw d2
       refine ⟨⟨⟨p,W n⟩,⟨q,W y⟩,W w⟩,?_,by rw [h1,h2,h3];exact h⟩
       have e4:us=cW (W n)++(.bool q::(cW (W y)++cW (W w))):=by
        rw [← e1,← e2,← e3,List.take_append_drop,← hd2,List.take_append_drop]
       rw [e4]
       rfl
   ·cases h
  ·cases h
 ·cases h
noncomputable def mW (z:Int):List V:=match z with|.ofNat n=>.b false::xt n|.negSucc n=>.b true::xt (Nat.succ n)
theorem eV (ρ:Rn) {z:Int} (h:z.natAbs<aq):aT ρ (mW z) (cS (a8 z)):=by
 cases z with
 | ofNat n =>
  have e:cS (a8 (Int.ofNat n))=.bool false::cW (W n):=by
   unfold cS a8
   rw [show decide (Int.ofNat n<0)=false from decide_eq_false (by simp)]
   rfl
  rw [e]
  exact .cons (.b _) (mB ρ (oP h))
 | negSucc n =>
  have e:cS (a8 (Int.negSucc n))=.bool true::cW (W (n+1)):=by
   unfold cS a8
   rw [show decide (Int.negSucc n<0)=true from decide_eq_true (Int.negSucc_lt_zero n)]
   rfl
  rw [e]
  exact .cons (.b _) (mB ρ (oP h))
noncomputable def SV:Nat:=aq
theorem zX:SV=aq:=rfl
noncomputable def XI (z:Int):V:=cv z fun z=>bif Nat.blt z.natAbs SV then .t [.ag (mW z),.b true] else .t [.ag (mW 0),.b false]
theorem Nd (ρ:Rn) (z:Int):Den ρ (XI z) (.tuple #[.agg (cS (b7 z)).toArray,.bool (decide (z.natAbs<aq))]):=by
 unfold XI
 rw [bp,blt_eq,zX]
 by_cases h:z.natAbs<aq
 ·rw [decide_eq_true h,oB h]
  exact .t (xs:=[_,_]) (.cons (.ag (eV ρ h)) (.cons (.b _) .nil))
 ·rw [decide_eq_false h,TS h]
  exact .t (xs:=[_,_]) (.cons (.ag (eV ρ (z:=0) bK)) (.cons (.b _) .nil))
noncomputable def KB (a b:Int):V:=.i .i64 (bif wV a b then .negSucc 0 else bif Me a b then .ofNat 0 else .ofNat 1)
theorem qq (ρ:Rn) (a b:Int):Den ρ (KB a b) (.int .i64 (aR a b)):=by
 unfold KB aR
 rw [ig,k7]
 by_cases h:a<b
 ·rw [decide_eq_true h,if_pos h]
  exact .i _ _
 ·rw [decide_eq_false h,if_neg h]
  by_cases h2:a=b
  ·rw [decide_eq_true h2,if_pos h2]
   exact .i _ _
  ·rw [decide_eq_false h2,if_neg h2]
   exact .i _ _
end
end E
namespace E
section
variable {ρ:Rn}
theorem F9 {u v:V} {xs:List Value} (h:aT ρ [u,v] xs):∃ x y,xs=[x,y]∧Den ρ u x∧Den ρ v y:=by
 cases h with
 | cons a b =>
  cases b with
  | cons c d =>
   cases d
   exact ⟨_,_,rfl,a,c⟩
theorem xw {u:V} {xs:List Value} (h:aT ρ [u] xs):∃ x,xs=[x]∧Den ρ u x:=by
 cases h with
 | cons a b =>
  cases b
  exact ⟨_,rfl,a⟩
theorem ado {u v t:V} {xs:List Value} (h:aT ρ [u,v,t] xs):∃ x y z,xs=[x,y,z]∧Den ρ u x∧Den ρ v y∧Den ρ t z:=by
 cases h with
 | cons a b =>
  obtain ⟨y,z,rfl,h2,h3⟩:=F9 b
  exact ⟨_,y,z,rfl,a,h2,h3⟩
theorem Vy {α:Type} {x y:α} (h:some x=some y):y=x:=(Option.some.inj h).symm
end
noncomputable def f1 (k:V→Option V) (vs:List V):Option V:=match vs with|[x]=>k x|_=>none
noncomputable def f2 (k:V→V→Option V) (vs:List V):Option V:=match vs with|[x,y]=>k x y|_=>none
noncomputable def f3 (k:V→V→V→Option V) (vs:List V):Option V:=match vs with|[x,y,z]=>k x y z|_=>none
section
variable {P:Program} {g:Nat}
theorem nB {k:V→Option V} (h:∀ {u v},k u=some v→∀ {ρ x},Den ρ u x→∃ r,Den ρ v r∧∀ w,Calls P g #[x] w fun e w'=>e=.returned r∧Below w.heap.size w w'):bR P g (f1 k):=by
 intro vs v hf ρ xs hd
 unfold f1 at hf
 split at hf
 ·obtain ⟨x,rfl,h1⟩:=xw hd
  exact h hf h1
 ·cases hf
theorem mR {k:V→V→Option V} (h:∀ {u t v},k u t=some v→∀ {ρ x y},Den ρ u x→Den ρ t y→∃ r,Den ρ v r∧∀ w,Calls P g #[x,y] w fun e w'=>e=.returned r∧Below w.heap.size w w'):bR P g (f2 k):=by
 intro vs v hf ρ xs hd
 unfold f2 at hf
 split at hf
 ·obtain ⟨x,y,rfl,h1,h2⟩:=F9 hd
  exact h hf h1 h2
 ·cases hf
theorem aah {k:V→V→V→Option V} (h:∀ {u t s v},k u t s=some v→∀ {ρ x y z},Den ρ u x→Den ρ t y→Den ρ s z→∃ r,Den ρ v r∧∀ w,Calls P g #[x,y,z] w fun e w'=>e=.returned r∧Below w.heap.size w w'):bR P g (f3 k):=by
 intro vs v hf ρ xs hd
 unfold f3 at hf
 split at hf
 ·obtain ⟨x,y,z,rfl,h1,h2,h3⟩:=ado hd
  exact h hf h1 h2 h3
 ·cases hf
end
noncomputable def zz (k:Int→Int→Int):List V→Option V:=f2 fun x y=>aZ x fun a=>aZ y fun b=>some (XI (k a b))
theorem Nf {g:Nat} {k:Int→Int→Int} (h:∀ a b:Sg,bj Tryz.prog g #[.agg (cS a).toArray,.agg (cS b).toArray] Unit (fun _ _=>True) (fun _=>.tuple #[.agg (cS (b7 (k a.z b.z))).toArray,.bool (decide ((k a.z b.z).natAbs<aq))])):bR Tryz.prog g (zz k) :=
 mR fun hk _ _ _ hx hy=>by
  obtain ⟨a,rfl,h1⟩:=jA hk hx
  obtain ⟨b,rfl,h2⟩:=jA h1 hy
  cases h2
  exact ⟨_,Nd _ _,fun w=>(h a b).h () w trivial⟩
theorem XJ:bR Tryz.prog 225 (zz Int.add):=Nf fun a b=>OQ a b
theorem XK:bR Tryz.prog 561 (zz Int.sub):=Nf fun a b=>OS a b
theorem XL:bR Tryz.prog 185 (zz Int.mul):=Nf fun a b=>OT a b
noncomputable def Vz:List V→Option V:=f2 fun x y=>aZ x fun a=>aZ y fun b=>some (KB a b)
theorem XM:bR Tryz.prog 123 Vz :=
 mR fun hk _ _ _ hx hy=>by
  obtain ⟨a,rfl,h1⟩:=jA hk hx
  obtain ⟨b,rfl,h2⟩:=jA h1 hy
  cases h2
  exact ⟨_,qq _ _ _,fun w=>(OU a b).h () w trivial⟩
noncomputable def VA:List V→Option V:=f1 fun x=>aZ x fun a=>cv a fun a=>some (.ag (mW a))
theorem XN:bR Tryz.prog 181 VA :=
 nB fun hk _ _ hx=>by
  obtain ⟨a,rfl,h1⟩:=jA hk hx
  rw [bp] at h1
  cases h1
  exact ⟨_,.ag (eV _ a.kF),fun w=>(OP a).h () w trivial⟩
noncomputable def Ng:List V→Option V:=f1 fun x=>aZ x fun a=>cv (Int.neg a) fun a=>some (.ag (mW a))
theorem SX:bR Tryz.prog 480 Ng :=
 nB fun hk _ _ hx=>by
  obtain ⟨a,rfl,h1⟩:=jA hk hx
  rw [bp] at h1
  cases h1
  exact ⟨_,.ag (eV _ (z:=-a.z) (by rw [Int.natAbs_neg];exact a.kF)),fun w=>(Li a).h () w trivial⟩
noncomputable def KC (z:Int):Bool:=!wV z (.negSucc 9223372036854775807)&&!wV (.ofNat 9223372036854775807) z
theorem zY (z:Int):KC z=decide (-9223372036854775808≤z∧z≤9223372036854775807):=by
 unfold KC
 rw [ig,ig,← decide_not,← decide_not,← Bool.decide_and]
 refine decide_eq_decide.2 ?_
 have e1:Int.negSucc 9223372036854775807=-9223372036854775808:=rfl
 have e2:Int.ofNat 9223372036854775807=9223372036854775807:=rfl
 rw [e1,e2]
 omega
noncomputable def IF:List V→Option V:=f1 fun x=>aZ x fun a=>cv a fun a=>some (bif KC a then .t [.i .i64 a,.b true] else .t [.i .i64 (.ofNat 0),.b false])
theorem Nh:bR Tryz.prog 479 IF :=
 nB fun hk _ _ hx=>by
  obtain ⟨a,rfl,h1⟩:=jA hk hx
  rw [bp,zY] at h1
  refine ⟨_,?_,fun w=>(pB a).h () w trivial⟩
  rw [Vy h1]
  unfold GW
  by_cases c:-9223372036854775808≤a.z∧a.z≤9223372036854775807
  ·rw [decide_eq_true c,if_pos c]
   exact .t (xs:=[_,_]) (.cons (.i _ _) (.cons (.b _) .nil))
  ·rw [decide_eq_false c,if_neg c]
   exact .t (xs:=[_,_]) (.cons (.i _ _) (.cons (.b _) .nil))
noncomputable def aai:List V→Option V:=f1 fun x=>match x with
 | .i k n=>bif kb k .i64 then bif KC n then cv n fun n=>some (.ag (mW n)) else none else none
 | _=>none
theorem vn {z:Int} (h:-9223372036854775808≤z∧z≤9223372036854775807):z.natAbs<aq:=fV xj
theorem aaj:bR Tryz.prog 224 aai :=
 nB fun hk _ _ hx=>by
  split at hk
  ·rename_i k n
   obtain ⟨h1,h2⟩:=nX hk
   obtain ⟨h3,h4⟩:=nX h2
   have:=dC h1
   subst this
   rw [bp] at h4
   rw [zY] at h3
   have h3:=of_decide_eq_true h3
   cases hx
   cases h4
   exact ⟨_,.ag (eV _ (vn h3)),fun w=>(TW n).h () w h3⟩
  ·cases hk
noncomputable def Ni:List V→Option V:=f1 fun x=>aW x fun a=>some (.b (Nat.beq a 0))
theorem SY:bR Tryz.prog 118 Ni :=
 nB fun hk _ _ hx=>by
  obtain ⟨a,rfl,h1⟩:=jy hk hx
  cases h1
  refine ⟨_,.b _,fun w=>?_⟩
  rw [bE]
  exact (Ly a).h () w trivial
noncomputable def VB:List V→Option V:=f2 fun x y=>aW x fun a=>aW y fun b=>some (KB (.ofNat a) (.ofNat b))
theorem XO:bR Tryz.prog 184 VB :=
 mR fun hk _ _ _ hx hy=>by
  obtain ⟨a,rfl,h1⟩:=jy hk hx
  obtain ⟨b,rfl,h2⟩:=jy h1 hy
  cases h2
  exact ⟨_,qq _ _ _,jg (fun w=>(PK a b).h () w trivial) (by rw [vU];rfl)⟩
noncomputable def KD (n:Nat):Nat:=bif Nat.beq n 0 then 0 else Nat.succ (Nat.log2 n)
theorem tZ (n:Nat):KD n=bitLen n:=by
 unfold KD
 rw [bE]
 by_cases h:n=0
 ·subst h
  rfl
 ·rw [decide_eq_false h]
  have h1:=bitLen_spec n
  have h2:=Nat.lt_log2_self (n:=n)
  have h3:=Nat.log2_self_le h
  have h4:bitLen n≤n.log2+1:=fU h2
  show n.log2+1=bitLen n
  rcases Nat.lt_or_ge n.log2 (bitLen n) with c|c
  ·omega
  ·have:=Nat.pow_le_pow_right (n:=2) vj c
   omega
noncomputable def VC:List V→Option V:=f1 fun x=>aW x fun a=>some (Ft (KD a))
theorem XP:bR Tryz.prog 117 VC :=
 nB fun hk _ _ hx=>by
  obtain ⟨a,rfl,h1⟩:=jy hk hx
  cases h1
  exact ⟨_,.i _ _,jg (fun w=>(PL a).h () w trivial) (by rw [← tZ];rfl)⟩
noncomputable def aak:List V→Option V:=f1 fun x=>match x with
 | .i k (.ofNat n)=>bif kb k .u64 then bif Nat.blt n 18446744073709551616 then some (.ag (xt n)) else none else none
 | _=>none
theorem aal:bR Tryz.prog 161 aak :=
 nB fun hk _ _ hx=>by
  split at hk
  ·rename_i k n
   obtain ⟨h1,h2⟩:=nX hk
   obtain ⟨h3,h4⟩:=nX h2
   have:=dC h1
   subst this
   rw [blt_eq] at h3
   have h3:=of_decide_eq_true h3
   cases hx
   cases h4
   refine ⟨_,.ag (mB _ (a:=W n) (oP (fV h3))),jg (fun w=>(UU (Int.ofNat n)).h () w ?_) rfl⟩
   unfold ai
   simp only [Int.ofNat_eq_natCast]
   omega
  ·cases hk
noncomputable def aam:List V→Option V:=f2 fun x y=>aW x fun a=>aW y fun b=>fO (Nat.gcd a b) fun n=>some (.ag (xt n))
theorem aan:bR Tryz.prog 179 aam :=
 mR fun hk _ _ _ hx hy=>by
  obtain ⟨a,rfl,h1⟩:=jy hk hx
  obtain ⟨b,rfl,h2⟩:=jy h1 hy
  rw [fg] at h2
  cases h2
  exact ⟨_,.ag (mB _ (gU a b)),fun w=>(Tf a b).h () w trivial⟩
noncomputable def Nj:List V→Option V:=f2 fun x y=>aW x fun a=>aW y fun b=>bif Nat.beq b 0 then none else fO (a / b) fun q=>fO (a % b) fun r=>some (.t [.ag (xt q),.ag (xt r),.i .i64 (.ofNat 0)])
theorem SZ:bR Tryz.prog 180 Nj :=
 mR fun hk _ _ _ hx hy=>by
  obtain ⟨a,rfl,h1⟩:=jy hk hx
  obtain ⟨b,rfl,h2⟩:=jy h1 hy
  obtain ⟨h3,h4⟩:=MP h2
  rw [bE] at h3
  have h0:=of_decide_eq_false h3
  rw [fg,fg] at h4
  cases h4
  have er:(rW a b).n=a.n % b.n:=by
   unfold rW tc
   rw [if_neg h0]
   exact qF a _ (Nat.mod_le _ _)
  refine ⟨.tuple #[.agg (cW (qW a b)).toArray,.agg (cW (rW a b)).toArray,.int .i64 0],.t (xs:=[_,_,_]) (.cons (.ag (mB _ (QQ a b))) (.cons (.ag (mB _ er)) (.cons (.i _ _) .nil))),jg (fun w=>(K9 a b).h () w trivial) ?_⟩
  rw [show eW b=0 from if_neg h0]
noncomputable def Nk (x y:Int):Int:=bif (wV x 0 == wV y 0) then .ofNat (x.natAbs / y.natAbs) else bif Nat.beq (x.natAbs % y.natAbs) 0 then Int.neg (.ofNat (x.natAbs / y.natAbs)) else Int.neg (.ofNat (Nat.succ (x.natAbs / y.natAbs)))
theorem IG (x y:Int):Nk x y=DU x y:=by
 unfold Nk DU
 rw [ig,ig,bE]
 by_cases c:(x<0↔y<0)
 ·rw [if_pos c,show (decide (x<0) == decide (y<0))=true from by simp [decide_eq_decide.2 c]]
  rfl
 ·rw [if_neg c,show (decide (x<0) == decide (y<0))=false from by
   rw [beq_eq_false_iff_ne]
   exact fun e=>c (decide_eq_decide.1 e)]
  by_cases d:x.natAbs % y.natAbs=0
  ·rw [if_pos d,decide_eq_true d]
   rfl
  ·rw [if_neg d,decide_eq_false d]
   rfl
noncomputable def Nl:List V→Option V:=f2 fun x y=>aZ x fun a=>aZ y fun b=>bif Me b 0 then none else cv (Nk a b) fun q=>bif Nat.blt q.natAbs SV then some (.t [.ag (mW q),.i .i64 (.ofNat 0)]) else none
theorem S7:bR Tryz.prog 478 Nl :=
 mR fun hk _ _ _ hx hy=>by
  obtain ⟨a,rfl,h1⟩:=jA hk hx
  obtain ⟨b,rfl,h2⟩:=jA h1 hy
  obtain ⟨h3,h4⟩:=MP h2
  rw [k7] at h3
  have h0:=of_decide_eq_false h3
  rw [bp] at h4
  obtain ⟨h5,h6⟩:=nX h4
  rw [blt_eq,zX] at h5
  have h5:=of_decide_eq_true h5
  have hb:b.br.n≠0:=by
   have:=b.abs
   omega
  cases h6
  have eo:Cd a b=a8 (Nk a.z b.z):=by
   unfold Cd
   rw [if_neg hb,IG]
  refine ⟨.tuple #[.agg (cS (Cd a b)).toArray,.int .i64 0],.t (xs:=[_,_]) (.cons ?_ (.cons (.i _ _) .nil)),jg (fun w=>(ym a b).h () w trivial) ?_⟩
  ·rw [eo]
   exact .ag (eV _ h5)
  ·rw [show eW b.br=0 from if_neg hb]
noncomputable def VD:List V→Option V:=f2 fun x y=>match x,y with
 | .i k (.ofNat a),.i k' (.ofNat b)=>bif (kb k .u64&&kb k' .u64)&&(Nat.blt a 18446744073709551616&&Nat.blt b 18446744073709551616) then fO (a*b) fun n=>some (.t [.i .u64 (.ofNat (n / 18446744073709551616)),.i .u64 (.ofNat (n % 18446744073709551616))]) else none
 | _,_=>none
theorem XQ:bR Tryz.prog 114 VD :=
 mR fun hk _ _ _ hx hy=>by
  split at hk
  ·rename_i k a k' b
   obtain ⟨h1,h2⟩:=nX hk
   simp only [Bool.and_eq_true] at h1
   obtain ⟨⟨h3,h4⟩,h5,h6⟩:=h1
   have:=dC h3
   subst this
   have:=dC h4
   subst this
   rw [blt_eq] at h5 h6
   have h5:=of_decide_eq_true h5
   have h6:=of_decide_eq_true h6
   rw [fg] at h2
   cases hx
   cases hy
   cases h2
   refine ⟨.tuple #[.int .u64 ((a*b / 18446744073709551616:Nat):Int),.int .u64 ((a*b % 18446744073709551616:Nat):Int)],.t (xs:=[_,_]) (.cons (.i _ _) (.cons (.i _ _) .nil)),XH (fun w=>(Mb (Int.ofNat a) (Int.ofNat b)).h () w ?_) ?_⟩
   ·unfold ai
    simp only [Int.ofNat_eq_natCast]
    omega
   ·show Value.tuple #[.int .u64 (fW (Int.ofNat a*Int.ofNat b)),.int .u64 (aw (Int.ofNat a*Int.ofNat b))]=_
    have e1:fW (Int.ofNat a*Int.ofNat b)=((a*b / 18446744073709551616:Nat):Int):=by kernel_rfl
    have e2:aw (Int.ofNat a*Int.ofNat b)=((a*b % 18446744073709551616:Nat):Int):=by kernel_rfl
    rw [e1,e2]
  ·cases hk
noncomputable def Ga (p:Bool) (x:Nat) (q:Bool) (y:Nat) (w:Nat):Option V:=fO (Nat.gcd (Nat.gcd x y) w) fun g=>fO (x / g) fun x=>fO (y / g) fun y=>fO (w / g) fun w=>some (.ag (mW (zS p x)++(mW (zS q y)++xt w)))
theorem S8 (ρ:Rn) (x y:Sg) (m:Wd) {v:V} (h:Ga x.neg x.br.n y.neg y.br.n m.n=some v):Den ρ v (.agg (bF (nH x y m)).toArray):=by
 unfold Ga at h
 rw [fg,fg,fg,fg] at h
 cases h
 have hg:(gS x y m).n=Nat.gcd (Nat.gcd x.br.n y.br.n) m.n:=by
  unfold gS
  rw [gU,gU]
 have key:∀ s:Sg,aT ρ (mW (zS s.neg (s.br.n / (gS x y m).n))) (cS (a8 (⟨s.neg,qW s.br (gS x y m)⟩:Sg).z)):=fun s=>by
  have e:zS s.neg (s.br.n / (gS x y m).n)=(⟨s.neg,qW s.br (gS x y m)⟩:Sg).z:=by
   rw [← jq]
   show _=zS s.neg (qW s.br (gS x y m)).n
   rw [QQ]
  rw [e]
  exact eV ρ (Sg.kF _)
 rw [← hg]
 refine .ag ?_
 unfold nH bF
 exact (key x).append ((key y).append (mB ρ (QQ m _)))
noncomputable def aao:List V→Option V:=f3 fun x y z=>aS x fun p a=>aS y fun q b=>aW z fun c=>Ga p a q b c
theorem aap:bR Tryz.prog 119 aao :=
 aah fun hk _ _ _ _ hx hy hz=>by
  obtain ⟨a,rfl,h1⟩:=zW hk hx
  obtain ⟨b,rfl,h2⟩:=zW h1 hy
  obtain ⟨c,rfl,h3⟩:=jy h2 hz
  exact ⟨_,S8 _ a b c h3,fun w=>(OV a b c).h () w trivial⟩
noncomputable def XS (p:Bool) (x:Nat):Bool:=Nat.blt x 1329227995784915872903807060280344576&&!(p&&Nat.beq x 0)
noncomputable def aaq:List V→Option V:=f1 fun x=>QO x fun p x q y w=>some (.b (!Nat.beq w 0&&(XS p x&&(XS q y&&(Nat.blt w 1329227995784915872903807060280344576&&Nat.beq (Nat.gcd (Nat.gcd x y) w) 1)))))
theorem rQ (n:Nat):iy n=decide (n<1329227995784915872903807060280344576):=by
 unfold iy
 refine decide_eq_decide.2 ?_
 have h1:=bitLen_spec n
 constructor
 ·intro h
  exact Nat.lt_of_lt_of_le h1.1 (Nat.le_trans (Nat.pow_le_pow_right (n:=2) vj (show bitLen n≤120 by omega)) vj)
 ·intro h
  have:=fU (x:=n) (m:=120) xj
  omega
theorem zZ {a:Sg}:a=a8 a.z↔(a.neg&&Nat.beq a.br.n 0)=false:=by
 rw [bE]
 constructor
 ·intro h
  have h1:a.neg=decide (a.z<0):=congrArg Sg.neg h
  have h2:=a.abs
  by_cases c:a.br.n=0
  ·rw [h1,decide_eq_false (by omega)]
   rfl
  ·rw [decide_eq_false c,Bool.and_false]
 ·intro h
  by_cases c:a.br.n=0
  ·rw [decide_eq_true c,Bool.and_true] at h
   rw [DP c]
   exact Sg.ext_iff.2 ⟨h,Wd.PI.2 c⟩
  ·exact (DQ c).symm
theorem IH (a:Sp):bo a=(!Nat.beq a.w.n 0&&(XS a.x.neg a.x.br.n&&(XS a.y.neg a.y.br.n&&(Nat.blt a.w.n 1329227995784915872903807060280344576&&Nat.beq (Nat.gcd (Nat.gcd a.x.br.n a.y.br.n) a.w.n) 1)))):=by
 unfold XS
 rw [blt_eq,blt_eq,blt_eq]
 cases h:bo a with
 | true =>
  obtain ⟨h0,h1,h2,h3,h4,h5,h6⟩:=cq h
  rw [a.x.abs,a.y.abs] at h6
  rw [zZ.1 h4,zZ.1 h5,h6,decide_eq_true xj,decide_eq_true xj,decide_eq_true xj,bE a.w.n,decide_eq_false (by omega)]
  rfl
 | false =>
  refine Eq.symm (Bool.eq_false_iff.2 fun hh=>?_)
  simp only [Bool.and_eq_true,Bool.not_eq_true',decide_eq_true_eq] at hh
  obtain ⟨h0,⟨h1,h2⟩,⟨h3,h4⟩,h5,h6⟩:=hh
  rw [bE] at h0
  have h0:=of_decide_eq_false h0
  have hG:gS a.x a.y a.w=W 1:=by
   unfold gS
   refine Wd.lq ?_
   rw [gU,gU,Nat.eq_of_beq_eq_true h6,oP (fV vj)]
  have hl:nH a.x a.y a.w=a:=by
   unfold nH
   rw [hG,sd,sd,sd]
   exact Sp.ext_iff.2 ⟨(zZ.2 h2).symm,(zZ.2 h4).symm,rfl⟩
  have:bo a=true:=by
   unfold bo
   rw [hl,rQ,rQ,rQ,decide_eq_true h1,decide_eq_true h3,decide_eq_true h5,decide_eq_false h0,decide_eq_true rfl]
   rfl
  rw [this] at h
  cases h
theorem aar:bR Tryz.prog 71 aaq :=
 nB fun hk _ _ hx=>by
  obtain ⟨a,rfl,h1⟩:=iT hk hx
  cases h1
  refine ⟨_,.b _,jg (fun w=>(OW a).h () w trivial) ?_⟩
  rw [IH]
noncomputable def Nn:List V→Option V:=f2 fun x y=>QO x fun p a q b c=>QO y fun p' a' q' b' c'=>bif Nat.blt a 1329227995784915872903807060280344576&&(Nat.blt b 1329227995784915872903807060280344576&&(Nat.blt c 1329227995784915872903807060280344576&&(Nat.blt a' 1329227995784915872903807060280344576&&(Nat.blt b' 1329227995784915872903807060280344576&&Nat.blt c' 1329227995784915872903807060280344576)))) then
 some (bif Me (Int.mul (zS p a) (.ofNat c')) (Int.mul (zS p' a') (.ofNat c)) then KB (Int.mul (zS q b) (.ofNat c')) (Int.mul (zS q' b') (.ofNat c)) else KB (Int.mul (zS p a) (.ofNat c')) (Int.mul (zS p' a') (.ofNat c))) else none
theorem S9:bR Tryz.prog 74 Nn :=
 mR fun hk _ _ _ hx hy=>by
  obtain ⟨a,rfl,h1⟩:=iT hk hx
  obtain ⟨b,rfl,h2⟩:=iT h1 hy
  obtain ⟨h3,h4⟩:=nX h2
  simp only [Bool.and_eq_true,blt_eq,decide_eq_true_eq] at h3
  obtain ⟨g1,g2,g3,g4,g5,g6⟩:=h3
  rw [jq,jq,jq,jq] at h4
  refine ⟨_,?_,fun w=>(Bf a b).h () w trivial⟩
  rw [Vy h4,show d9 a b=te (Lj a.x b.x a.w b.w) (Lj a.y b.y a.w b.w) from rfl,uq xj xj xj xj,uq xj xj xj xj,k7]
  unfold te
  by_cases c:a.x.z*(b.w.n:Int)=b.x.z*(a.w.n:Int)
  ·rw [if_neg (fun k=>k (kz.2 c)),show decide (Int.mul a.x.z (Int.ofNat b.w.n)=Int.mul b.x.z (Int.ofNat a.w.n))=true from decide_eq_true c]
   exact qq _ _ _
  ·rw [if_pos (fun k=>c (kz.1 k)),show decide (Int.mul a.x.z (Int.ofNat b.w.n)=Int.mul b.x.z (Int.ofNat a.w.n))=false from decide_eq_false c]
   exact qq _ _ _
end E
namespace E
noncomputable def mX (z:Int) (K:Int→Option V):Option V:=cv z fun z=>bif Nat.blt z.natAbs SV then K z else none
theorem bZ {z:Int} {K:Int→Option V} {r:V} (h:mX z K=some r):z.natAbs<aq∧(b7 z).z=z∧b7 z=a8 z∧K z=some r:=by
 unfold mX at h
 rw [bp] at h
 obtain ⟨h1,h2⟩:=nX h
 rw [blt_eq,zX] at h1
 have h1:=of_decide_eq_true h1
 exact ⟨h1,by rw [oB h1,lX h1],oB h1,h2⟩
noncomputable def Zy (v:V) (K:Int→Int→Option V):Option V:=match v with
 | .ag (.b p::l)=>(match dW 8 (l.take 8),l.drop 8 with
  | some x,.b q::r=>(match dW 8 r with|some y=>K (zS p x) (zS q y)|none=>none)
  | _,_=>none)
 | _=>none
theorem qu {ρ:Rn} {v r:V} {x:Value} {K:Int→Int→Option V} (h:Zy v K=some r) (hd:Den ρ v x):∃ a:Wy,x=.agg (EX a).toArray∧K a.x.z a.y.z=some r:=by
 unfold Zy at h
 split at h
 ·rename_i p l
  split at h
  ·rename_i n q l2 hn hq
   split at h
   ·rename_i y hy
    cases hd with
    | ag hl =>
     cases hl with
     | @cons _ u _ us a b =>
      cases a
      obtain ⟨b1,b2⟩:=aT.cut 8 b
      rw [hq] at b2
      obtain ⟨e1,h1⟩:=j4 hn b1
      generalize hd2:us.drop 8=us2 at b2
      cases b2 with
      | @cons _ _ _ us3 c d =>
       cases c
       obtain ⟨e2,h2⟩:=j4 hy d
       refine ⟨⟨⟨p,W n⟩,⟨q,W y⟩⟩,?_,?_⟩
       ·have e4:us=cW (W n)++(.bool q::cW (W y)):=by
         rw [← e1,← e2,← hd2,List.take_append_drop]
        rw [e4]
        rfl
       ·rw [← jq,← jq]
        show K (zS p (W n).n) (zS q (W y).n)=some r
        rw [h1,h2]
        exact h
   ·cases h
  ·cases h
 ·cases h
noncomputable def aPt (v:V) (K:Int→Int→Option V):Option V:=match v with
 | .ag [.i k x,.i k' y]=>bif (kb k .i64&&kb k' .i64)&&(KC x&&KC y) then K x y else none
 | _=>none
theorem C9 {ρ:Rn} {v r:V} {x:Value} {K:Int→Int→Option V} (h:aPt v K=some r) (hd:Den ρ v x):∃ a:Pt,x=.agg (cr a).toArray∧ao a.x∧ao a.y∧K a.x a.y=some r:=by
 unfold aPt at h
 split at h
 ·rename_i k m k' n
  obtain ⟨h1,h2⟩:=nX h
  simp only [Bool.and_eq_true] at h1
  obtain ⟨⟨h3,h4⟩,h5,h6⟩:=h1
  have:=dC h3
  subst this
  have:=dC h4
  subst this
  rw [zY] at h5 h6
  cases hd with
  | ag hl =>
   obtain ⟨x,y,rfl,hx,hy⟩:=F9 hl
   cases hx
   cases hy
   exact ⟨⟨m,n⟩,rfl,of_decide_eq_true h5,of_decide_eq_true h6,h2⟩
 ·cases h
theorem Np (ρ:Rn) {x y:Int} (hx:x.natAbs<aq) (hy:y.natAbs<aq):Den ρ (.ag (mW x++mW y)) (.agg (EX ⟨a8 x,a8 y⟩).toArray):=.ag ((eV ρ hx).append (eV ρ hy))
theorem Nq (a:Sp):(VH a).z=(a.w.n:Int):=rfl
noncomputable def aas:List V→Option V:=f2 fun x y=>QO x fun p a q b c=>aPt y fun u v =>
 mX (Int.mul u (.ofNat c)) fun u=>mX (Int.sub u (zS p a)) fun u=>mX (Int.mul v (.ofNat c)) fun v=>mX (Int.sub v (zS q b)) fun v=>some (.ag (mW u++mW v))
theorem aat:bR Tryz.prog 543 aas :=
 mR fun hk _ _ _ hx hy=>by
  obtain ⟨a,rfl,h1⟩:=iT hk hx
  obtain ⟨p,rfl,hp1,hp2,h2⟩:=C9 h1 hy
  rw [jq,jq] at h2
  obtain ⟨g1,g2,_,h3⟩:=bZ h2
  obtain ⟨g3,_,g4,h4⟩:=bZ h3
  obtain ⟨g5,g6,_,h5⟩:=bZ h4
  obtain ⟨g7,_,g8,h6⟩:=bZ h5
  cases h6
  refine ⟨_,Np _ g3 g7,jg (fun w=>(Tg a p).h () w ⟨hp1,hp2⟩) ?_⟩
  have e:toW a p=⟨a8 (Int.sub (Int.mul p.x (Int.ofNat a.w.n)) a.x.z),a8 (Int.sub (Int.mul p.y (Int.ofNat a.w.n)) a.y.z)⟩:=by
   unfold toW
   rw [Nq,lX (vn hp1),lX (vn hp2)]
   rw [show (b7 (p.x*(a.w.n:Int))).z=p.x*(a.w.n:Int) from g2,show (b7 (p.y*(a.w.n:Int))).z=p.y*(a.w.n:Int) from g6]
   rw [show b7 (p.x*(a.w.n:Int)-a.x.z)=a8 (p.x*(a.w.n:Int)-a.x.z) from g4,show b7 (p.y*(a.w.n:Int)-a.y.z)=a8 (p.y*(a.w.n:Int)-a.y.z) from g8]
   rfl
  rw [e]
noncomputable def VE:List V→Option V:=f2 fun x y=>QO x fun p a q b c=>QO y fun p' a' q' b' c' =>
 mX (Int.mul (zS p' a') (.ofNat c)) fun u=>mX (Int.mul (zS p a) (.ofNat c')) fun v=>mX (Int.sub u v) fun s=>mX (Int.mul (zS q' b') (.ofNat c)) fun u=>mX (Int.mul (zS q b) (.ofNat c')) fun v=>mX (Int.sub u v) fun t=>some (.ag (mW s++mW t))
theorem XT:bR Tryz.prog 541 VE :=
 mR fun hk _ _ _ hx hy=>by
  obtain ⟨a,rfl,h1⟩:=iT hk hx
  obtain ⟨b,rfl,h2⟩:=iT h1 hy
  rw [jq,jq,jq,jq] at h2
  obtain ⟨_,g1,_,h3⟩:=bZ h2
  obtain ⟨_,g2,_,h4⟩:=bZ h3
  obtain ⟨f3,_,g3,h5⟩:=bZ h4
  obtain ⟨_,g4,_,h6⟩:=bZ h5
  obtain ⟨_,g5,_,h7⟩:=bZ h6
  obtain ⟨f6,_,g6,h8⟩:=bZ h7
  cases h8
  refine ⟨_,Np _ f3 f6,jg (fun w=>(ND a b).h () w trivial) ?_⟩
  have e:XZ a b=⟨a8 (Int.sub (Int.mul b.x.z (Int.ofNat a.w.n)) (Int.mul a.x.z (Int.ofNat b.w.n))),a8 (Int.sub (Int.mul b.y.z (Int.ofNat a.w.n)) (Int.mul a.y.z (Int.ofNat b.w.n)))⟩:=by
   unfold XZ
   rw [Nq,Nq]
   rw [show (b7 (b.x.z*(a.w.n:Int))).z=b.x.z*(a.w.n:Int) from g1,show (b7 (a.x.z*(b.w.n:Int))).z=a.x.z*(b.w.n:Int) from g2,show (b7 (b.y.z*(a.w.n:Int))).z=b.y.z*(a.w.n:Int) from g4,show (b7 (a.y.z*(b.w.n:Int))).z=a.y.z*(b.w.n:Int) from g5]
   rw [show b7 (b.x.z*(a.w.n:Int)-a.x.z*(b.w.n:Int))=_ from g3,show b7 (b.y.z*(a.w.n:Int)-a.y.z*(b.w.n:Int))=_ from g6]
  rw [e]
noncomputable def VF:List V→Option V:=f2 fun x y=>Zy x fun a b=>Zy y fun c d=>mX (Int.mul a c) fun u=>mX (Int.mul b d) fun v=>mX (Int.add u v) fun s=>some (.ag (mW s))
theorem XU:bR Tryz.prog 542 VF :=
 mR fun hk _ _ _ hx hy=>by
  obtain ⟨a,rfl,h1⟩:=qu hk hx
  obtain ⟨b,rfl,h2⟩:=qu h1 hy
  obtain ⟨_,g1,_,h3⟩:=bZ h2
  obtain ⟨_,g2,_,h4⟩:=bZ h3
  obtain ⟨f3,_,g3,h5⟩:=bZ h4
  cases h5
  refine ⟨_,.ag (eV _ f3),jg (fun w=>(NF a b).h () w trivial) ?_⟩
  have e:X0 a b=a8 (Int.add (Int.mul a.x.z b.x.z) (Int.mul a.y.z b.y.z)):=by
   unfold X0
   rw [show (b7 (a.x.z*b.x.z)).z=a.x.z*b.x.z from g1,show (b7 (a.y.z*b.y.z)).z=a.y.z*b.y.z from g2]
   exact g3
  rw [e]
noncomputable def II:List V→Option V:=f2 fun x y=>Zy x fun a b=>Zy y fun c d=>mX (Int.mul a d) fun u=>mX (Int.mul b c) fun v=>mX (Int.sub u v) fun s=>some (.ag (mW s))
theorem Nr:bR Tryz.prog 555 II :=
 mR fun hk _ _ _ hx hy=>by
  obtain ⟨a,rfl,h1⟩:=qu hk hx
  obtain ⟨b,rfl,h2⟩:=qu h1 hy
  obtain ⟨_,g1,_,h3⟩:=bZ h2
  obtain ⟨_,g2,_,h4⟩:=bZ h3
  obtain ⟨f3,_,g3,h5⟩:=bZ h4
  cases h5
  refine ⟨_,.ag (eV _ f3),jg (fun w=>(Gf a b).h () w trivial) ?_⟩
  have e:Ge a b=a8 (Int.sub (Int.mul a.x.z b.y.z) (Int.mul a.y.z b.x.z)):=by
   unfold Ge
   rw [show (b7 (a.x.z*b.y.z)).z=a.x.z*b.y.z from g1,show (b7 (a.y.z*b.x.z)).z=a.y.z*b.x.z from g2]
   exact g3
  rw [e]
noncomputable def Ns:List V→Option V:=f1 fun x=>QO x fun p a q b c=>some (.b (Nat.ble (KD a) 92&&(Nat.ble (KD b) 92&&(Nat.ble (KD c) 62&&(!Nat.beq c 0&&(XS p a&&(XS q b&&(Nat.blt c 1329227995784915872903807060280344576&&Nat.beq (Nat.gcd (Nat.gcd a b) c) 1))))))))
theorem ble_eq (m n:Nat):Nat.ble m n=decide (((m:Nat):Int)≤(n:Int)):=by
 cases h:Nat.ble m n with
 | true =>
  have:=Nat.le_of_ble_eq_true h
  exact (decide_eq_true xj).symm
 | false=>exact (decide_eq_false (fun k=>by rw [Nat.ble_eq_true_of_le (show m≤n by omega)] at h;cases h)).symm
theorem Ta:bR Tryz.prog 537 Ns :=
 nB fun hk _ _ hx=>by
  obtain ⟨a,rfl,h1⟩:=iT hk hx
  cases h1
  refine ⟨_,.b _,jg (fun w=>(KI a).h () w trivial) ?_⟩
  unfold NG
  rw [IH,tZ,tZ,tZ,ble_eq,ble_eq,ble_eq]
  rfl
noncomputable def aau:List V→Option V:=f1 fun x=>aPt x fun a b=>some (.b (!wV a (.negSucc 536870911)&&(!wV (.ofNat 536870912) a&&(!wV b (.negSucc 536870911)&&!wV (.ofNat 536870912) b))))
theorem aav:bR Tryz.prog 93 aau :=
 nB fun hk _ _ hx=>by
  obtain ⟨a,rfl,_,_,h1⟩:=C9 hk hx
  cases h1
  refine ⟨_,.b _,jg (fun w=>(x6 a).h () w trivial) ?_⟩
  unfold oT
  have e1:∀ z,(!wV z (Int.negSucc 536870911))=decide (-536870912≤z):=fun z=>by
   rw [ig,← decide_not]
   exact decide_eq_decide.2 (by rw [show Int.negSucc 536870911=-536870912 from rfl];omega)
  have e2:∀ z,(!wV (Int.ofNat 536870912) z)=decide (z≤536870912):=fun z=>by
   rw [ig,← decide_not]
   exact decide_eq_decide.2 (by rw [show Int.ofNat 536870912=536870912 from rfl];omega)
  rw [e1,e2,e1,e2]
noncomputable def xZ (x y:Int) (K:Int→Option V):Option V:=cv (Nk x y) fun q=>bif Nat.blt q.natAbs 4611686018427387904 then K q else none
noncomputable def KE (q:Int):Bool:=Nat.ble q.natAbs 1073741824
noncomputable def VG:List V→Option V:=f1 fun x=>QO x fun p a q b c=>bif Nat.beq c 0 then none else
 xZ (zS p a) (.ofNat c) fun x1=>xZ (zS q b) (.ofNat c) fun y1=>xZ (Int.neg (zS p a)) (.ofNat c) fun x2=>xZ (Int.neg (zS q b)) (.ofNat c) fun y2=>cv (Int.neg x2) fun x3=>cv (Int.neg y2) fun y3 =>
 some (.t [.ag [.i .i64 x1,.i .i64 y1],.ag [.i .i64 x3,.i .i64 y3],.b (KE x1&&(KE y1&&(KE x2&&KE y2)))])
theorem mC {s:Sg} {b:Wd} (h0:b.n≠0) {K:Int→Option V} {r:V} (h:xZ s.z (Int.ofNat b.n) K=some r):K (IP s b)=some r∧(IP s b).natAbs<4611686018427387904∧KE (IP s b)=decide (Fj s b):=by
 unfold xZ at h
 rw [bp,IG] at h
 obtain ⟨h1,h2⟩:=nX h
 rw [blt_eq] at h1
 have h1:=of_decide_eq_true h1
 have hz:(Cd s ⟨false,b⟩).z=DU s.z (Int.ofNat b.n):=by
  unfold Cd
  rw [if_neg h0]
  exact lX (fV (Nat.lt_trans h1 vj))
 have hd:IP s b=DU s.z (Int.ofNat b.n):=by
  unfold IP GW
  rw [hz,if_pos (by omega)]
 refine ⟨by rw [hd];exact h2,by rw [hd];exact h1,?_⟩
 unfold KE
 rw [hd,ble_eq]
 refine decide_eq_decide.2 ?_
 unfold Fj
 rw [hz]
 omega
theorem XV:bR Tryz.prog 364 VG :=
 nB fun hk _ _ hx=>by
  obtain ⟨a,rfl,h1⟩:=iT hk hx
  obtain ⟨h2,h3⟩:=MP h1
  rw [bE] at h2
  have h0:=of_decide_eq_false h2
  rw [jq,jq] at h3
  have n1:Int.neg a.x.z=(a8 (-a.x.z)).z:=(lX (z:=-a.x.z) (by rw [Int.natAbs_neg];exact a.x.kF)).symm
  have n2:Int.neg a.y.z=(a8 (-a.y.z)).z:=(lX (z:=-a.y.z) (by rw [Int.natAbs_neg];exact a.y.kF)).symm
  rw [n1,n2] at h3
  obtain ⟨h4,_,g1⟩:=mC h0 h3
  obtain ⟨h5,_,g2⟩:=mC h0 h4
  obtain ⟨h6,b3,g3⟩:=mC h0 h5
  obtain ⟨h7,b4,g4⟩:=mC h0 h6
  rw [bp,bp] at h7
  cases h7
  have u1:X3 a.x a.w=-(IP (a8 (-a.x.z)) a.w):=R.wrap_i64 (by unfold ao;omega)
  have u2:X3 a.y a.w=-(IP (a8 (-a.y.z)) a.w):=R.wrap_i64 (by unfold ao;omega)
  refine ⟨_,?_,fun w=>(De a).h () w trivial⟩
  unfold X5 NI cr
  simp only
  rw [u1,u2,g1,g2,g3,g4]
  have e:decide (qw a)=(decide (Fj a.x a.w)&&(decide (Fj a.y a.w)&&(decide (Fj (a8 (-a.x.z)) a.w)&&decide (Fj (a8 (-a.y.z)) a.w)))):=by
   rw [← Bool.decide_and,← Bool.decide_and,← Bool.decide_and]
   rfl
  rw [e]
  exact .t (xs:=[_,_,_]) (.cons (.ag (xs:=[_,_]) (.cons (.i _ _) (.cons (.i _ _) .nil))) (.cons (.ag (xs:=[_,_]) (.cons (.i _ _) (.cons (.i _ _) .nil))) (.cons (.b _) .nil)))
end E
end Go.Proofs.YtlmabdegojeheaaGreatDoor
