/- WholeTurned: parts of its proof (Et Eu Ev Ex). -/
import Derived.Test.YtlmabdegojeheaaGreatDoorErEs
import Derived.Test.YtlmabdegojeheaaGreatDoorUsPta
import Derived.Lib.Builder
import Derived.Lib.Bytealg
import Derived.Lib.MakeNoZero
namespace Go.Proofs.YtlmabdegojeheaaGreatDoor
open R Go.RowKit
namespace E
section
variable {ρ:Rn}
theorem F9 {u v:V} {xs:List Value} (h:aT ρ [u,v] xs):∃ x y,xs=[x,y]∧Den ρ u x∧Den ρ v y:=by
 cases h with
 | cons a b =>
  cases b with
  | cons c d =>
   cases d
   exact ⟨_,_,rfl,a,c⟩
theorem xw {u:V} {xs:List Value} (h:aT ρ [u] xs):∃ x,xs=[x]∧Den ρ u x:=by
 cases h with
 | cons a b =>
  cases b
  exact ⟨_,rfl,a⟩
theorem adq {u v t:V} {xs:List Value} (h:aT ρ [u,v,t] xs):∃ x y z,xs=[x,y,z]∧Den ρ u x∧Den ρ v y∧Den ρ t z:=by
 cases h with
 | cons a b =>
  obtain ⟨y,z,rfl,h2,h3⟩:=F9 b
  exact ⟨_,y,z,rfl,a,h2,h3⟩
theorem VA {α:Type} {x y:α} (h:some x=some y):y=x:=(Option.some.inj h).symm
end
noncomputable def f1 (k:V→Option V) (vs:List V):Option V:=match vs with|[x]=>k x|_=>none
noncomputable def f2 (k:V→V→Option V) (vs:List V):Option V:=match vs with|[x,y]=>k x y|_=>none
noncomputable def f3 (k:V→V→V→Option V) (vs:List V):Option V:=match vs with|[x,y,z]=>k x y z|_=>none
section
variable {P:Program} {g:Nat}
theorem nB {k:V→Option V} (h:∀ {u v},k u=some v→∀ {ρ x},Den ρ u x→∃ r,Den ρ v r∧∀ w,Calls P g #[x] w fun e w'=>e=.returned r∧Below w.heap.size w w'):bR P g (f1 k):=by
 intro vs v hf ρ xs hd
 unfold f1 at hf
 split at hf
 ·obtain ⟨x,rfl,h1⟩:=xw hd
  exact h hf h1
 ·cases hf
theorem mR {k:V→V→Option V} (h:∀ {u t v},k u t=some v→∀ {ρ x y},Den ρ u x→Den ρ t y→∃ r,Den ρ v r∧∀ w,Calls P g #[x,y] w fun e w'=>e=.returned r∧Below w.heap.size w w'):bR P g (f2 k):=by
 intro vs v hf ρ xs hd
 unfold f2 at hf
 split at hf
 ·obtain ⟨x,y,rfl,h1,h2⟩:=F9 hd
  exact h hf h1 h2
 ·cases hf
theorem aaj {k:V→V→V→Option V} (h:∀ {u t s v},k u t s=some v→∀ {ρ x y z},Den ρ u x→Den ρ t y→Den ρ s z→∃ r,Den ρ v r∧∀ w,Calls P g #[x,y,z] w fun e w'=>e=.returned r∧Below w.heap.size w w'):bR P g (f3 k):=by
 intro vs v hf ρ xs hd
 unfold f3 at hf
 split at hf
 ·obtain ⟨x,y,z,rfl,h1,h2,h3⟩:=adq hd
  exact h hf h1 h2 h3
 ·cases hf
end
noncomputable def zz (k:Int→Int→Int):List V→Option V:=f2 fun x y=>aZ x fun a=>aZ y fun b=>some (XK (k a b))
theorem Ng {g:Nat} {k:Int→Int→Int} (h:∀ a b:Sg,bj Tryz.prog g #[.agg (cS a).toArray,.agg (cS b).toArray] Unit (fun _ _=>True) (fun _=>.tuple #[.agg (cS (b7 (k a.z b.z))).toArray,.bool (decide ((k a.z b.z).natAbs<aq))])):bR Tryz.prog g (zz k) :=
 mR fun hk _ _ _ hx hy=>by
  obtain ⟨a,rfl,h1⟩:=jA hk hx
  obtain ⟨b,rfl,h2⟩:=jA h1 hy
  cases h2
  exact ⟨_,Nf _ _,fun w=>(h a b).h () w trivial⟩
theorem XL:bR Tryz.prog 225 (zz Int.add):=Ng fun a b=>OS a b
theorem XM:bR Tryz.prog 561 (zz Int.sub):=Ng fun a b=>OT a b
theorem XN:bR Tryz.prog 185 (zz Int.mul):=Ng fun a b=>OU a b
noncomputable def VB:List V→Option V:=f2 fun x y=>aZ x fun a=>aZ y fun b=>some (KB a b)
theorem XO:bR Tryz.prog 123 VB :=
 mR fun hk _ _ _ hx hy=>by
  obtain ⟨a,rfl,h1⟩:=jA hk hx
  obtain ⟨b,rfl,h2⟩:=jA h1 hy
  cases h2
  exact ⟨_,qq _ _ _,fun w=>(OV a b).h () w trivial⟩
noncomputable def VC:List V→Option V:=f1 fun x=>aZ x fun a=>cv a fun a=>some (.ag (mW a))
theorem XP:bR Tryz.prog 181 VC :=
 nB fun hk _ _ hx=>by
  obtain ⟨a,rfl,h1⟩:=jA hk hx
  rw [bp] at h1
  cases h1
  exact ⟨_,.ag (eV _ a.kF),fun w=>(OQ a).h () w trivial⟩
noncomputable def Nh:List V→Option V:=f1 fun x=>aZ x fun a=>cv (Int.neg a) fun a=>some (.ag (mW a))
theorem SY:bR Tryz.prog 480 Nh :=
 nB fun hk _ _ hx=>by
  obtain ⟨a,rfl,h1⟩:=jA hk hx
  rw [bp] at h1
  cases h1
  exact ⟨_,.ag (eV _ (z:=-a.z) (by rw [Int.natAbs_neg];exact a.kF)),fun w=>(Li a).h () w trivial⟩
noncomputable def KC (z:Int):Bool:=!wV z (.negSucc 9223372036854775807)&&!wV (.ofNat 9223372036854775807) z
theorem zY (z:Int):KC z=decide (-9223372036854775808≤z∧z≤9223372036854775807):=by
 unfold KC
 rw [ig,ig,← decide_not,← decide_not,← Bool.decide_and]
 refine decide_eq_decide.2 ?_
 have e1:Int.negSucc 9223372036854775807=-9223372036854775808:=rfl
 have e2:Int.ofNat 9223372036854775807=9223372036854775807:=rfl
 rw [e1,e2]
 omega
noncomputable def IF:List V→Option V:=f1 fun x=>aZ x fun a=>cv a fun a=>some (bif KC a then .t [.i .i64 a,.b true] else .t [.i .i64 (.ofNat 0),.b false])
theorem Ni:bR Tryz.prog 479 IF :=
 nB fun hk _ _ hx=>by
  obtain ⟨a,rfl,h1⟩:=jA hk hx
  rw [bp,zY] at h1
  refine ⟨_,?_,fun w=>(pB a).h () w trivial⟩
  rw [VA h1]
  unfold GW
  by_cases c:-9223372036854775808≤a.z∧a.z≤9223372036854775807
  ·rw [decide_eq_true c,if_pos c]
   exact .t (xs:=[_,_]) (.cons (.i _ _) (.cons (.b _) .nil))
  ·rw [decide_eq_false c,if_neg c]
   exact .t (xs:=[_,_]) (.cons (.i _ _) (.cons (.b _) .nil))
noncomputable def aak:List V→Option V:=f1 fun x=>match x with
 | .i k n=>bif kb k .i64 then bif KC n then cv n fun n=>some (.ag (mW n)) else none else none
 | _=>none
theorem vn {z:Int} (h:-9223372036854775808≤z∧z≤9223372036854775807):z.natAbs<aq:=fV xj
theorem aal:bR Tryz.prog 224 aak :=
 nB fun hk _ _ hx=>by
  split at hk
  ·rename_i k n
   obtain ⟨h1,h2⟩:=nX hk
   obtain ⟨h3,h4⟩:=nX h2
   have:=dC h1
   subst this
   rw [bp] at h4
   rw [zY] at h3
   have h3:=of_decide_eq_true h3
   cases hx
   cases h4
   exact ⟨_,.ag (eV _ (vn h3)),fun w=>(TY n).h () w h3⟩
  ·cases hk
noncomputable def Nj:List V→Option V:=f1 fun x=>aW x fun a=>some (.b (Nat.beq a 0))
theorem SZ:bR Tryz.prog 118 Nj :=
 nB fun hk _ _ hx=>by
  obtain ⟨a,rfl,h1⟩:=jy hk hx
  cases h1
  refine ⟨_,.b _,fun w=>?_⟩
  rw [bE]
  exact (Lz a).h () w trivial
noncomputable def VD:List V→Option V:=f2 fun x y=>aW x fun a=>aW y fun b=>some (KB (.ofNat a) (.ofNat b))
theorem XQ:bR Tryz.prog 184 VD :=
 mR fun hk _ _ _ hx hy=>by
  obtain ⟨a,rfl,h1⟩:=jy hk hx
  obtain ⟨b,rfl,h2⟩:=jy h1 hy
  cases h2
  exact ⟨_,qq _ _ _,jg (fun w=>(PL a b).h () w trivial) (by rw [vU];rfl)⟩
noncomputable def KD (n:Nat):Nat:=bif Nat.beq n 0 then 0 else Nat.succ (Nat.log2 n)
theorem tZ (n:Nat):KD n=bitLen n:=by
 unfold KD
 rw [bE]
 by_cases h:n=0
 ·subst h
  rfl
 ·rw [decide_eq_false h]
  have h1:=bitLen_spec n
  have h2:=Nat.lt_log2_self (n:=n)
  have h3:=Nat.log2_self_le h
  have h4:bitLen n≤n.log2+1:=fU h2
  show n.log2+1=bitLen n
  rcases Nat.lt_or_ge n.log2 (bitLen n) with c|c
  ·omega
  ·have:=Nat.pow_le_pow_right (n:=2) vj c
   omega
noncomputable def VE:List V→Option V:=f1 fun x=>aW x fun a=>some (Ft (KD a))
theorem XS:bR Tryz.prog 117 VE :=
 nB fun hk _ _ hx=>by
  obtain ⟨a,rfl,h1⟩:=jy hk hx
  cases h1
  exact ⟨_,.i _ _,jg (fun w=>(PM a).h () w trivial) (by rw [← tZ];rfl)⟩
noncomputable def aam:List V→Option V:=f1 fun x=>match x with
 | .i k (.ofNat n)=>bif kb k .u64 then bif Nat.blt n 18446744073709551616 then some (.ag (xt n)) else none else none
 | _=>none
theorem aan:bR Tryz.prog 161 aam :=
 nB fun hk _ _ hx=>by
  split at hk
  ·rename_i k n
   obtain ⟨h1,h2⟩:=nX hk
   obtain ⟨h3,h4⟩:=nX h2
   have:=dC h1
   subst this
   rw [blt_eq] at h3
   have h3:=of_decide_eq_true h3
   cases hx
   cases h4
   refine ⟨_,.ag (mB _ (a:=W n) (oP (fV h3))),jg (fun w=>(UX (Int.ofNat n)).h () w ?_) rfl⟩
   unfold ai
   simp only [Int.ofNat_eq_natCast]
   omega
  ·cases hk
noncomputable def aao:List V→Option V:=f2 fun x y=>aW x fun a=>aW y fun b=>fO (Nat.gcd a b) fun n=>some (.ag (xt n))
theorem aap:bR Tryz.prog 179 aao :=
 mR fun hk _ _ _ hx hy=>by
  obtain ⟨a,rfl,h1⟩:=jy hk hx
  obtain ⟨b,rfl,h2⟩:=jy h1 hy
  rw [fg] at h2
  cases h2
  exact ⟨_,.ag (mB _ (gU a b)),fun w=>(Tg a b).h () w trivial⟩
noncomputable def Nk:List V→Option V:=f2 fun x y=>aW x fun a=>aW y fun b=>bif Nat.beq b 0 then none else fO (a / b) fun q=>fO (a % b) fun r=>some (.t [.ag (xt q),.ag (xt r),.i .i64 (.ofNat 0)])
theorem S7:bR Tryz.prog 180 Nk :=
 mR fun hk _ _ _ hx hy=>by
  obtain ⟨a,rfl,h1⟩:=jy hk hx
  obtain ⟨b,rfl,h2⟩:=jy h1 hy
  obtain ⟨h3,h4⟩:=MQ h2
  rw [bE] at h3
  have h0:=of_decide_eq_false h3
  rw [fg,fg] at h4
  cases h4
  have er:(rW a b).n=a.n % b.n:=by
   unfold rW tc
   rw [if_neg h0]
   exact qF a _ (Nat.mod_le _ _)
  refine ⟨.tuple #[.agg (cW (qW a b)).toArray,.agg (cW (rW a b)).toArray,.int .i64 0],.t (xs:=[_,_,_]) (.cons (.ag (mB _ (QR a b))) (.cons (.ag (mB _ er)) (.cons (.i _ _) .nil))),jg (fun w=>(K9 a b).h () w trivial) ?_⟩
  rw [show eW b=0 from if_neg h0]
noncomputable def Nl (x y:Int):Int:=bif (wV x 0 == wV y 0) then .ofNat (x.natAbs / y.natAbs) else bif Nat.beq (x.natAbs % y.natAbs) 0 then Int.neg (.ofNat (x.natAbs / y.natAbs)) else Int.neg (.ofNat (Nat.succ (x.natAbs / y.natAbs)))
theorem IG (x y:Int):Nl x y=DU x y:=by
 unfold Nl DU
 rw [ig,ig,bE]
 by_cases c:(x<0↔y<0)
 ·rw [if_pos c,show (decide (x<0) == decide (y<0))=true from by simp [decide_eq_decide.2 c]]
  rfl
 ·rw [if_neg c,show (decide (x<0) == decide (y<0))=false from by
   rw [beq_eq_false_iff_ne]
   exact fun e=>c (decide_eq_decide.1 e)]
  by_cases d:x.natAbs % y.natAbs=0
  ·rw [if_pos d,decide_eq_true d]
   rfl
  ·rw [if_neg d,decide_eq_false d]
   rfl
noncomputable def Nn:List V→Option V:=f2 fun x y=>aZ x fun a=>aZ y fun b=>bif Mf b 0 then none else cv (Nl a b) fun q=>bif Nat.blt q.natAbs SX then some (.t [.ag (mW q),.i .i64 (.ofNat 0)]) else none
theorem S8:bR Tryz.prog 478 Nn :=
 mR fun hk _ _ _ hx hy=>by
  obtain ⟨a,rfl,h1⟩:=jA hk hx
  obtain ⟨b,rfl,h2⟩:=jA h1 hy
  obtain ⟨h3,h4⟩:=MQ h2
  rw [k7] at h3
  have h0:=of_decide_eq_false h3
  rw [bp] at h4
  obtain ⟨h5,h6⟩:=nX h4
  rw [blt_eq,zX] at h5
  have h5:=of_decide_eq_true h5
  have hb:b.br.n≠0:=by
   have:=b.abs
   omega
  cases h6
  have eo:Cd a b=a8 (Nl a.z b.z):=by
   unfold Cd
   rw [if_neg hb,IG]
  refine ⟨.tuple #[.agg (cS (Cd a b)).toArray,.int .i64 0],.t (xs:=[_,_]) (.cons ?_ (.cons (.i _ _) .nil)),jg (fun w=>(ym a b).h () w trivial) ?_⟩
  ·rw [eo]
   exact .ag (eV _ h5)
  ·rw [show eW b.br=0 from if_neg hb]
noncomputable def VF:List V→Option V:=f2 fun x y=>match x,y with
 | .i k (.ofNat a),.i k' (.ofNat b)=>bif (kb k .u64&&kb k' .u64)&&(Nat.blt a 18446744073709551616&&Nat.blt b 18446744073709551616) then fO (a*b) fun n=>some (.t [.i .u64 (.ofNat (n / 18446744073709551616)),.i .u64 (.ofNat (n % 18446744073709551616))]) else none
 | _,_=>none
theorem XT:bR Tryz.prog 114 VF :=
 mR fun hk _ _ _ hx hy=>by
  split at hk
  ·rename_i k a k' b
   obtain ⟨h1,h2⟩:=nX hk
   simp only [Bool.and_eq_true] at h1
   obtain ⟨⟨h3,h4⟩,h5,h6⟩:=h1
   have:=dC h3
   subst this
   have:=dC h4
   subst this
   rw [blt_eq] at h5 h6
   have h5:=of_decide_eq_true h5
   have h6:=of_decide_eq_true h6
   rw [fg] at h2
   cases hx
   cases hy
   cases h2
   refine ⟨.tuple #[.int .u64 ((a*b / 18446744073709551616:Nat):Int),.int .u64 ((a*b % 18446744073709551616:Nat):Int)],.t (xs:=[_,_]) (.cons (.i _ _) (.cons (.i _ _) .nil)),XJ (fun w=>(Mc (Int.ofNat a) (Int.ofNat b)).h () w ?_) ?_⟩
   ·unfold ai
    simp only [Int.ofNat_eq_natCast]
    omega
   ·show Value.tuple #[.int .u64 (fW (Int.ofNat a*Int.ofNat b)),.int .u64 (aw (Int.ofNat a*Int.ofNat b))]=_
    have e1:fW (Int.ofNat a*Int.ofNat b)=((a*b / 18446744073709551616:Nat):Int):=by kernel_rfl
    have e2:aw (Int.ofNat a*Int.ofNat b)=((a*b % 18446744073709551616:Nat):Int):=by kernel_rfl
    rw [e1,e2]
  ·cases hk
noncomputable def Ga (p:Bool) (x:Nat) (q:Bool) (y:Nat) (w:Nat):Option V:=fO (Nat.gcd (Nat.gcd x y) w) fun g=>fO (x / g) fun x=>fO (y / g) fun y=>fO (w / g) fun w=>some (.ag (mW (zS p x)++(mW (zS q y)++xt w)))
theorem S9 (ρ:Rn) (x y:Sg) (m:Wd) {v:V} (h:Ga x.neg x.br.n y.neg y.br.n m.n=some v):Den ρ v (.agg (bF (nH x y m)).toArray):=by
 unfold Ga at h
 rw [fg,fg,fg,fg] at h
 cases h
 have hg:(gS x y m).n=Nat.gcd (Nat.gcd x.br.n y.br.n) m.n:=by
  unfold gS
  rw [gU,gU]
 have key:∀ s:Sg,aT ρ (mW (zS s.neg (s.br.n / (gS x y m).n))) (cS (a8 (⟨s.neg,qW s.br (gS x y m)⟩:Sg).z)):=fun s=>by
  have e:zS s.neg (s.br.n / (gS x y m).n)=(⟨s.neg,qW s.br (gS x y m)⟩:Sg).z:=by
   rw [← jq]
   show _=zS s.neg (qW s.br (gS x y m)).n
   rw [QR]
  rw [e]
  exact eV ρ (Sg.kF _)
 rw [← hg]
 refine .ag ?_
 unfold nH bF
 exact (key x).append ((key y).append (mB ρ (QR m _)))
noncomputable def aaq:List V→Option V:=f3 fun x y z=>aS x fun p a=>aS y fun q b=>aW z fun c=>Ga p a q b c
theorem aar:bR Tryz.prog 119 aaq :=
 aaj fun hk _ _ _ _ hx hy hz=>by
  obtain ⟨a,rfl,h1⟩:=zW hk hx
  obtain ⟨b,rfl,h2⟩:=zW h1 hy
  obtain ⟨c,rfl,h3⟩:=jy h2 hz
  exact ⟨_,S9 _ a b c h3,fun w=>(OW a b c).h () w trivial⟩
noncomputable def XU (p:Bool) (x:Nat):Bool:=Nat.blt x 1329227995784915872903807060280344576&&!(p&&Nat.beq x 0)
noncomputable def aas:List V→Option V:=f1 fun x=>QP x fun p x q y w=>some (.b (!Nat.beq w 0&&(XU p x&&(XU q y&&(Nat.blt w 1329227995784915872903807060280344576&&Nat.beq (Nat.gcd (Nat.gcd x y) w) 1)))))
theorem rQ (n:Nat):iy n=decide (n<1329227995784915872903807060280344576):=by
 unfold iy
 refine decide_eq_decide.2 ?_
 have h1:=bitLen_spec n
 constructor
 ·intro h
  exact Nat.lt_of_lt_of_le h1.1 (Nat.le_trans (Nat.pow_le_pow_right (n:=2) vj (show bitLen n≤120 by omega)) vj)
 ·intro h
  have:=fU (x:=n) (m:=120) xj
  omega
theorem zZ {a:Sg}:a=a8 a.z↔(a.neg&&Nat.beq a.br.n 0)=false:=by
 rw [bE]
 constructor
 ·intro h
  have h1:a.neg=decide (a.z<0):=congrArg Sg.neg h
  have h2:=a.abs
  by_cases c:a.br.n=0
  ·rw [h1,decide_eq_false (by omega)]
   rfl
  ·rw [decide_eq_false c,Bool.and_false]
 ·intro h
  by_cases c:a.br.n=0
  ·rw [decide_eq_true c,Bool.and_true] at h
   rw [DP c]
   exact Sg.ext_iff.2 ⟨h,Wd.PJ.2 c⟩
  ·exact (DQ c).symm
theorem IH (a:Sp):bo a=(!Nat.beq a.w.n 0&&(XU a.x.neg a.x.br.n&&(XU a.y.neg a.y.br.n&&(Nat.blt a.w.n 1329227995784915872903807060280344576&&Nat.beq (Nat.gcd (Nat.gcd a.x.br.n a.y.br.n) a.w.n) 1)))):=by
 unfold XU
 rw [blt_eq,blt_eq,blt_eq]
 cases h:bo a with
 | true =>
  obtain ⟨h0,h1,h2,h3,h4,h5,h6⟩:=cq h
  rw [a.x.abs,a.y.abs] at h6
  rw [zZ.1 h4,zZ.1 h5,h6,decide_eq_true xj,decide_eq_true xj,decide_eq_true xj,bE a.w.n,decide_eq_false (by omega)]
  rfl
 | false =>
  refine Eq.symm (Bool.eq_false_iff.2 fun hh=>?_)
  simp only [Bool.and_eq_true,Bool.not_eq_true',decide_eq_true_eq] at hh
  obtain ⟨h0,⟨h1,h2⟩,⟨h3,h4⟩,h5,h6⟩:=hh
  rw [bE] at h0
  have h0:=of_decide_eq_false h0
  have hG:gS a.x a.y a.w=W 1:=by
   unfold gS
   refine Wd.lq ?_
   rw [gU,gU,Nat.eq_of_beq_eq_true h6,oP (fV vj)]
  have hl:nH a.x a.y a.w=a:=by
   unfold nH
   rw [hG,sd,sd,sd]
   exact Sp.ext_iff.2 ⟨(zZ.2 h2).symm,(zZ.2 h4).symm,rfl⟩
  have:bo a=true:=by
   unfold bo
   rw [hl,rQ,rQ,rQ,decide_eq_true h1,decide_eq_true h3,decide_eq_true h5,decide_eq_false h0,decide_eq_true rfl]
   rfl
  rw [this] at h
  cases h
theorem aat:bR Tryz.prog 71 aas :=
 nB fun hk _ _ hx=>by
  obtain ⟨a,rfl,h1⟩:=iT hk hx
  cases h1
  refine ⟨_,.b _,jg (fun w=>(OX a).h () w trivial) ?_⟩
  rw [IH]
noncomputable def Np:List V→Option V:=f2 fun x y=>QP x fun p a q b c=>QP y fun p' a' q' b' c'=>bif Nat.blt a 1329227995784915872903807060280344576&&(Nat.blt b 1329227995784915872903807060280344576&&(Nat.blt c 1329227995784915872903807060280344576&&(Nat.blt a' 1329227995784915872903807060280344576&&(Nat.blt b' 1329227995784915872903807060280344576&&Nat.blt c' 1329227995784915872903807060280344576)))) then
 some (bif Mf (Int.mul (zS p a) (.ofNat c')) (Int.mul (zS p' a') (.ofNat c)) then KB (Int.mul (zS q b) (.ofNat c')) (Int.mul (zS q' b') (.ofNat c)) else KB (Int.mul (zS p a) (.ofNat c')) (Int.mul (zS p' a') (.ofNat c))) else none
theorem Ta:bR Tryz.prog 74 Np :=
 mR fun hk _ _ _ hx hy=>by
  obtain ⟨a,rfl,h1⟩:=iT hk hx
  obtain ⟨b,rfl,h2⟩:=iT h1 hy
  obtain ⟨h3,h4⟩:=nX h2
  simp only [Bool.and_eq_true,blt_eq,decide_eq_true_eq] at h3
  obtain ⟨g1,g2,g3,g4,g5,g6⟩:=h3
  rw [jq,jq,jq,jq] at h4
  refine ⟨_,?_,fun w=>(Bf a b).h () w trivial⟩
  rw [VA h4,show d9 a b=te (Lj a.x b.x a.w b.w) (Lj a.y b.y a.w b.w) from rfl,uq xj xj xj xj,uq xj xj xj xj,k7]
  unfold te
  by_cases c:a.x.z*(b.w.n:Int)=b.x.z*(a.w.n:Int)
  ·rw [if_neg (fun k=>k (kz.2 c)),show decide (Int.mul a.x.z (Int.ofNat b.w.n)=Int.mul b.x.z (Int.ofNat a.w.n))=true from decide_eq_true c]
   exact qq _ _ _
  ·rw [if_pos (fun k=>c (kz.1 k)),show decide (Int.mul a.x.z (Int.ofNat b.w.n)=Int.mul b.x.z (Int.ofNat a.w.n))=false from decide_eq_false c]
   exact qq _ _ _
end E
namespace E
noncomputable def mX (z:Int) (K:Int→Option V):Option V:=cv z fun z=>bif Nat.blt z.natAbs SX then K z else none
theorem bZ {z:Int} {K:Int→Option V} {r:V} (h:mX z K=some r):z.natAbs<aq∧(b7 z).z=z∧b7 z=a8 z∧K z=some r:=by
 unfold mX at h
 rw [bp] at h
 obtain ⟨h1,h2⟩:=nX h
 rw [blt_eq,zX] at h1
 have h1:=of_decide_eq_true h1
 exact ⟨h1,by rw [oB h1,lX h1],oB h1,h2⟩
noncomputable def ZA (v:V) (K:Int→Int→Option V):Option V:=match v with
 | .ag (.b p::l)=>(match dW 8 (l.take 8),l.drop 8 with
  | some x,.b q::r=>(match dW 8 r with|some y=>K (zS p x) (zS q y)|none=>none)
  | _,_=>none)
 | _=>none
theorem qu {ρ:Rn} {v r:V} {x:Value} {K:Int→Int→Option V} (h:ZA v K=some r) (hd:Den ρ v x):∃ a:Wy,x=.agg (EX a).toArray∧K a.x.z a.y.z=some r:=by
 unfold ZA at h
 split at h
 ·rename_i p l
  split at h
  ·rename_i n q l2 hn hq
   split at h
   ·rename_i y hy
    cases hd with
    | ag hl =>
     cases hl with
     | @cons _ u _ us a b =>
      cases a
      obtain ⟨b1,b2⟩:=aT.cut 8 b
      rw [hq] at b2
      obtain ⟨e1,h1⟩:=j4 hn b1
      generalize hd2:us.drop 8=us2 at b2
      cases b2 with
      | @cons _ _ _ us3 c d =>
       cases c
       obtain ⟨e2,h2⟩:=j4 hy d
       refine ⟨⟨⟨p,W n⟩,⟨q,W y⟩⟩,?_,?_⟩
       ·have e4:us=cW (W n)++(.bool q::cW (W y)):=by
         rw [← e1,← e2,← hd2,List.take_append_drop]
        rw [e4]
        rfl
       ·rw [← jq,← jq]
        show K (zS p (W n).n) (zS q (W y).n)=some r
        rw [h1,h2]
        exact h
   ·cases h
  ·cases h
 ·cases h
noncomputable def aPt (v:V) (K:Int→Int→Option V):Option V:=match v with
 | .ag [.i k x,.i k' y]=>bif (kb k .i64&&kb k' .i64)&&(KC x&&KC y) then K x y else none
 | _=>none
theorem C9 {ρ:Rn} {v r:V} {x:Value} {K:Int→Int→Option V} (h:aPt v K=some r) (hd:Den ρ v x):∃ a:Pt,x=.agg (cr a).toArray∧ao a.x∧ao a.y∧K a.x a.y=some r:=by
 unfold aPt at h
 split at h
 ·rename_i k m k' n
  obtain ⟨h1,h2⟩:=nX h
  simp only [Bool.and_eq_true] at h1
  obtain ⟨⟨h3,h4⟩,h5,h6⟩:=h1
  have:=dC h3
  subst this
  have:=dC h4
  subst this
  rw [zY] at h5 h6
  cases hd with
  | ag hl =>
   obtain ⟨x,y,rfl,hx,hy⟩:=F9 hl
   cases hx
   cases hy
   exact ⟨⟨m,n⟩,rfl,of_decide_eq_true h5,of_decide_eq_true h6,h2⟩
 ·cases h
theorem Nq (ρ:Rn) {x y:Int} (hx:x.natAbs<aq) (hy:y.natAbs<aq):Den ρ (.ag (mW x++mW y)) (.agg (EX ⟨a8 x,a8 y⟩).toArray):=.ag ((eV ρ hx).append (eV ρ hy))
theorem Nr (a:Sp):(VJ a).z=(a.w.n:Int):=rfl
noncomputable def aau:List V→Option V:=f2 fun x y=>QP x fun p a q b c=>aPt y fun u v =>
 mX (Int.mul u (.ofNat c)) fun u=>mX (Int.sub u (zS p a)) fun u=>mX (Int.mul v (.ofNat c)) fun v=>mX (Int.sub v (zS q b)) fun v=>some (.ag (mW u++mW v))
theorem aav:bR Tryz.prog 543 aau :=
 mR fun hk _ _ _ hx hy=>by
  obtain ⟨a,rfl,h1⟩:=iT hk hx
  obtain ⟨p,rfl,hp1,hp2,h2⟩:=C9 h1 hy
  rw [jq,jq] at h2
  obtain ⟨g1,g2,_,h3⟩:=bZ h2
  obtain ⟨g3,_,g4,h4⟩:=bZ h3
  obtain ⟨g5,g6,_,h5⟩:=bZ h4
  obtain ⟨g7,_,g8,h6⟩:=bZ h5
  cases h6
  refine ⟨_,Nq _ g3 g7,jg (fun w=>(Th a p).h () w ⟨hp1,hp2⟩) ?_⟩
  have e:toW a p=⟨a8 (Int.sub (Int.mul p.x (Int.ofNat a.w.n)) a.x.z),a8 (Int.sub (Int.mul p.y (Int.ofNat a.w.n)) a.y.z)⟩:=by
   unfold toW
   rw [Nr,lX (vn hp1),lX (vn hp2)]
   rw [show (b7 (p.x*(a.w.n:Int))).z=p.x*(a.w.n:Int) from g2,show (b7 (p.y*(a.w.n:Int))).z=p.y*(a.w.n:Int) from g6]
   rw [show b7 (p.x*(a.w.n:Int)-a.x.z)=a8 (p.x*(a.w.n:Int)-a.x.z) from g4,show b7 (p.y*(a.w.n:Int)-a.y.z)=a8 (p.y*(a.w.n:Int)-a.y.z) from g8]
   rfl
  rw [e]
noncomputable def VG:List V→Option V:=f2 fun x y=>QP x fun p a q b c=>QP y fun p' a' q' b' c' =>
 mX (Int.mul (zS p' a') (.ofNat c)) fun u=>mX (Int.mul (zS p a) (.ofNat c')) fun v=>mX (Int.sub u v) fun s=>mX (Int.mul (zS q' b') (.ofNat c)) fun u=>mX (Int.mul (zS q b) (.ofNat c')) fun v=>mX (Int.sub u v) fun t=>some (.ag (mW s++mW t))
theorem XV:bR Tryz.prog 541 VG :=
 mR fun hk _ _ _ hx hy=>by
  obtain ⟨a,rfl,h1⟩:=iT hk hx
  obtain ⟨b,rfl,h2⟩:=iT h1 hy
  rw [jq,jq,jq,jq] at h2
  obtain ⟨_,g1,_,h3⟩:=bZ h2
  obtain ⟨_,g2,_,h4⟩:=bZ h3
  obtain ⟨f3,_,g3,h5⟩:=bZ h4
  obtain ⟨_,g4,_,h6⟩:=bZ h5
  obtain ⟨_,g5,_,h7⟩:=bZ h6
  obtain ⟨f6,_,g6,h8⟩:=bZ h7
  cases h8
  refine ⟨_,Nq _ f3 f6,jg (fun w=>(NF a b).h () w trivial) ?_⟩
  have e:X1 a b=⟨a8 (Int.sub (Int.mul b.x.z (Int.ofNat a.w.n)) (Int.mul a.x.z (Int.ofNat b.w.n))),a8 (Int.sub (Int.mul b.y.z (Int.ofNat a.w.n)) (Int.mul a.y.z (Int.ofNat b.w.n)))⟩:=by
   unfold X1
   rw [Nr,Nr]
   rw [show (b7 (b.x.z*(a.w.n:Int))).z=b.x.z*(a.w.n:Int) from g1,show (b7 (a.x.z*(b.w.n:Int))).z=a.x.z*(b.w.n:Int) from g2,show (b7 (b.y.z*(a.w.n:Int))).z=b.y.z*(a.w.n:Int) from g4,show (b7 (a.y.z*(b.w.n:Int))).z=a.y.z*(b.w.n:Int) from g5]
   rw [show b7 (b.x.z*(a.w.n:Int)-a.x.z*(b.w.n:Int))=_ from g3,show b7 (b.y.z*(a.w.n:Int)-a.y.z*(b.w.n:Int))=_ from g6]
  rw [e]
noncomputable def VH:List V→Option V:=f2 fun x y=>ZA x fun a b=>ZA y fun c d=>mX (Int.mul a c) fun u=>mX (Int.mul b d) fun v=>mX (Int.add u v) fun s=>some (.ag (mW s))
theorem XW:bR Tryz.prog 542 VH :=
 mR fun hk _ _ _ hx hy=>by
  obtain ⟨a,rfl,h1⟩:=qu hk hx
  obtain ⟨b,rfl,h2⟩:=qu h1 hy
  obtain ⟨_,g1,_,h3⟩:=bZ h2
  obtain ⟨_,g2,_,h4⟩:=bZ h3
  obtain ⟨f3,_,g3,h5⟩:=bZ h4
  cases h5
  refine ⟨_,.ag (eV _ f3),jg (fun w=>(NG a b).h () w trivial) ?_⟩
  have e:X3 a b=a8 (Int.add (Int.mul a.x.z b.x.z) (Int.mul a.y.z b.y.z)):=by
   unfold X3
   rw [show (b7 (a.x.z*b.x.z)).z=a.x.z*b.x.z from g1,show (b7 (a.y.z*b.y.z)).z=a.y.z*b.y.z from g2]
   exact g3
  rw [e]
noncomputable def II:List V→Option V:=f2 fun x y=>ZA x fun a b=>ZA y fun c d=>mX (Int.mul a d) fun u=>mX (Int.mul b c) fun v=>mX (Int.sub u v) fun s=>some (.ag (mW s))
theorem Ns:bR Tryz.prog 555 II :=
 mR fun hk _ _ _ hx hy=>by
  obtain ⟨a,rfl,h1⟩:=qu hk hx
  obtain ⟨b,rfl,h2⟩:=qu h1 hy
  obtain ⟨_,g1,_,h3⟩:=bZ h2
  obtain ⟨_,g2,_,h4⟩:=bZ h3
  obtain ⟨f3,_,g3,h5⟩:=bZ h4
  cases h5
  refine ⟨_,.ag (eV _ f3),jg (fun w=>(Gf a b).h () w trivial) ?_⟩
  have e:Ge a b=a8 (Int.sub (Int.mul a.x.z b.y.z) (Int.mul a.y.z b.x.z)):=by
   unfold Ge
   rw [show (b7 (a.x.z*b.y.z)).z=a.x.z*b.y.z from g1,show (b7 (a.y.z*b.x.z)).z=a.y.z*b.x.z from g2]
   exact g3
  rw [e]
noncomputable def Nu:List V→Option V:=f1 fun x=>QP x fun p a q b c=>some (.b (Nat.ble (KD a) 92&&(Nat.ble (KD b) 92&&(Nat.ble (KD c) 62&&(!Nat.beq c 0&&(XU p a&&(XU q b&&(Nat.blt c 1329227995784915872903807060280344576&&Nat.beq (Nat.gcd (Nat.gcd a b) c) 1))))))))
theorem ble_eq (m n:Nat):Nat.ble m n=decide (((m:Nat):Int)≤(n:Int)):=by
 cases h:Nat.ble m n with
 | true =>
  have:=Nat.le_of_ble_eq_true h
  exact (decide_eq_true xj).symm
 | false=>exact (decide_eq_false (fun k=>by rw [Nat.ble_eq_true_of_le (show m≤n by omega)] at h;cases h)).symm
theorem Tb:bR Tryz.prog 537 Nu :=
 nB fun hk _ _ hx=>by
  obtain ⟨a,rfl,h1⟩:=iT hk hx
  cases h1
  refine ⟨_,.b _,jg (fun w=>(KI a).h () w trivial) ?_⟩
  unfold NH
  rw [IH,tZ,tZ,tZ,ble_eq,ble_eq,ble_eq]
  rfl
noncomputable def aaw:List V→Option V:=f1 fun x=>aPt x fun a b=>some (.b (!wV a (.negSucc 536870911)&&(!wV (.ofNat 536870912) a&&(!wV b (.negSucc 536870911)&&!wV (.ofNat 536870912) b))))
theorem aax:bR Tryz.prog 93 aaw :=
 nB fun hk _ _ hx=>by
  obtain ⟨a,rfl,_,_,h1⟩:=C9 hk hx
  cases h1
  refine ⟨_,.b _,jg (fun w=>(x6 a).h () w trivial) ?_⟩
  unfold oT
  have e1:∀ z,(!wV z (Int.negSucc 536870911))=decide (-536870912≤z):=fun z=>by
   rw [ig,← decide_not]
   exact decide_eq_decide.2 (by rw [show Int.negSucc 536870911=-536870912 from rfl];omega)
  have e2:∀ z,(!wV (Int.ofNat 536870912) z)=decide (z≤536870912):=fun z=>by
   rw [ig,← decide_not]
   exact decide_eq_decide.2 (by rw [show Int.ofNat 536870912=536870912 from rfl];omega)
  rw [e1,e2,e1,e2]
noncomputable def xZ (x y:Int) (K:Int→Option V):Option V:=cv (Nl x y) fun q=>bif Nat.blt q.natAbs 4611686018427387904 then K q else none
noncomputable def KE (q:Int):Bool:=Nat.ble q.natAbs 1073741824
noncomputable def VI:List V→Option V:=f1 fun x=>QP x fun p a q b c=>bif Nat.beq c 0 then none else
 xZ (zS p a) (.ofNat c) fun x1=>xZ (zS q b) (.ofNat c) fun y1=>xZ (Int.neg (zS p a)) (.ofNat c) fun x2=>xZ (Int.neg (zS q b)) (.ofNat c) fun y2=>cv (Int.neg x2) fun x3=>cv (Int.neg y2) fun y3 =>
 some (.t [.ag [.i .i64 x1,.i .i64 y1],.ag [.i .i64 x3,.i .i64 y3],.b (KE x1&&(KE y1&&(KE x2&&KE y2)))])
theorem mC {s:Sg} {b:Wd} (h0:b.n≠0) {K:Int→Option V} {r:V} (h:xZ s.z (Int.ofNat b.n) K=some r):K (IP s b)=some r∧(IP s b).natAbs<4611686018427387904∧KE (IP s b)=decide (Fj s b):=by
 unfold xZ at h
 rw [bp,IG] at h
 obtain ⟨h1,h2⟩:=nX h
 rw [blt_eq] at h1
 have h1:=of_decide_eq_true h1
 have hz:(Cd s ⟨false,b⟩).z=DU s.z (Int.ofNat b.n):=by
  unfold Cd
  rw [if_neg h0]
  exact lX (fV (Nat.lt_trans h1 vj))
 have hd:IP s b=DU s.z (Int.ofNat b.n):=by
  unfold IP GW
  rw [hz,if_pos (by omega)]
 refine ⟨by rw [hd];exact h2,by rw [hd];exact h1,?_⟩
 unfold KE
 rw [hd,ble_eq]
 refine decide_eq_decide.2 ?_
 unfold Fj
 rw [hz]
 omega
theorem XX:bR Tryz.prog 364 VI :=
 nB fun hk _ _ hx=>by
  obtain ⟨a,rfl,h1⟩:=iT hk hx
  obtain ⟨h2,h3⟩:=MQ h1
  rw [bE] at h2
  have h0:=of_decide_eq_false h2
  rw [jq,jq] at h3
  have n1:Int.neg a.x.z=(a8 (-a.x.z)).z:=(lX (z:=-a.x.z) (by rw [Int.natAbs_neg];exact a.x.kF)).symm
  have n2:Int.neg a.y.z=(a8 (-a.y.z)).z:=(lX (z:=-a.y.z) (by rw [Int.natAbs_neg];exact a.y.kF)).symm
  rw [n1,n2] at h3
  obtain ⟨h4,_,g1⟩:=mC h0 h3
  obtain ⟨h5,_,g2⟩:=mC h0 h4
  obtain ⟨h6,b3,g3⟩:=mC h0 h5
  obtain ⟨h7,b4,g4⟩:=mC h0 h6
  rw [bp,bp] at h7
  cases h7
  have u1:X5 a.x a.w=-(IP (a8 (-a.x.z)) a.w):=R.wrap_i64 (by unfold ao;omega)
  have u2:X5 a.y a.w=-(IP (a8 (-a.y.z)) a.w):=R.wrap_i64 (by unfold ao;omega)
  refine ⟨_,?_,fun w=>(De a).h () w trivial⟩
  unfold X7 NJ cr
  simp only
  rw [u1,u2,g1,g2,g3,g4]
  have e:decide (qw a)=(decide (Fj a.x a.w)&&(decide (Fj a.y a.w)&&(decide (Fj (a8 (-a.x.z)) a.w)&&decide (Fj (a8 (-a.y.z)) a.w)))):=by
   rw [← Bool.decide_and,← Bool.decide_and,← Bool.decide_and]
   rfl
  rw [e]
  exact .t (xs:=[_,_,_]) (.cons (.ag (xs:=[_,_]) (.cons (.i _ _) (.cons (.i _ _) .nil))) (.cons (.ag (xs:=[_,_]) (.cons (.i _ _) (.cons (.i _ _) .nil))) (.cons (.b _) .nil)))
end E
namespace E
noncomputable def Gb:List V→H→Nat→HR:=fun vs h nx=>match vs with|[x]=>some (x,h,nx)|_=>none
noncomputable def Da (c:Nat) (l:List UInt8):Nat→Int:=List.rec (motive:=fun _=>Nat→Int) (fun _=>.negSucc 0) (fun x _ ih i=>bif Nat.beq x.toNat c then .ofNat i else ih (Nat.succ i)) l
noncomputable def Nv:List V→H→Nat→HR:=fun vs h nx=>match vs with|[.s l,.i k (.ofNat c)]=>bif kb k .u8&&Nat.blt c 256 then some (.i .i64 (Da c l 0),h,nx) else none|_=>none
noncomputable def Db (c:Nat) (l:List UInt8):Nat→Nat:=List.rec (motive:=fun _=>Nat→Nat) (fun n=>n) (fun x _ ih n=>bif Nat.beq x.toNat c then ih (Nat.succ n) else ih n) l
noncomputable def XY:List V→H→Nat→HR:=fun vs h nx=>match vs with|[.s l,.i k (.ofNat c)]=>bif kb k .u8&&Nat.blt c 256 then some (Ft (Db c l 0),h,nx) else none|_=>none
noncomputable def XZ (e:TypeId):List V→H→Nat→HR:=fun vs h nx=>match vs with|[.i k (.ofNat n)]=>bif kb k .i64&&Nat.blt n 1000000 then h.dE nx (.row [] true e) fun h'=>some (.sl (some (nx,0)) n (.u 1),h',Nat.succ nx) else none|_=>none
noncomputable def z6 (e:TypeId) (sz:Nat) (cs:List V) (n:Nat) (h:H) (nx:Nat):HR:=bif Nat.beq n 0 then some (.sl none 0 (.k 0),h,nx) else h.dE nx (.row cs true e) fun h'=>some (.sl (some (nx,0)) n (.u sz),h',Nat.succ nx)
noncomputable def s4 (g:Nat) (e:TypeId) (sz:Nat):List V→H→Nat→HR:=fun vs h nx=>match vs with
 | [.sl none 0 (.k 0),.f (.func g') [] [.p (some (b,0))]]=>bif Nat.beq g g' then (match h.get b with
  | some (.row [.m none] _ _)=>some (.sl none 0 (.k 0),h,nx)
  | some (.row [.m (some r)] _ _)=>(match h.get r with
   | some (.mp [] _)=>some (.sl none 0 (.k 0),h,nx)
   | some (.mp [x] ck)=>bif (bif Nat.beq sz 1 then x.1.one else true)&&(x.1.cells.all V.one&&(Nat.beq x.1.cells.length sz&&Nat.blt x.2.2 ck)) then z6 e sz x.1.cells 1 h nx else none
   | _=>none)
  | _=>none) else none
 | _=>none
noncomputable def IJ (g:Nat) (e:TypeId) (sz:Nat):List V→H→Nat→HR:=fun vs h nx=>match vs with
 | [.sl none 0 (.k 0),.f (.func g') [] [.p (some (b,0))]]=>bif Nat.beq g g' then (match h.get b with
  | some (.row [.sl none 0 _] _ _)=>some (.sl none 0 (.k 0),h,nx)
  | some (.row [.sl (some (r,off)) len _] _ _)=>(match ic h r off (len*sz) with
   | some cs=>bif cs.all V.one&&Nat.blt len 1000000 then z6 e sz cs len h nx else none
   | none=>none)
  | _=>none) else none
 | _=>none
noncomputable def jB (l:List UInt8):List UInt8→List V:=List.rec (motive:=fun _=>List UInt8→List V) (fun cur=>List.rec (motive:=fun _=>List V) [] (fun _ _ _=>[V.s cur.reverse]) cur)
 (fun c _ ih cur=>bif Nat.beq c.toNat 10 then V.s cur.reverse::ih [] else ih (c::cur)) l
noncomputable def z7 (e:TypeId):List V→H→Nat→HR:=fun vs h nx=>match vs with|[.s l]=>bif Nat.blt l.length 1000000 then (fun ls=>z6 e 1 ls ls.length h nx) (jB l []) else none|_=>none
noncomputable def IK:List (Nat×(List V→H→Nat→HR)):=[
 (225,dD (zz Int.add)),(561,dD (zz Int.sub)),(185,dD (zz Int.mul)),(123,dD VB),(181,dD VC),(480,dD Nh),(479,dD IF),(224,dD aak),(478,dD Nn),
 (118,dD Nj),(184,dD VD),(117,dD VE),(161,dD aam),(179,dD aao),(180,dD Nk),(114,dD VF),
 (119,dD aaq),(71,dD aas),(74,dD Np),
 (543,dD aau),(541,dD VG),(542,dD VH),(555,dD II),(537,dD Nu),(93,dD aaw),(364,dD VI),
 (90,Gb),(297,Nv),(425,XY),(419,XZ 5),
 (79,s4 43 71 2),
 (559,s4 553 3 1),
 (182,IJ 122 113 26),
 (87,z7 9)]
noncomputable def vo (l:List (Nat×(List V→H→Nat→HR))) (g:Nat):Option (List V→H→Nat→HR):=List.rec (motive:=fun _=>Option (List V→H→Nat→HR)) none (fun x _ ih=>bif Nat.beq x.1 g then some x.2 else ih) l
end E
namespace E
theorem z8 {C:bO} {K:Value→World→Prop} {r:Result Next} {v:Value} {w':World} (h:r=.ok (.value v) w') (k:K v w'):WU C K r:=by
 subst h
 exact k
set_option maxRecDepth 100000 in
theorem Gd:fB Tryz.prog 90 Gb:=by
 intro vs h nx v h' aL ρ w xs hr hd hs hf _
 unfold Gb at hr
 split at hr
 ·cases hr
  obtain ⟨x,rfl,hx⟩:=xw hd
  have hrun:(callFunc 90 #[x]).run Tryz.prog w=.ok (.value x) w:=by
   rw [run_callFunc_extern Tryz.func90 wq wq wq (e:=Extern.AbiNoEscape.same) wq,Lib.run_noEscape]
   rfl
  exact z8 hrun ⟨ρ,hx,dH.refl hs _⟩
 ·cases hr
theorem Aa {x:UInt8} {c:Nat} (hc:c<256):(x == c.toUInt8)=Nat.beq x.toNat c:=by
 rw [bE]
 have e:(x=c.toUInt8)↔x.toNat=c:=by
  constructor
  ·intro h
   rw [h]
   simp [Nat.mod_eq_of_lt hc]
  ·intro h
   rw [← h]
   simp
 by_cases k:x.toNat=c
 ·rw [decide_eq_true k]
  exact beq_iff_eq.2 (e.2 k)
 ·rw [decide_eq_false k,beq_eq_false_iff_ne]
  exact fun h=>k (e.1 h)
theorem Dc {c:Nat} (hc:c<256):∀ (l:List UInt8) (i:Nat),Da c l i=if Lib.indexByte l c.toUInt8=-1 then -1 else (i:Int)+Lib.indexByte l c.toUInt8
 | [],i=>rfl
 | x::l,i=>by
  have e1:Da c (x::l) i=bif Nat.beq x.toNat c then .ofNat i else Da c l (i+1):=rfl
  have e2:Lib.indexByte (x::l) c.toUInt8=if (x == c.toUInt8)=true then 0 else if (Lib.indexByte l c.toUInt8 == -1)=true then -1 else Lib.indexByte l c.toUInt8+1:=rfl
  have h0:=Lib.indexByte_ge l c.toUInt8
  rw [e1,e2,Aa hc,Dc hc l]
  cases Nat.beq x.toNat c with
  | true =>
   simp
  | false =>
   simp only [cond_false,Bool.false_eq_true,if_false,beq_iff_eq]
   by_cases k:Lib.indexByte l c.toUInt8=-1
   ·simp [k]
   ·rw [if_neg k,if_neg k,if_neg (by omega)]
    omega
theorem vp {c:Nat} (hc:c<256):∀ (l:List UInt8) (n:Nat),Db c l n=n+Lib.countByte l c.toUInt8
 | [],n=>rfl
 | x::l,n=>by
  have e1:Db c (x::l) n=bif Nat.beq x.toNat c then Db c l (n+1) else Db c l n:=rfl
  rw [e1,vp hc l,vp hc l]
  unfold Lib.countByte
  rw [List.count_cons,Aa hc]
  cases Nat.beq x.toNat c with
  | true =>
   simp
   omega
  | false=>simp
set_option maxRecDepth 100000 in
theorem KG:fB Tryz.prog 297 Nv:=by
 intro vs h nx v h' aL ρ w xs hr hd hs hf _
 unfold Nv at hr
 split at hr
 ·rename_i l k c
  obtain ⟨h1,h2⟩:=nX hr
  rw [Bool.and_eq_true,blt_eq] at h1
  have:=dC h1.1
  subst this
  have hc:=of_decide_eq_true h1.2
  cases h2
  obtain ⟨x,y,rfl,hx,hy⟩:=F9 hd
  cases hx
  cases hy
  have hrun:(callFunc 297 #[Value.string ⟨l.toArray⟩,Value.int .u8 (Int.ofNat c)]).run Tryz.prog w=.ok (.value (.int .i64 (Lib.indexByte l c.toUInt8))) w:=by
   rw [run_callFunc_extern Tryz.func297 wq wq wq (e:=Extern.BytealgIndexByte.indexByte) wq,Lib.run_indexByteString]
   rfl
  refine z8 hrun ⟨ρ,?_,dH.refl hs _⟩
  have e:Da c l 0=Lib.indexByte l c.toUInt8:=by
   have h0:=Lib.indexByte_ge l c.toUInt8
   rw [Dc hc]
   split <;> omega
  rw [e]
  exact .i _ _
 ·cases hr
set_option maxRecDepth 100000 in
theorem Nw:fB Tryz.prog 425 XY:=by
 intro vs h nx v h' aL ρ w xs hr hd hs hf _
 unfold XY at hr
 split at hr
 ·rename_i l k c
  obtain ⟨h1,h2⟩:=nX hr
  rw [Bool.and_eq_true,blt_eq] at h1
  have:=dC h1.1
  subst this
  have hc:=of_decide_eq_true h1.2
  cases h2
  obtain ⟨x,y,rfl,hx,hy⟩:=F9 hd
  cases hx
  cases hy
  have hrun:(callFunc 425 #[Value.string ⟨l.toArray⟩,Value.int .u8 (Int.ofNat c)]).run Tryz.prog w=.ok (.value (.int .i64 (Lib.countByte l c.toUInt8:Nat))) w:=by
   rw [run_callFunc_extern Tryz.func425 wq wq wq (e:=Extern.BytealgCount.count) wq,Lib.run_countString]
   rfl
  refine z8 hrun ⟨ρ,?_,dH.refl hs _⟩
  rw [vp hc,Nat.zero_add]
  exact .i _ _
 ·cases hr
set_option maxRecDepth 100000 in
theorem Nx:fB Tryz.prog 419 (XZ 5):=by
 intro vs h nx v h' aL ρ w xs hr hd hs hf _
 unfold XZ at hr
 split at hr
 ·rename_i k n
  obtain ⟨h1,h2⟩:=nX hr
  rw [Bool.and_eq_true,blt_eq] at h1
  have:=dC h1.1
  subst this
  have hn:=of_decide_eq_true h1.2
  rw [dh] at h2
  cases h2
  obtain ⟨x,rfl,hx⟩:=xw hd
  cases hx
  obtain ⟨cs,h3,h4,_⟩:=Lib.run_makeNoZero (P:=Tryz.prog) w #[3] 89 5 Tryz.underlying89 n xj
  have hrun:(callFunc 419 #[Value.int .i64 (n:Int)]).run Tryz.prog w=.ok (.value (.slice (some ⟨w.heap.size,0,none⟩) n cs.size)) (w.drew.drew.alloc (.cells cs 5)):=by
   rw [run_callFunc_extern Tryz.func419 wq wq wq (e:=Extern.BytealgMakeNoZero.makeNoZero #[3] #[89]) wq,h3]
   rfl
  have hfr:ρ nx=none:=hf nx (Nat.le_refl _)
  refine z8 hrun ⟨nU ρ nx (w.drew.drew.heap.size,cs.size),?_,((dH.alloc (sz:=cs.size) hs.drew.drew hfr ?_).yP).yP⟩
  ·exact .Ca (cQ _ _ _) (by simp) h4
  ·have e:cs=([]++cs.toList).toArray:=by simp
   have:=iL.row (ρ:=nU ρ nx (w.drew.drew.heap.size,cs.size)) (cs:=[]) (opn:=true) (t:=5) (xs:=[]) (tl:=cs.toList) (sz:=cs.size) .nil (fun h=>by cases h) (by simp)
   rw [← e] at this
   exact this
 ·cases hr
end E
end Go.Proofs.YtlmabdegojeheaaGreatDoor
