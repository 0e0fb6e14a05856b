/- WholeTurned: parts of its proof (Ef Ui). -/
import Derived.Test.YtlmabdegojeheaaGreatDoorEe
import Derived.Laws.Cells
import Derived.Lib.Builder
import Derived.Test.YtlmabdegojeheaaGreatDoorRhUm
import Derived.Test.YtlmabdegojeheaaGreatDoorZfNt
namespace Go.Proofs.YtlmabdegojeheaaGreatDoor
open R
namespace E
open Go.RowKit Go.Lib
section
variable {P:Program} {op:Op}
theorem Sv {G:List V→Option V} {xs:List Operand} {l:List cu} (hx:∀ x∈xs,x∈op.operands.toList) (hd:el xs=some l)
  (key:∀ {ρ vs v} (f:R.Fr) (w:World),aT ρ vs (xs.map (ev f))→G vs=some v→∃ y,(∀ o:Oper,o.op=op→(execOp (ev f) o).run P w=.ok (.value y) w)∧Den ρ v y):aC P op (.q l G):=by
 intro ρ f fr h w v hf _ hl
 obtain ⟨u,h1,h2⟩:=iM hl
 exact key f w (iN (fun x hm=>hf x (hx x hm)) hd h1) h2
theorem tK {G:H→List V→Option V} {xs:List Operand} {l:List cu} (hx:∀ x∈xs,x∈op.operands.toList) (hd:el xs=some l)
  (key:∀ {ρ h w vs v} (f:R.Fr),Sat ρ h w→aT ρ vs (xs.map (ev f))→G h vs=some v→∃ y,(∀ o:Oper,o.op=op→(execOp (ev f) o).run P w=.ok (.value y) w)∧Den ρ v y):aC P op (.l l G):=by
 intro ρ f fr h w v hf hs hl
 obtain ⟨u,h1,h2⟩:=iM hl
 exact key f hs (iN (fun x hm=>hf x (hx x hm)) hd h1) h2
end
section
variable {P:Program} {ρ:Rn} {h:H} {w:World}
theorem eH (hs:Sat ρ h w) {n:Nat} {cs:List V} {o:Bool} {t:TypeId} (hg:at_ h n=some (.row cs o t)):∃ b sz xs tl,ρ n=some (b,sz)∧w.heap[b]?=some (.cells (xs++tl).toArray t)∧aT ρ cs xs∧(xs++tl).length=sz∧(o=false→tl=[]):=by
 obtain ⟨b,sz,ob,h1,h2,h3⟩:=hs.has n _ hg
 cases h3 with
 | row a c d=>exact ⟨b,sz,_,_,h1,h2,a,d,c⟩
theorem gD {b:Nat} {cs:Array Value} {t:TypeId} (hb:w.heap[b]?=some (.cells cs t)) (off j:Nat):w.cell? ((⟨b,off,none⟩:Addr).add j)=cs[off+j]?:=by
 rw [Addr.add_lit]
 simp [World.cell?,hb]
theorem mq (hs:Sat ρ h w) {n off len:Nat} {r:List V} (hr:ic h n off len=some r):∃ b sz xs,ρ n=some (b,sz)∧aT ρ r xs∧xs.length=len∧∀ P:Program,(loadCells ⟨b,off,none⟩ len).run P w=.ok xs.toArray w:=by
 unfold ic at hr
 split at hr
 ·rename_i cs o t hg
  obtain ⟨b,sz,xs,tl,h1,h2,h3,h4,h5⟩:=eH hs hg
  obtain ⟨rfl,hl⟩:=eR hr
  rw [lD] at *
  have h6:=h3.len
  refine ⟨b,sz,(xs.drop off).take len,h1,(h3.drop off).take len,?_,fun P=>?_⟩
  ·rw [List.length_drop] at hl
   rw [List.length_take,List.length_drop]
   omega
  ·have hlen:((xs.drop off).take len).length=len:=by
    rw [List.length_drop] at hl
    rw [List.length_take,List.length_drop]
    omega
   have:=run_loadCells_list (P:=P) (w:=w) ⟨b,off,none⟩ ((xs.drop off).take len) fun j v hj=>by
    rw [gD h2]
    rw [List.getElem?_take] at hj
    split at hj
    ·rw [List.getElem?_drop] at hj
     have hlt:=(List.getElem?_eq_some_iff.1 hj).1
     simp only [List.getElem?_toArray]
     rw [List.getElem?_append_left hlt]
     exact hj
    ·cases hj
   rw [hlen] at this
   exact this
 ·cases hr
theorem CG (hs:Sat ρ h w) {n off:Nat} {v:V} {cs:List V} {o:Bool} {t:TypeId} (hg:at_ h n=some (.row cs o t)) (hv:cs[off]?=some v):∃ b sz x,ρ n=some (b,sz)∧Den ρ v x∧w.cell? ⟨b,off,none⟩=some x:=by
 obtain ⟨b,sz,xs,tl,h1,h2,h3,h4,h5⟩:=eH hs hg
 obtain ⟨x,hx,hd⟩:=h3.nth hv
 refine ⟨b,sz,x,h1,hd,?_⟩
 have hlt:=(List.getElem?_eq_some_iff.1 hx).1
 simp only [World.cell?,h2]
 simp [List.getElem?_append_left hlt,hx]
theorem MH {t:TypeId} {x:Operand} {d:cu} {sz:Nat} (hd:cO x=some d) (h1:aY P t=some true) (h2:ct P t=some sz):aC P (.load t x) (.l1 d (uw sz)) :=
 pQ (by simp [Op.operands]) hd fun hs hu hv=>by
  unfold uw at hv
  split at hv
  ·simp only [Option.map_eq_some_iff] at hv
   obtain ⟨r,hr,rfl⟩:=hv
   obtain ⟨b,s,xs,e1,e2,_,e4⟩:=mq hs hr
   cases hu with
   | p e =>
    rw [e1] at e
    cases e
    exact ⟨_,fun f o hx ho=>by simp [execOp,ho,hx,Instr.loadAt,Instr.sureAddr,loadVar,bS h1,bI h2,e4],.ag e2⟩
  ·cases hv
theorem MI {t:TypeId} {x:Operand} {d:cu} (hd:cO x=some d) (h1:aY P t=some false):aC P (.load t x) (.l1 d ux) :=
 pQ (by simp [Op.operands]) hd fun hs hu hv=>by
  unfold ux at hv
  split at hv
  ·split at hv
   ·rename_i hg
    rw [pP] at hv
    obtain ⟨b,s,y,e1,e2,e3⟩:=CG hs hg hv
    cases hu with
    | p e =>
     rw [e1] at e
     cases e
     exact ⟨_,fun f o hx ho=>by simp [execOp,ho,hx,Instr.loadAt,Instr.sureAddr,loadVar,bS h1,load,Sem.run,e3],e2⟩
   ·cases hv
  ·cases hv
theorem Xr {t t' u:TypeId} {x:Operand} {d:cu} {n:Nat} (hd:cO x=some d) (h1:P.underlying t=some (.pointer u)) (h2:P.underlying t'=some .unsafePointer) (h3:ct P u=some n) (h4:n≠0):aC P (.convert t t' x) (.l1 d Rx) :=
 pQ (by simp [Op.operands]) hd fun {_ _ w _ _ _} hs hu hv=>by
  obtain ⟨i,hi,rfl⟩:=iP h3
  unfold Rx at hv
  split at hv
  ·cases hv
   cases hu
   exact ⟨_,fun f o hx ho=>by simp [execOp,ho,hx,convert,run_underlying h1,run_underlying h2,Conv.unsafePointer],.p0⟩
  ·split at hv
   ·rename_i n0 off0 _ cs0 op0 t0 hg
    obtain ⟨h5,h6⟩:=bA hv
    cases h6
    rw [blt_eq] at h5
    have h5:=of_decide_eq_true h5
    obtain ⟨b,sz,xs,tl,e1,e2,e3,e4,e5⟩:=eH hs hg
    cases hu with
    | p e =>
     rw [e1] at e
     cases e
     refine ⟨_,fun f o hx ho=>?_,.p e1⟩
     have hl:=e3.len
     have hsh:w.shape? b=some (t0,(xs++tl).length):=by simp [World.shape?,e2]
     have:=run_to_unsafe (P:=P) (w:=w) ⟨b,off0,none⟩ h1 h2 hi h4 hsh (by simp only [List.length_append];omega)
     simp [execOp,ho,hx,this]
   ·cases hv
  ·cases hv
theorem Xs {t t' u:TypeId} {x:Operand} {d:cu} {n:Nat} (hd:cO x=some d) (h1:P.underlying t=some .unsafePointer) (h2:P.underlying t'=some (.pointer u)) (h3:ct P u=some n):aC P (.convert t t' x) (.l1 d (Ry P u)) :=
 pQ (by simp [Op.operands]) hd fun {_ _ w _ _ _} hs hu hv=>by
  obtain ⟨i,hi,rfl⟩:=iP h3
  unfold Ry at hv
  split at hv
  ·cases hv
   cases hu
   exact ⟨_,fun f o hx ho=>by simp [execOp,ho,hx,convert,run_underlying h1,run_underlying h2,Conv.unsafePointer],.p0⟩
  ·split at hv
   ·rename_i n0 off0 _ cs0 t0 hg
    obtain ⟨h5,h6⟩:=bA hv
    cases h6
    obtain ⟨b,sz,xs,tl,e1,e2,e3,e4,e5⟩:=eH hs hg
    have:=e5 rfl
    subst this
    cases hu with
    | p e =>
     rw [e1] at e
     cases e
     refine ⟨_,fun f o hx ho=>?_,.p e1⟩
     have hl:=e3.len
     have hsh:w.shape? b=some (t0,xs.length):=by simp [World.shape?,e2]
     have:=run_from_unsafe (P:=P) (w:=w) ⟨b,off0,none⟩ h1 h2 hi hsh (by rw [← hl];exact h5)
     simp [execOp,ho,hx,this]
   ·cases hv
  ·cases hv
theorem xJ:∀ {cs:List V} {l:List UInt8} {xs:List Value},rB cs=some l→aT ρ cs xs→∃ ns:List Int,xs=ns.map (Value.int .u8)∧l=ns.map fun n=>UInt8.ofNat n.toNat
 | [],l,xs,h,hd=>by cases h;cases hd;exact ⟨[],rfl,rfl⟩
 | v::cs,l,xs,h,hd=>by
  unfold rB at h
  split at h
  ·rename_i he;cases he
  ·rename_i x l' he
   cases he
   split at h
   ·rename_i r hr
    cases h
    cases hd with
    | cons hu hd =>
     cases hu
     obtain ⟨ns,rfl,rfl⟩:=xJ hr hd
     exact ⟨x::ns,rfl,rfl⟩
   ·cases h
  ·cases h
theorem sQ (P:Program) (w:World) (g:Value→ByteArray→Sem (ForInStep ByteArray)) (hg:∀ n s,g (.int .u8 n) s=pure (.yield (s.push (UInt8.ofNat n.toNat)))):∀ (l:List Int) (s:ByteArray),(Sem.run P (forIn (l.map (Value.int .u8)) s g) w)=.ok ⟨s.data++(l.map fun n=>UInt8.ofNat n.toNat).toArray⟩ w
 | [],s=>by simp
 | n::l,s=>by
  simp only [List.map_cons,List.forIn_cons,Sem.run_bind,hg,Sem.run_pure,Result.andThen_ok]
  rw [sQ P w g hg l]
  congr 2
  simp [ByteArray.push]
theorem Sw (P:Program) (w:World) (b off c:Nat) (ns:List Int) (hl:(loadCells ⟨b,off,none⟩ ns.length).run P w=.ok (ns.map (Value.int .u8)).toArray w):(Conv.bytesToString (.slice (some ⟨b,off,none⟩) ns.length c)).run P w=.ok (.string ⟨(ns.map fun n=>UInt8.ofNat n.toNat).toArray⟩) w:=by
 simp only [Conv.bytesToString,Sem.run_bind,hl,Result.andThen_ok]
 rw [← Array.forIn_toList]
 rw [show (List.map (Value.int .u8) ns).toArray.toList=ns.map (Value.int .u8) from rfl]
 rw [sQ P w _ (fun n s=>rfl) ns]
 simp
theorem Xt {t t' e:TypeId} {x:Operand} {d:cu} (hd:cO x=some d) (h1:P.underlying t=some (.slice e)) (h2:P.underlying t'=some .string) (h3:P.underlying e=some (.int .u8)):aC P (.convert t t' x) (.l1 d RA) :=
 pQ (by simp [Op.operands]) hd fun {_ _ w _ _ _} hs hu hv=>by
  have conv:∀ (A:Option Addr) (n c:Nat) (z:Value),(Conv.bytesToString (.slice A n c)).run P w=.ok z w→(convert t t' (.slice A n c)).run P w=.ok z w:=by
   intro A n c z hr
   unfold convert
   simp only [Sem.run_bind,run_underlying h1,run_underlying h2,run_underlying h3,Result.andThen_ok]
   exact hr
  have fin:∀ {A:Option (Nat×Nat)} {n:Nat} {b off:Nat} {cs:List V} {l:List UInt8} {sz0 m0:Nat} {c0:Nat},ic ‹H› m0 off n=some cs→rB cs=some l→‹Rn› m0=some (b,sz0)→(Conv.bytesToString (.slice (some ⟨b,off,none⟩) n c0)).run P w=.ok (.string ⟨l.toArray⟩) w:=by
   intro A n b off cs l sz0 m0 c0 hr hb hm
   obtain ⟨b',s',xs,e1,e2,e3,e4⟩:=mq hs hr
   rw [hm] at e1
   cases e1
   obtain ⟨ns,rfl,rfl⟩:=xJ hb e2
   have hl:ns.length=n:=by simpa using e3
   have:=Sw P w b off c0 ns (by rw [hl];exact e4 P)
   rw [hl] at this
   exact this
  unfold RA at hv
  split at hv
  ·cases hv
   cases hu
   exact ⟨.string ⟨#[]⟩,fun f o hx ho=>by
    simp only [execOp,ho,hx,Sem.run_bind]
    rw [conv none _ _ (.string .empty) rfl]
    rfl,.s []⟩
  ·split at hv
   ·rename_i cs hr
    simp only [Option.map_eq_some_iff] at hv
    obtain ⟨l,hb,rfl⟩:=hv
    cases hu with
    | B7 e =>
     exact ⟨_,fun f o hx ho=>by
      simp only [execOp,ho,hx,Sem.run_bind]
      rw [conv _ _ _ _ (fin (A:=none) hr hb e)]
      rfl,.s l⟩
   ·cases hv
  ·split at hv
   ·rename_i cs hr
    simp only [Option.map_eq_some_iff] at hv
    obtain ⟨l,hb,rfl⟩:=hv
    cases hu with
    | Ca e _ _ =>
     exact ⟨_,fun f o hx ho=>by
      simp only [execOp,ho,hx,Sem.run_bind]
      rw [conv _ _ _ _ (fin (A:=none) hr hb e)]
      rfl,.s l⟩
   ·cases hv
  ·cases hv
inductive ij (ρ:Rn):Option V→Option Value→Prop
 | none:ij ρ none none
 | some {v x}:Den ρ v x→ij ρ (some v) (some x)
theorem Ig {x:Option Value} (h:ij ρ none x):x=none:=by cases h;rfl
theorem extract_mk (s:List UInt8) (l h:Nat):(ByteArray.mk s.toArray).extract l h=ByteArray.mk ((s.drop l).take (h-l)).toArray:=by
 apply ByteArray.ext
 rw [ByteArray.data_extract]
 simp [List.extract_eq_take_drop]
theorem pS {x:Option V} {xv:Option Value} {y dflt b:Nat} (hb:bnd x y dflt=some b) (hx:ij ρ x xv):(xv=none∧b=dflt)∨(∃ k,xv=some (.int k b)∧b≤y):=by
 unfold bnd at hb
 split at hb
 ·cases hx
  cases hb
  exact .inl ⟨rfl,rfl⟩
 ·rename_i k m
  obtain ⟨h1,h2⟩:=bA hb
  cases h2
  cases hx with
  | some hx =>
   cases hx
   exact .inr ⟨_,rfl,Nat.le_of_ble_eq_true h1⟩
 ·cases hb
theorem Kd (k:IntKind) (b y:Nat) (h:b≤y) (code:BoundsCode) (w:World):(Instr.sliceBound (.int k b) y code).run P w=.ok b w:=by
 have:0≤(b:Int)∧(b:Int)≤y:=by omega
 simp [Instr.sliceBound,asIntOf,h]
theorem o8 {lo hi mx:Option V} {lx hx mx':Option Value} {len cap m b l:Nat} (isS:Bool) (h1:bnd mx cap cap=some m) (h2:bnd hi m len=some b) (h3:bnd lo b 0=some l) (d1:ij ρ lo lx) (d2:ij ρ hi hx) (d3:ij ρ mx mx') (hmx:mx'≠none→hx≠none) (w:World) :
  (Instr.sliceBounds isS len cap lx hx mx').run P w=.ok (l,b,m) w:=by
 unfold Instr.sliceBounds
 rcases pS h1 d3 with ⟨rfl,rfl⟩|⟨k1,rfl,l1⟩ <;> rcases pS h2 d2 with ⟨rfl,rfl⟩|⟨k2,rfl,l2⟩ <;> rcases pS h3 d1 with ⟨rfl,rfl⟩|⟨k3,rfl,l3⟩ <;>
  first|(simp [Kd, *];done)|(exfalso;exact hmx (fun h=>by cases h) rfl)
theorem pT {l h m:Bool} {vs:List V} {a b c:Option V} {lo hi mx:Option Operand} {f:R.Fr} {xs:List Value} (hb:J2 l h m vs=some (a,b,c)) (hd:aT ρ vs xs) (hl:l=lo.isSome) (hh:h=hi.isSome) (hm:m=mx.isSome) (hx:xs=(lo.toList++(hi.toList++mx.toList)).map (ev f)) :
  ij ρ a (lo.map (ev f))∧ij ρ b (hi.map (ev f))∧ij ρ c (mx.map (ev f))∧(mx.map (ev f)≠none→hi.map (ev f)≠none):=by
 subst hl hh hm hx
 unfold J2 at hb
 split at hb <;> first|cases hb|skip
 ·rename_i e1 e2 e3
  obtain rfl:lo=none:=by cases lo <;> simp_all
  obtain rfl:hi=none:=by cases hi <;> simp_all
  obtain rfl:mx=none:=by cases mx <;> simp_all
  exact ⟨.none,.none,.none,fun h=>absurd rfl h⟩
 ·rename_i e1 e2 e3
  obtain ⟨x,rfl⟩:∃ x,lo=some x:=by cases lo <;> simp_all
  obtain rfl:hi=none:=by cases hi <;> simp_all
  obtain rfl:mx=none:=by cases mx <;> simp_all
  cases hd with
  | cons d1 _=>exact ⟨.some d1,.none,.none,fun h=>absurd rfl h⟩
 ·rename_i e1 e2 e3
  obtain rfl:lo=none:=by cases lo <;> simp_all
  obtain ⟨y,rfl⟩:∃ x,hi=some x:=by cases hi <;> simp_all
  obtain rfl:mx=none:=by cases mx <;> simp_all
  cases hd with
  | cons d1 _=>exact ⟨.none,.some d1,.none,fun h=>absurd rfl h⟩
 ·rename_i e1 e2 e3
  obtain ⟨x,rfl⟩:∃ x,lo=some x:=by cases lo <;> simp_all
  obtain ⟨y,rfl⟩:∃ x,hi=some x:=by cases hi <;> simp_all
  obtain rfl:mx=none:=by cases mx <;> simp_all
  cases hd with
  | cons d1 hd=>cases hd with|cons d2 _=>exact ⟨.some d1,.some d2,.none,fun h=>absurd rfl h⟩
 ·rename_i e1 e2 e3
  obtain rfl:lo=none:=by cases lo <;> simp_all
  obtain ⟨y,rfl⟩:∃ x,hi=some x:=by cases hi <;> simp_all
  obtain ⟨z,rfl⟩:∃ x,mx=some x:=by cases mx <;> simp_all
  cases hd with
  | cons d1 hd=>cases hd with|cons d2 _=>exact ⟨.none,.some d1,.some d2,fun _=>by simp⟩
 ·rename_i e1 e2 e3
  obtain ⟨x,rfl⟩:∃ x,lo=some x:=by cases lo <;> simp_all
  obtain ⟨y,rfl⟩:∃ x,hi=some x:=by cases hi <;> simp_all
  obtain ⟨z,rfl⟩:∃ x,mx=some x:=by cases mx <;> simp_all
  cases hd with
  | cons d1 hd=>cases hd with|cons d2 hd=>cases hd with|cons d3 _=>exact ⟨.some d1,.some d2,.some d3,fun _=>by simp⟩
theorem mr {t:TypeId} {x:Operand} {lo hi mx:Option Operand} {f:R.Fr} {o:Oper} {xv z:Value} (ho:o.op=.slice t x lo hi mx) (hx:ev f x=xv) (hr:(Instr.sliceAt t xv (lo.map (ev f)) (hi.map (ev f)) (mx.map (ev f))).run P w=.ok z w):(execOp (ev f) o).run P w=.ok (.value z) w:=by
 simp only [execOp,ho,hx,Sem.run_bind,hr,Result.andThen_ok,Sem.run_pure]
theorem Ke {t:TypeId} {x:Operand} {lo hi mx:Option Operand} {l:List cu} (hd:el (x::(lo.toList++(hi.toList++mx.toList)))=some l) (ht:P.underlying t=some .string):aC P (.slice t x lo hi mx) (.q l (H4 lo.isSome hi.isSome mx.isSome)) :=
 jR (by intro y hy;simpa [Op.operands] using hy) hd fun {ρ vs v xs} hu hv=>by
  unfold H4 at hv
  split at hv
  ·rename_i s r
   split at hv
   ·rename_i a b hb
    unfold Z0 at hv
    split at hv
    ·rename_i b' hb'
     split at hv
     ·rename_i a' ha'
      cases hv
      cases hu with
      | @cons _ xv _ xs' hu hr =>
       cases hu
       refine ⟨_,fun f w o hx ho=>?_,.s _⟩
       simp only [List.map_cons,List.cons.injEq] at hx
       obtain ⟨d1,d2,d3,d4⟩:=pT hb hr rfl rfl rfl hx.2.symm
       have hm:mx.map (ev f)=none:=Ig d3
       refine mr ho hx.1 ?_
       have e0:(ByteArray.mk s.toArray).size=s.length:=rfl
       have hbd:=o8 (P:=P) (cap:=s.length) false rfl hb' ha' d1 d2 (.none (ρ:=ρ)) (fun h=>absurd rfl h) w
       have hm':mx=none:=by cases mx <;> first|rfl|cases hm
       subst hm'
       unfold Instr.sliceAt
       simp only [Sem.run_bind,run_underlying ht,Result.andThen_ok,Instr.slice,Option.map_none,Option.isSome_none,Bool.false_eq_true,if_false,e0]
       have hbd':(Instr.sliceBounds false s.length s.length (lo.map (ev f)) (hi.map (ev f)) none).run P w=.ok (a',b',s.length) w:=hbd
       simp only [Sem.run_pure,Result.andThen_ok,hbd']
       rw [extract_mk]
     ·cases hv
    ·cases hv
   ·cases hv
  ·cases hv
theorem uE {sz len c:Nat} {a:Option (Nat×Nat)} {A:Option Addr} {lo hi mx:Option V} {lx hx mx':Option Value} {v:V} (hv:RB sz a len c lo hi mx=some v) (ha:∀ (n c:Nat),Den ρ (.sl a n (.k c)) (.slice A n c)) (d1:ij ρ lo lx) (d2:ij ρ hi hx) (d3:ij ρ mx mx') (hmx:mx'≠none→hx≠none) :
  ∃ l b m,(∀ (isS:Bool) (w:World),(Instr.sliceBounds isS len c lx hx mx').run P w=.ok (l,b,m) w)∧Den ρ v (.slice (if m=l then A else A.map (·.add (l*sz))) (b-l) (m-l)):=by
 unfold RB at hv
 split at hv
 ·rename_i m hm
  split at hv
  ·rename_i b hb
   split at hv
   ·rename_i l hl
    refine ⟨l,b,m,fun isS w=>o8 isS hm hb hl d1 d2 d3 hmx w,?_⟩
    rw [bE] at hv
    by_cases hml:m=l
    ·rw [decide_eq_true hml] at hv
     cases hv
     rw [if_pos hml,hml,Nat.sub_self]
     exact ha _ _
    ·rw [decide_eq_false hml] at hv
     cases hv
     rw [if_neg hml]
     cases a with
     | none =>
      have:=ha 0 0
      cases this
      exact .Vs _ _
     | some p =>
      obtain ⟨n,o⟩:=p
      have:=ha 0 0
      cases this with
      | B7 e =>
       show Den ρ _ (.slice (some (Addr.add _ _)) _ _)
       rw [Addr.add_lit]
       exact .B7 e
   ·cases hv
  ·cases hv
 ·cases hv
theorem Kg {t e:TypeId} {x:Operand} {lo hi mx:Option Operand} {l:List cu} {n sz:Nat} (hd:el (x::(lo.toList++(hi.toList++mx.toList)))=some l) (ht:P.underlying t=some (.array n e)) (hz:ct P e=some sz):aC P (.slice t x lo hi mx) (.q l (H6 n sz lo.isSome hi.isSome mx.isSome)) :=
 Sv (by intro y hy;simpa [Op.operands] using hy) hd fun {ρ vs v} f w hu hv=>by
  unfold H6 at hv
  split at hv
  ·rename_i b0 off r
   split at hv
   ·rename_i a b c hb
    rw [List.map_cons] at hu
    generalize hx:ev f x=xv at hu
    cases hu with
    | cons hu hr =>
     cases hu with
     | @p _ _ bk _ e0 =>
      obtain ⟨d1,d2,d3,d4⟩:=pT hb hr rfl rfl rfl rfl
      obtain ⟨l,b,m,h1,h2⟩:=uE hv (A:=some ⟨bk,off,none⟩) (fun n c=>.B7 e0) d1 d2 d3 d4
      refine ⟨_,fun o ho=>mr ho hx ?_,h2⟩
      have h1':=h1 false w
      simp only [Instr.sliceAt,Sem.run_bind,run_underlying ht,Result.andThen_ok,Instr.sureAddr,Sem.run_pure]
      rw [h1']
      simp only [Result.andThen_ok,bI hz]
      by_cases hml:m=l <;> simp [hml]
   ·cases hv
  ·cases hv
theorem Kh {t e:TypeId} {x:Operand} {lo hi mx:Option Operand} {l:List cu} {sz:Nat} (hd:el (x::(lo.toList++(hi.toList++mx.toList)))=some l) (ht:P.underlying t=some (.slice e)) (hz:ct P e=some sz):aC P (.slice t x lo hi mx) (.l l (H5 sz lo.isSome hi.isSome mx.isSome)) :=
 tK (by intro y hy;simpa [Op.operands] using hy) hd fun {ρ h w vs v} f hs hu hv=>by
  have run:∀ {A:Option Addr} {n c l b m:Nat} (o:Oper),o.op=.slice t x lo hi mx→ev f x=.slice A n c→(Instr.sliceBounds true n c (lo.map (ev f)) (hi.map (ev f)) (mx.map (ev f))).run P w=.ok (l,b,m) w →
    (execOp (ev f) o).run P w=.ok (.value (.slice (if m=l then A else A.map (·.add (l*sz))) (b-l) (m-l))) w:=by
   intro A n c l b m o ho hx hb
   refine mr ho hx ?_
   simp only [Instr.sliceAt,Sem.run_bind,run_underlying ht,Result.andThen_ok,Instr.slice,hb,bI hz,Sem.run_pure]
  unfold H5 at hv
  split at hv
  ·rename_i A len c r
   split at hv
   ·rename_i a b c' hb
    rw [List.map_cons] at hu
    generalize hx:ev f x=xv at hu
    cases hu with
    | cons hu hr =>
     obtain ⟨d1,d2,d3,d4⟩:=pT hb hr rfl rfl rfl rfl
     cases hu with
     | Vs =>
      obtain ⟨l,b,m,h1,h2⟩:=uE hv (A:=none) (fun n c=>.Vs n c) d1 d2 d3 d4
      exact ⟨_,fun o ho=>run o ho hx (h1 true w),h2⟩
     | B7 e0 =>
      obtain ⟨l,b,m,h1,h2⟩:=uE hv (A:=some _) (fun n c=>.B7 e0) d1 d2 d3 d4
      exact ⟨_,fun o ho=>run o ho hx (h1 true w),h2⟩
   ·cases hv
  ·rename_i n off len sz' r
   split at hv
   ·rename_i a b c' cs op0 t0 hb hg
    obtain ⟨hq,hv⟩:=bA hv
    rw [Bool.and_eq_true,bE] at hq
    have hsz:sz'=sz:=of_decide_eq_true hq.1
    have hoff:=Nat.le_of_ble_eq_true hq.2
    subst hsz
    rw [List.map_cons] at hu
    generalize hx:ev f x=xv at hu
    cases hu with
    | cons hu hr =>
     obtain ⟨d1,d2,d3,d4⟩:=pT hb hr rfl rfl rfl rfl
     cases hu with
     | @Ca _ _ _ _ c0 b0 z0 e0 e1 e2 =>
      obtain ⟨b1,z1,xs,tl,f1,f2,f3,f4,f5⟩:=eH hs hg
      rw [e0] at f1
      cases f1
      have hl:=f3.len
      have hkn:(cs.length-off) / sz'≤c0:=by
       rw [List.length_append] at f4
       by_cases h0:sz'=0
       ·subst h0;simp
       ·refine Nat.div_le_of_le_mul ?_
        rw [Nat.mul_comm]
        omega
      generalize (cs.length-off) / sz'=kn at hv hkn
      unfold Z1 at hv
      split at hv
      ·cases hv
      ·have hmx:=Ig d3
       split at hv
       ·rename_i bb hbb
        split at hv
        ·rename_i ll hll
         have hb2:bnd b c0 len=some bb:=by
          revert hbb
          unfold bnd
          split
          ·exact id
          ·intro hh
           obtain ⟨g1,g2⟩:=bA hh
           have:=Nat.le_of_ble_eq_true g1
           rw [Nat.ble_eq_true_of_le (Nat.le_trans this hkn)]
           exact g2
          ·exact id
         have hbnd:=o8 (P:=P) (cap:=c0) true (rfl:bnd none c0 c0=some c0) hb2 hll d1 d2 (.none (ρ:=ρ)) (fun h=>absurd rfl h) w
         rw [← hmx] at hbnd
         have hbc:bb≤c0:=by
          rcases pS hb2 d2 with ⟨_,rfl⟩|⟨_,_,h⟩
          ·exact e2
          ·exact h
         have hlb:ll≤bb:=by
          rcases pS hll d1 with ⟨_,rfl⟩|⟨_,_,h⟩
          ·exact Nat.zero_le _
          ·exact h
         refine ⟨_,fun o ho=>run o ho hx hbnd,?_⟩
         rw [bE] at hv
         by_cases hl0:ll=0
         ·rw [decide_eq_true hl0] at hv
          cases hv
          subst hl0
          have e3:(if c0=0 then some (⟨b0,off,none⟩:Addr) else (some ⟨b0,off,none⟩:Option Addr).map (·.add (0*sz')))=some ⟨b0,off,none⟩:=by
           split
           ·rfl
           ·simp [Addr.add]
          rw [e3]
          exact .Ca e0 e1 hbc
         ·rw [decide_eq_false hl0,cond_false,blt_eq] at hv
          by_cases hlk:ll<kn
          ·rw [decide_eq_true hlk] at hv
           cases hv
           rw [if_neg (by omega)]
           show Den ρ _ (.slice (some (Addr.add _ _)) _ _)
           rw [Addr.add_lit]
           refine .Ca e0 ?_ xj
           rw [Nat.sub_mul]
           have:ll*sz'≤c0*sz':=Nat.mul_le_mul_right _ xj
           omega
          ·rw [decide_eq_false hlk,cond_false] at hv
           obtain ⟨g1,g2⟩:=bA hv
           rw [bE] at g1
           have g1:=of_decide_eq_true g1
           cases g2
           subst g1
           rw [Nat.sub_self]
           split
           ·exact .Vt
           ·exact .Vt
        ·cases hv
       ·cases hv
   ·cases hv
  ·cases hv
theorem o9 {α:Type} (P:Program) (w:World) (g:α→PUnit→Sem (ForInStep PUnit)):∀ (l:List α),(∀ i∈l,(g i PUnit.unit).run P w=.ok (.yield PUnit.unit) w)→(Sem.run P (forIn l PUnit.unit g) w)=.ok PUnit.unit w
 | [],_=>rfl
 | i::l,h=>by
  simp only [List.forIn_cons,Sem.run_bind,h i (.head _),Result.andThen_ok]
  exact o9 P w g l fun j hj=>h j (.tail _ hj)
theorem rH {α:Type} {g:α→Bool→Bool} (hg:∀ i r,g i r=true→r=true):∀ {l:List α},l.foldr g true=true→∀ i∈l,∃ r,g i r=true
 | [],_,i,hi=>by cases hi
 | j::l,h,i,hi=>by
  rw [List.foldr_cons] at h
  rcases List.mem_cons.1 hi with rfl|hi
  ·exact ⟨_,h⟩
  ·exact rH hg (hg _ _ h) i hi
theorem Ih {o:Option V} {g:V→Bool} {r:Bool} (h:(match o with|some u=>g u&&r|none=>false)=true):r=true:=by
 cases o with
 | none=>cases h
 | some u=>exact (Bool.and_eq_true_iff.1 h).2
theorem run_checkKey (em:Bool) (w:World):∀ (d:Nat) {t:TypeId} {v:V} {x:Value},QN P d t v=true→Den ρ v x→(Instr.checkKey em d t x).run P w=.ok () w:=by
 intro d
 induction d with
 | zero=>intro t v x h;cases h
 | succ d ih =>
  intro t v x h hd
  unfold QN at h
  cases hu:P.underlying t with
  | none=>rw [hu] at h;cases h
  | some td =>
   rw [hu] at h
   split at h
   ·cases h
   ·rename_i n e cs he
    cases he
    split at h
    ·rename_i ag sz hk hz
     cases hd with
     | ag hc =>
      rw [Instr.checkKey]
      simp only [Sem.run_bind,run_underlying hu,Result.andThen_ok]
      simp only [Std.Legacy.Range.forIn_eq_forIn_range',Std.Legacy.Range.size,Nat.sub_zero,Nat.add_sub_cancel,Nat.div_one]
      rw [o9 P w _ _ ?hh]
      case hh =>
       intro i hi
       obtain ⟨r,hr⟩:=rH (fun i r hh=>Ih hh) h i hi
       split at hr
       ·rename_i u hp
        obtain ⟨y,hy1,hy2⟩:=iO hk hz hc hp
        have h1:=ih (Bool.and_eq_true_iff.1 hr).1 hy2
        simp only [Sem.run_bind,bI hz,Result.andThen_ok,hy1 w,h1,Sem.run_pure]
       ·cases hr
      rfl
    ·cases h
   ·rename_i fs cs he
    cases he
    cases hd with
    | ag hc =>
     rw [Instr.checkKey]
     simp only [Sem.run_bind,run_underlying hu,Result.andThen_ok]
     rw [← Array.forIn_toList,o9 P w _ _ ?hh]
     case hh =>
      intro f hf
      obtain ⟨r,hr⟩:=rH (fun f r hh=>by
       by_cases hn:f.name= "_"
       ·rw [if_pos hn] at hh
        exact hh
       ·rw [if_neg hn] at hh
        split at hh
        ·exact Ih hh
        ·cases hh) h f hf
      by_cases hn:f.name= "_"
      ·simp [hn]
      ·rw [if_neg hn] at hr
       split at hr
       ·rename_i ag sz hk hz
        split at hr
        ·rename_i u hp
         obtain ⟨y,hy1,hy2⟩:=iO hk hz hc hp
         have h1:=ih (Bool.and_eq_true_iff.1 hr).1 hy2
         simp only [ne_eq,hn,not_false_eq_true,if_true,Sem.run_bind,Result.andThen_ok,hy1 w,h1,Sem.run_pure]
        ·cases hr
       ·cases hr
     rfl
   ·cases h
   ·cases h
   ·rename_i td' h1 h2 h3 h4 h5 h6
    cases h4
    rw [Instr.checkKey]
    simp only [Sem.run_bind,run_underlying hu,Result.andThen_ok]
    cases td with
    | interface m=>exact absurd rfl (h1 m)
    | array n e=>exact absurd rfl (h2 n e)
    | struct fs=>exact absurd rfl (h3 fs)
    | _=>rfl
   ·cases h
def Zz (ρ:Rn) (es:List (V×V×Nat)) (ms:List MapEntry) (i:Nat) (r:Option (Nat×V×V×Nat)) (r':Option (Nat×Value)):Prop :=
 (r=none∧r'=none)∨∃ j e m,r=some (i+j,e)∧r'=some (i+j,m.val)∧es[j]?=some e∧ms[j]?=some m∧CB ρ e m
theorem Zz.more {es:List (V×V×Nat)} {ms:List MapEntry} {i:Nat} {r:Option (Nat×V×V×Nat)} {r':Option (Nat×Value)} {e m} (h:Zz ρ es ms (i+1) r r'):Zz ρ (e::es) (m::ms) i r r':=by
 rcases h with h|⟨j,e',m',h1,h2,h3,h4,h5⟩
 ·exact .inl h
 ·exact .inr ⟨j+1,e',m',by rw [h1];congr 2;omega,by rw [h2];congr 2;omega,h3,h4,h5⟩
theorem nr (w:World) {kt:TypeId} {k:V} {kx:Value} (hk:Den ρ k kx):∀ {es:List (V×V×Nat)} {ms:List MapEntry} {i:Nat} {r:Option (Nat×V×V×Nat)},dM ρ es ms→xH P kt k es i=some r →
  ∃ r',(Instr.findAsking kt kx ms i).run P w=.ok r' w∧Zz ρ es ms i r r'
 | [],_,i,r,hd,h=>by cases hd;cases h;exact ⟨none,rfl,.inl ⟨rfl,rfl⟩⟩
 | e::es,_,i,r,hd,h=>by
  cases hd with
  | @cons _ m _ ms he hd =>
   unfold xH at h
   split at h
   ·rename_i hq
    cases h
    refine ⟨some (i,m.val),?_,.inr ⟨0,e,m,rfl,rfl,rfl,rfl,he⟩⟩
    simp only [Instr.findAsking,Sem.run_bind]
    rw [show (Op.equal kt kx m.key).run P w=.ok true w from np _ hq hk he.1 w]
    rfl
   ·rename_i hq
    obtain ⟨r',h1,h2⟩:=nr w hk hd h
    refine ⟨r',?_,h2.more⟩
    simp only [Instr.findAsking,Sem.run_bind]
    rw [show (Op.equal kt kx m.key).run P w=.ok false w from np _ hq hk he.1 w]
    exact h1
   ·cases h
theorem CH {d:Nat} {kt:TypeId} {td:TypeDesc} {a b:V} {x y:Value} {r c:Bool} (hu:P.underlying kt=some td) (h:HZ P d kt a b=some r) (ha:Den ρ a x) (hb:Den ρ b y) (hn:Instr.sameNow td x y=some c):c=r:=by
 have h1:=np d h ha hb default
 cases d with
 | zero=>cases h
 | succ d =>
  unfold Instr.sameNow at hn
  split at hn <;> first|cases hn|skip
  ·rename_i k n k' n'
   split at hn
   ·rename_i hk
    cases hn
    subst hk
    simp [Op.equalIn,run_underlying hu] at h1
    exact h1
   ·cases hn
  ·simp [Op.equalIn,run_underlying hu] at h1
   exact h1
  ·simp [Op.equalIn,run_underlying hu] at h1
   exact h1
theorem CJ {kt:TypeId} {td:TypeDesc} (hu:P.underlying kt=some td) {k:V} {kx:Value} (hk:Den ρ k kx):∀ {es:List (V×V×Nat)} {ms:List MapEntry} {i:Nat} {r:Option (Nat×V×V×Nat)} {r':Option (Nat×Value)},dM ρ es ms→xH P kt k es i=some r→Instr.findNow td kx ms i=some r'→Zz ρ es ms i r r'
 | [],_,i,r,r',hd,h,hn=>by cases hd;cases h;cases hn;exact .inl ⟨rfl,rfl⟩
 | e::es,_,i,r,r',hd,h,hn=>by
  cases hd with
  | @cons _ m _ ms he hd =>
   unfold xH at h
   unfold Instr.findNow at hn
   split at hn
   ·rename_i hs
    cases hn
    split at h
    ·cases h
     exact .inr ⟨0,e,m,rfl,rfl,rfl,rfl,he⟩
    ·rename_i hq
     cases CH hu hq hk he.1 hs
    ·cases h
   ·rename_i hs
    split at h
    ·rename_i hq
     cases CH hu hq hk he.1 hs
    ·exact (CJ hu hk hd h hn).more
    ·cases h
   ·cases hn
theorem run_findKey (w:World) {kt:TypeId} {k:V} {kx:Value} {es:List (V×V×Nat)} {ms:List MapEntry} {r:Option (Nat×V×V×Nat)} (hk:Den ρ k kx) (hd:dM ρ es ms) (h:uy P kt k es 0=some r) :
  (∀ em,(Instr.checkKey em 10000 kt kx).run P w=.ok () w)∧∃ r',(Instr.findKey kt kx ms).run P w=.ok r' w∧Zz ρ es ms 0 r r':=by
 unfold uy at h
 obtain ⟨h1,h2⟩:=bA h
 refine ⟨fun em=>run_checkKey em w 10000 h1 hk,?_⟩
 cases hu:P.underlying kt with
 | none =>
  replace h1:QN P (9999+1) kt k=true:=h1
  unfold QN at h1
  rw [hu] at h1
  cases h1
 | some td =>
  unfold Instr.findKey
  simp only [Sem.run_bind,run_underlying hu,Result.andThen_ok]
  split
  ·rename_i r' hn
   exact ⟨r',rfl,CJ hu hk hd h2 hn⟩
  ·exact nr w hk hd h2
theorem gE (hs:Sat ρ h w) {n clock:Nat} {es:List (V×V×Nat)} (hg:at_ h n=some (.mp es clock)):∃ b sz ms,ρ n=some (b,sz)∧w.heap[b]?=some (.map ms.toArray clock)∧dM ρ es ms:=by
 obtain ⟨b,sz,ob,h1,h2,h3⟩:=hs.has n _ hg
 cases h3 with
 | mp a=>exact ⟨b,sz,_,h1,h2,a⟩
theorem dX {b clock:Nat} {ms:List MapEntry} (hb:w.heap[b]?=some (.map ms.toArray clock)):(getObj b).run P w=.ok (.map ms.toArray clock) w:=by
 simp [getObj,Sem.run,hb]
theorem dM.len {es:List (V×V×Nat)} {ms:List MapEntry} (h:dM ρ es ms):es.length=ms.length:=by
 induction h with
 | nil=>rfl
 | cons _ _ ih=>simp [ih]
theorem Sy {c:Call} {l:List cu} {t kt et:TypeId} (hd:el c.args.toList=some l) (hc:c.callee=.builtin .len) (ht:c.argTypes.toList=[t]) (h1:P.underlying t=some (.map kt et)):aC P (.call c) (.l l Rz) :=
 tK (cT c) hd fun {ρ h w vs v} f hs hu hv=>by
  have ht0:c.argTypes[0]?=some t:=by rw [← Array.getElem?_toList,ht];rfl
  have ha:=cF (f:=f) (c:=c) rfl
  generalize c.args.toList.map (ev f)=xs at hu ha
  unfold Rz at hv
  split at hv
  ·cases hv
   cases hu with
   | cons hu hn =>
    cases hn
    cases hu
    refine ⟨_,fun o ho=>nV ho hc ?_,.i _ _⟩
    rw [ha]
    unfold Builtin.len_
    simp [ht0,run_underlying h1,goInt]
  ·split at hv
   ·rename_i hg
    cases hv
    obtain ⟨b,sz,ms,e1,e2,e3⟩:=gE hs hg
    cases hu with
    | cons hu hn =>
     cases hn
     cases hu with
     | m e =>
      rw [e1] at e
      cases e
      refine ⟨_,fun o ho=>nV ho hc ?_,.i _ _⟩
      rw [ha]
      unfold Builtin.len_
      simp [ht0,run_underlying h1,dX e2,goInt,e3.len]
   ·cases hv
  ·cases hv
def Vu (ok:Bool) (zx:Value) (r:Option (Nat×Value)):Value:=match r with
 | some (_,v)=>if ok then .tuple #[v,.bool true] else v
 | none=>if ok then .tuple #[zx,.bool false] else zx
theorem CK {t kt et:TypeId} {kv zx:Value} {ok:Bool} {r:Option (Nat×Value)} (h1:P.underlying t=some (.map kt et)) (hc:(Instr.checkKey true 10000 kt kv).run P w=.ok () w) (hf:(Instr.findKey kt kv []).run P w=.ok r w) (hz:(zeroValue et).run P w=.ok zx w) :
  (Instr.lookup t (.map none) kv ok).run P w=.ok (Vu ok zx r) w:=by
 unfold Instr.lookup
 simp only [Sem.run_bind,run_underlying h1,Result.andThen_ok,Sem.run_pure,List.isEmpty_toArray,List.isEmpty_nil,hc,hf]
 cases r with
 | none=>simp only [hz,Sem.run_bind,Result.andThen_ok,Sem.run_pure];rfl
 | some p=>rfl
theorem CL {t kt et:TypeId} {b clock:Nat} {ms:List MapEntry} {kv zx:Value} {ok:Bool} {r:Option (Nat×Value)} (h1:P.underlying t=some (.map kt et)) (hg:(getObj b).run P w=.ok (.map ms.toArray clock) w) (hc:(Instr.checkKey ms.toArray.isEmpty 10000 kt kv).run P w=.ok () w) (hf:(Instr.findKey kt kv ms).run P w=.ok r w) (hz:(zeroValue et).run P w=.ok zx w) :
  (Instr.lookup t (.map (some b)) kv ok).run P w=.ok (Vu ok zx r) w:=by
 unfold Instr.lookup
 simp only [Sem.run_bind,run_underlying h1,Result.andThen_ok,Sem.run_pure,hg,hc,hf]
 cases r with
 | none=>simp only [hz,Sem.run_bind,Result.andThen_ok,Sem.run_pure];rfl
 | some p=>rfl
theorem Ki {t kt et:TypeId} {x k:Operand} {l:List cu} {z:V} {ok:Bool} (hd:el [x,k]=some l) (h1:P.underlying t=some (.map kt et)) (hz:dK P et=some z):aC P (.lookup t x k ok) (.l l (H7 P kt z ok)) :=
 tK (by simp [Op.operands]) hd fun {ρ h w vs v} f hs hu hv=>by
  obtain ⟨i,zx,hi,hzx,hzv⟩:=dV hz
  have hzd:=fM (ρ:=ρ) hzv
  have hzr:=pR hi hzx w
  simp only [List.map_cons,List.map_nil] at hu
  generalize hx:ev f x=xv at hu
  generalize hk:ev f k=kv at hu
  unfold H7 at hv
  split at hv
  ·rename_i xm km
   cases hu with
   | cons hu hu2 =>
    cases hu2 with
    | cons hkd hn =>
     cases hn
     have fin:∀ {es:List (V×V×Nat)} {ms:List MapEntry},dM ρ es ms→(match uy P kt km es 0 with
       | none=>none
       | some (some (_,e))=>some (bif ok then V.t [e.2.1,.b true] else e.2.1)
       | some none=>some (bif ok then V.t [z,.b false] else z))=some v →
       ∃ y,(∀ em,(Instr.checkKey em 10000 kt kv).run P w=.ok () w)∧(∃ r',(Instr.findKey kt kv ms).run P w=.ok r' w∧((∃ j u,r'=some (j,u)∧y=if ok then .tuple #[u,.bool true] else u)∨(r'=none∧y=if ok then .tuple #[zx,.bool false] else zx)))∧Den ρ v y:=by
      intro es ms hes hf
      split at hf
      ·cases hf
      ·rename_i j e hfk
       cases hf
       obtain ⟨c1,r',c2,c3⟩:=run_findKey w hkd hes hfk
       rcases c3 with ⟨c3,_⟩|⟨j',e',m,c3,c4,_,_,c5⟩
       ·cases c3
       ·cases c3
        refine ⟨if ok then .tuple #[m.val,.bool true] else m.val,c1,⟨r',c2,.inl ⟨_,_,c4,rfl⟩⟩,?_⟩
        cases ok
        ·exact c5.2.1
        ·exact .t (.cons c5.2.1 (.cons (.b _) .nil))
      ·rename_i hfk
       cases hf
       obtain ⟨c1,r',c2,c3⟩:=run_findKey w hkd hes hfk
       rcases c3 with ⟨_,c4⟩|⟨j',e',m,c3,_⟩
       ·refine ⟨if ok then .tuple #[zx,.bool false] else zx,c1,⟨r',c2,.inr ⟨c4,rfl⟩⟩,?_⟩
        cases ok
        ·exact hzd
        ·exact .t (.cons hzd (.cons (.b _) .nil))
       ·cases c3
     split at hv
     ·cases hv
     ·rename_i es hes
      split at hes
      ·cases hes
       cases hu
       obtain ⟨y,c1,⟨r',c2,c3⟩,c4⟩:=fin (ms:=[]) .nil hv
       refine ⟨y,fun o ho=>?_,c4⟩
       have:=CK (t:=t) (ok:=ok) h1 (c1 true) c2 hzr
       simp only [execOp,ho,hx,hk,Sem.run_bind,this,Result.andThen_ok,Sem.run_pure]
       rcases c3 with ⟨j,u,rfl,rfl⟩|⟨rfl,rfl⟩ <;> rfl
      ·split at hes
       ·rename_i hg
        cases hes
        obtain ⟨b,sz,ms,e1,e2,e3⟩:=gE hs hg
        cases hu with
        | m e =>
         rw [e1] at e
         cases e
         obtain ⟨y,c1,⟨r',c2,c3⟩,c4⟩:=fin e3 hv
         refine ⟨y,fun o ho=>?_,c4⟩
         have:=CL (t:=t) (ok:=ok) h1 (dX e2) (c1 ms.toArray.isEmpty) c2 hzr
         simp only [execOp,ho,hx,hk,Sem.run_bind,this,Result.andThen_ok,Sem.run_pure]
         rcases c3 with ⟨j,u,rfl,rfl⟩|⟨rfl,rfl⟩ <;> rfl
       ·cases hes
      ·cases hes
  ·cases hv
theorem find_born {es:List (V×V×Nat)} {ms:List MapEntry} (hd:dM ρ es ms) (n:Nat):(es.find? (fun e=>Nat.beq e.2.2 n)=none∧ms.find? (·.born == n)=none)∨∃ e m,es.find? (fun e=>Nat.beq e.2.2 n)=some e∧ms.find? (·.born == n)=some m∧CB ρ e m:=by
 induction hd with
 | nil=>exact .inl ⟨rfl,rfl⟩
 | @cons e m l r he _ ih =>
  rw [List.find?_cons,List.find?_cons]
  have hb:(m.born == n)=Nat.beq e.2.2 n:=by
   rw [he.2.2,bE,Bool.eq_iff_iff,beq_iff_eq,decide_eq_true_iff]
  rw [hb]
  cases Nat.beq e.2.2 n with
  | true=>exact .inr ⟨e,m,rfl,rfl,he⟩
  | false=>exact ih
theorem MJ (hs:Sat ρ h w) {n r since st:Nat} {seen:List Nat} (hg:at_ h n=some (.it (some r) since seen st)):∃ b sz b' sz',ρ n=some (b,sz)∧ρ r=some (b',sz')∧w.heap[b]?=some (.mapIter (some b') since seen.toArray st):=by
 obtain ⟨b,sz,ob,h1,h2,h3⟩:=hs.has n _ hg
 cases h3 with
 | it e=>exact ⟨b,sz,_,_,h1,e,h2⟩
theorem MK {x:Operand} {l:List cu} (hd:el [x]=some l):aC P (.entry x) (.l l RC) :=
 tK (by simp [Op.operands]) hd fun {ρ h w vs v} f hs hu hv=>by
  simp only [List.map_cons,List.map_nil] at hu
  generalize hx:ev f x=xv at hu
  unfold RC at hv
  split at hv
  ·split at hv
   ·rename_i n off r since seen stepped hg
    split at hv
    ·rename_i stamp es clock hst hm
     obtain ⟨h1,h2⟩:=bA hv
     rw [bE] at h1
     have h1:=of_decide_eq_true h1
     subst h1
     split at h2
     ·rename_i e he
      cases h2
      obtain ⟨b,sz,b',sz',e1,e2,e3⟩:=MJ hs hg
      obtain ⟨b2,sz2,ms,f1,f2,f3⟩:=gE hs hm
      rw [e2] at f1
      cases f1
      cases hu with
      | cons hu hn =>
       cases hn
       cases hu with
       | p e0 =>
        rw [e1] at e0
        cases e0
        rcases find_born f3 stamp with ⟨g1,_⟩|⟨e',m,g1,g2,g3⟩
        ·rw [he] at g1;cases g1
        ·rw [he] at g1
         cases g1
         refine ⟨.tuple #[m.key,m.val],fun o ho=>?_,.t (.cons g3.1 (.cons g3.2.1 .nil))⟩
         have k1:(getObj b).run P w=.ok (.mapIter (some b') since seen.toArray clock) w:=by simp [getObj,Sem.run,e3]
         have k2:=dX (P:=P) f2
         have k3:seen.toArray.back?=some stamp:=by simpa using hst
         have k4:ms.toArray.find? (·.born == stamp)=some m:=by simpa using g2
         simp [execOp,ho,hx,Instr.entry,k1,k2,k3,k4]
     ·cases h2
    ·cases hv
   ·cases hv
  ·cases hv
end
end E
section
open Go.RowKit
open E (V QN Den aT run_checkKey)
instance YI:Tv Tryz.prog 71 En lg:=vm (ls:=[some .i64,some .i64]) wq wq wq (fun _=>⟨rfl,rfl,trivial⟩) (fun a b h=>by cases a;cases b;simpa [lg] using h)
theorem VZ {kt:TypeId} {cs:List Value} {l:List V} (em:Bool) (w:World) (h:QN Tryz.prog 10000 kt (.ag l)=true) (hd:aT (fun _=>none) l cs):(Instr.checkKey em 10000 kt (.agg cs.toArray)).run Tryz.prog w=.ok () w :=
 run_checkKey em w 10000 h (.ag hd)
instance acU:Bp Tryz.prog 71 En lg where
 eq:=YI
 ck em k w:=VZ (l:=[.i .i64 k.a,.i .i64 k.b]) em w wq (.cons (.i _ _) (.cons (.i _ _) .nil))
 u:=⟨_,Tryz.underlying71⟩
 st k:=by simp [Instr.sameBits,lg]
def Bn:List Value→List V
 | []=>[]
 | .bool b::l=>.b b::Bn l
 | .int k n::l=>.i k n::Bn l
 | _::l=>.ni::Bn l
instance acV:Bp Tryz.prog 113 Sp bF where
 eq:=YA
 ck em k w:=VZ (l:=Bn (bF k)) em w wq (.cons (.b _) (.cons (.i _ _) (.cons (.i _ _) (.cons (.i _ _) (.cons (.i _ _) (.cons (.i _ _) (.cons (.i _ _) (.cons (.i _ _) (.cons (.i _ _) (.cons (.b _) (.cons (.i _ _) (.cons (.i _ _) (.cons (.i _ _) (.cons (.i _ _) (.cons (.i _ _) (.cons (.i _ _) (.cons (.i _ _) (.cons (.i _ _) (.cons (.i _ _) (.cons (.i _ _) (.cons (.i _ _) (.cons (.i _ _) (.cons (.i _ _) (.cons (.i _ _) (.cons (.i _ _) (.cons (.i _ _) .nil))))))))))))))))))))))))))
 u:=⟨_,Tryz.underlying113⟩
 st k:=by simp [Instr.sameBits,bF,cS,cW,ee]
instance aek:wD Tryz.prog 62 113 3:=⟨by kernel_rfl⟩
instance ael:wD Tryz.prog 65 71 82:=⟨by kernel_rfl⟩
instance aem:wD Tryz.prog 75 71 3:=⟨by kernel_rfl⟩
def vI (n:Int):Value:=.int .i64 n
def Pm (e:Ed):Value:=.agg (B6 e).toArray
instance aen:Ez Tryz.prog 3 vI 0:=⟨Tryz.zeroValue3⟩
instance aeo:Ez Tryz.prog 82 Pm ⟨0,0,0,false,false⟩:=⟨Tryz.zeroValue82⟩
end
end Go.Proofs.YtlmabdegojeheaaGreatDoor
