/- WholeTurned: parts of its proof (Eh Ei). -/
import Derived.Test.YtlmabdegojeheaaGreatDoorUwEg
import Derived.Laws.CopyRow
import Derived.Laws.RangeString
import Derived.Laws.Append
import Derived.Laws.AppendOwn
import Derived.Lib.UnsafeStr
namespace Go.Proofs.YtlmabdegojeheaaGreatDoor
open R
namespace E
open Go.RowKit Go.Lib
def jo (P:Program) (op:Op) (ins:I):Prop:=∀ {call:dB} {ρ f fr h nx w v h' aL},xb ρ f fr op.operands.toList→Sat ρ h w→(∀ n,nx≤n→ρ n=none)→J6 call ins fr h nx=some (v,h',aL) →
 ∃ x w' ρ',(∀ o:Oper,o.op=op→(execOp (ev f) o).run P w=.ok (.value x) w'∨((execOp (ev f) o).run P w=.ok .skip w'∧x=Go.undef))∧Den ρ' v x∧dH ρ h nx w ρ' h' aL w'
section
variable {P:Program} {op:Op}
theorem kM {G:H→Nat→List V→HR} {xs:List Operand} {l:List cu} (hx:∀ x∈xs,x∈op.operands.toList) (hd:el xs=some l)
  (key:∀ {ρ h nx w vs v h' aL} (f:R.Fr),Sat ρ h w→(∀ n,nx≤n→ρ n=none)→aT ρ vs (xs.map (ev f))→G h nx vs=some (v,h',aL) →
   ∃ x w' ρ',(∀ o:Oper,o.op=op→(execOp (ev f) o).run P w=.ok (.value x) w'∨((execOp (ev f) o).run P w=.ok .skip w'∧x=Go.undef))∧Den ρ' v x∧dH ρ h nx w ρ' h' aL w'):jo P op (.e l G):=by
 intro call ρ f fr h nx w v h' aL hf hs hn ha
 obtain ⟨u,h1,h2⟩:=iM ha
 exact key f hs hn (iN (fun x hm=>hf x (hx x hm)) hd h1) h2
end
section
variable {ρ:Rn} {h:H} {nx:Nat} {w:World}
theorem nt:∀ {vs:List V} {xs:List Value},aT ρ vs xs→vs.all V.one=true→∀ x∈xs,x.oneCell'=true
 | [],_,hd,_,x,hx=>by cases hd;cases hx
 | v::vs,_,hd,h1,x,hx=>by
  cases hd with
  | cons hv hd =>
   rw [List.all_cons,Bool.and_eq_true] at h1
   rcases List.mem_cons.1 hx with rfl|hx
   ·exact Ic hv h1.1
   ·exact nt hd h1.2 x hx
theorem mu (hs:Sat ρ h w) {n off:Nat} {cs cs' vs:List V} {o:Bool} {t:TypeId} {xs:List Value} (hg:at_ h n=some (.row cs o t)) (hp:Fv cs off vs=some cs') (h1:vs.all V.one=true) (hv:aT ρ vs xs) :
  ∃ b sz w',ρ n=some (b,sz)∧(∀ P:Program,(storeCells ⟨b,off,none⟩ xs 0).run P w=.ok () w')∧dH ρ h nx w ρ (dL h n (some (.row cs' o t))) nx w':=by
 obtain ⟨b,sz,ys,tl,e1,e2,e3,e4,e5⟩:=eH hs hg
 obtain ⟨hl,rfl⟩:=rD hp
 have hly:=e3.len
 have hlx:=hv.len
 have hr:=fun P=>run_storeCells_at (P:=P) b off t xs 0 (ys++tl).toArray w e2 (by simp;omega) (nt hv h1)
 refine ⟨b,sz,_,e1,hr,?_⟩
 have e6:((ys++tl).toArray.toList.take (off+0)++xs++(ys++tl).toArray.toList.drop (off+0+xs.length))=(ys.take off++(xs++ys.drop (off+vs.length)))++tl:=by
  simp only [Nat.add_zero,hlx]
  rw [List.take_append_of_le_length xj,List.drop_append_of_le_length (by omega)]
  simp
 rw [e6]
 refine dH.change hs (by rw [hg];simp) e1 (setRow_heap w b _ _ t _ e2) (.row ((e3.take _).append (hv.append (e3.drop _))) e5 ?_) (fun k hk=>setRow_other w b k _ hk) (by simp [World.setRow]) rfl rfl rfl
 rw [← e4]
 simp only [List.length_append,List.length_take,List.length_drop]
 omega
theorem dY {b:Nat} {ob ob':Obj} (hb:w.heap[b]?=some ob) (hc:∀ c e z,ob≠.cells c e z) (P:Program):(setObj b ob').run P w=.ok () { w with heap:=w.heap.setIfInBounds b ob' }:=by
 simp only [setObj,Sem.run,hb]
theorem dZ (hs:Sat ρ h w) {n b sz:Nat} {o':O} {ob ob':Obj} (hn:at_ h n≠none) (hr:ρ n=some (b,sz)) (hb:w.heap[b]?=some ob) (ho:iL ρ o' ob' sz):dH ρ h nx w ρ (dL h n (some o')) nx { w with heap:=w.heap.setIfInBounds b ob' }:=by
 have hlt:=(Array.getElem?_eq_some_iff.1 hb).1
 exact dH.change hs hn hr (by simp [hlt]) ho (fun k hk=>by simp [Array.getElem?_setIfInBounds_ne (Ne.symm hk)]) (by simp) rfl rfl rfl
end
section
variable {P:Program}
theorem MM {t:TypeId} {x y:Operand} {l:List cu} {sz:Nat} (hd:el [x,y]=some l) (hz:ct P t=some sz):jo P (.store t x y) (.e l (H8 sz)) :=
 kM (by simp [Op.operands]) hd fun {ρ h nx w vs v h' aL} f hs _ hu hv=>by
  simp only [List.map_cons,List.map_nil] at hu
  generalize hx:ev f x=xv at hu
  generalize hy:ev f y=yv at hu
  unfold H8 at hv
  split at hv
  ·rename_i n off u
   obtain ⟨h1,h2⟩:=bA hv
   rw [bE] at h1
   have h1:=of_decide_eq_true h1
   unfold kZ at h2
   split at h2
   ·rename_i cs o t0 hg
    split at h2
    ·rename_i cs' hp
     obtain ⟨h3,h4⟩:=bA h2
     rw [dh] at h4
     cases h4
     cases hu with
     | cons ha hu =>
      cases hu with
      | cons hb hn =>
       have hc:=eu hb
       obtain ⟨b,s,w',e1,e2,e3⟩:=mu (nx:=nx) hs hg hp h3 hc
       cases ha with
       | p e =>
        rw [e1] at e
        cases e
        refine ⟨Go.undef,w',ρ,fun o ho=>.inr ⟨?_,rfl⟩,jI,e3⟩
        have hsz:yv.cells.size=sz:=by
         have:=hc.len
         rw [h1] at this
         rw [← Array.length_toList]
         exact this.symm
        simp only [execOp,ho,hx,hy,Instr.storeAt,Instr.sureAddr,storeVar,Sem.run_bind,Sem.run_pure,Result.andThen_ok,bI hz,hsz,ne_eq,not_true_eq_false,if_false,e2 P]
    ·cases h2
   ·cases h2
  ·cases hv
theorem CO {ρ:Rn} {u v:V} {x y:Value} (h:sb1 u v=true) (hu:Den ρ u x) (hv:Den ρ v y) (n:Nat):Instr.sameBits n x y=true:=by
 unfold sb1 at h
 split at h
 ·cases hu;cases hv
  unfold Instr.sameBits
  exact h
 ·rw [Bool.and_eq_true] at h
  obtain rfl:=dC h.1
  have h2:=h.2
  rw [k7] at h2
  have h2:=of_decide_eq_true h2
  subst h2
  cases hu;cases hv
  unfold Instr.sameBits
  simp
 ·cases hu;cases hv
  have:=beq_iff_eq.1 h
  subst this
  unfold Instr.sameBits
  rename_i l
  show (l.toArray == l.toArray)=true
  simp
 ·cases h
theorem nW {ρ:Rn} (n:Nat):∀ {l r:List V} {xs ys:List Value},sbs l r=true→aT ρ l xs→aT ρ r ys→xs.length=ys.length∧(xs.zip ys).all (fun (x,y)=>Instr.sameBits n x y)=true
 | [],[],xs,ys,_,hx,hy=>by cases hx;cases hy;exact ⟨rfl,rfl⟩
 | [],_::_,_,_,h,_,_=>by cases h
 | _::_,[],_,_,h,_,_=>by cases h
 | u::l,v::r,xs,ys,h,hx,hy=>by
  unfold sbs at h
  rw [Bool.and_eq_true] at h
  cases hx with
  | cons hu hx =>
   cases hy with
   | cons hv hy =>
    obtain ⟨h1,h2⟩:=nW n h.2 hx hy
    exact ⟨by simp [h1],by rw [List.zip_cons_cons,List.all_cons,Bool.and_eq_true];exact ⟨CO h.1 hu hv n,h2⟩⟩
theorem Kj {ρ:Rn} {u v:V} {x y:Value} (h:Z2 u v=true) (hu:Den ρ u x) (hv:Den ρ v y):Instr.sameBits 10000 x y=true:=by
 unfold Z2 at h
 split at h
 ·cases hu with
  | ag hx =>
   cases hv with
   | ag hy =>
    obtain ⟨h1,h2⟩:=nW 9999 h hx hy
    show Instr.sameBits (9999+1) _ _=true
    unfold Instr.sameBits
    simp only [Bool.and_eq_true,beq_iff_eq]
    exact ⟨by simpa using h1,h2⟩
 ·exact CO h hu hv 10000
theorem xK {ρ:Rn} {u v:V} {x y:Value} {w:World} (h:Z2 u v=true) (hu:Den ρ u x) (hv:Den ρ v y):(Instr.keyThatStays x y).run P w=.ok y w:=by
 unfold Instr.keyThatStays
 rw [if_pos (Kj h hu hv)]
 rfl
theorem jv {ρ:Rn} {g:V×V×Nat→V×V×Nat} {g':MapEntry→MapEntry}:∀ {es:List (V×V×Nat)} {ms:List MapEntry} {i:Nat} {e m},dM ρ es ms→es[i]?=some e→ms[i]?=some m→CB ρ (g e) (g' m)→dM ρ (es.modify i g) (ms.modify i g')
 | _,_,i,e,m,.nil,h1,_,_=>by simp at h1
 | _,_,0,e,m,.cons a l,h1,h2,h3=>by
  simp at h1 h2
  subst h1 h2
  exact .cons h3 l
 | _,_,i+1,e,m,.cons a l,h1,h2,h3=>.cons a (jv l (by simpa using h1) (by simpa using h2) h3)
theorem pV {ρ:Rn} {es es':List (V×V×Nat)} {ms ms':List MapEntry} (h:dM ρ es ms) (h':dM ρ es' ms'):dM ρ (es++es') (ms++ms'):=by
 induction h with
 | nil=>exact h'
 | cons a _ ih=>exact .cons a ih
theorem sR {ρ:Rn}:∀ {es:List (V×V×Nat)} {ms:List MapEntry} (i:Nat),dM ρ es ms→dM ρ (es.eraseIdx i) (ms.eraseIdx i)
 | _,_,_,.nil=>.nil
 | _,_,0,.cons _ l=>l
 | _,_,i+1,.cons a l=>.cons a (sR i l)
theorem yT {t kt et:TypeId} {m k x:Operand} {l:List cu} (hd:el [m,k,x]=some l) (h1:P.underlying t=some (.map kt et)):jo P (.mapUpdate t m k x) (.e l (RH P kt)) :=
 kM (by simp [Op.operands]) hd fun {ρ h nx w vs v h' aL} f hs _ hu hv=>by
  simp only [List.map_cons,List.map_nil] at hu
  generalize hm:ev f m=mv at hu
  generalize hk:ev f k=kv at hu
  generalize hx:ev f x=xv at hu
  unfold RH at hv
  split at hv
  ·rename_i r ku xu
   split at hv
   ·rename_i es clock hg
    obtain ⟨b,sz,ms,e1,e2,e3⟩:=gE hs hg
    cases hu with
    | cons ha hu =>
     cases hu with
     | cons hb hu =>
      cases hu with
      | cons hc hn =>
       cases ha with
       | m e =>
        rw [e1] at e
        cases e
        have hgm:=dX (P:=P) e2
        split at hv
        ·rename_i i e hf
         obtain ⟨h2,h3⟩:=bA hv
         rw [dh] at h3
         cases h3
         obtain ⟨c1,r',c2,c3⟩:=run_findKey w hb e3 hf
         rcases c3 with ⟨c3,_⟩|⟨j,e',m',c3,c4,c5,c6,c7⟩
         ·cases c3
         ·cases c3
          rw [Nat.zero_add] at c4
          have hst:=xK (P:=P) (w:=w) h2 c7.1 hb
          have c6':ms.toArray[j]?=some m':=by simpa using c6
          refine ⟨Go.undef,_,ρ,fun o ho=>.inr ⟨?_,rfl⟩,jI,dZ (ob':=.map (ms.modify j fun m=>({ m with key:=kv,val:=xv }:MapEntry)).toArray clock) hs (by rw [show at_ h _=_ from hg];simp) e1 e2 (.mp ?_)⟩
          ·have hset:=dY (ob':=.map (ms.modify j fun m=>({ m with key:=kv,val:=xv }:MapEntry)).toArray clock) e2 (fun _ _ _ h=>by cases h) P
           have e5:ms.toArray.modify j (fun m=>({ m with key:=kv,val:=xv }:MapEntry))=(ms.modify j fun m=>({ m with key:=kv,val:=xv }:MapEntry)).toArray:=by simp
           simp only [execOp,ho,hm,hk,hx,Instr.mapUpdate,Sem.run_bind,run_underlying h1,Result.andThen_ok,hgm,c1,c2,c4,c6',Option.map_some,Option.getD_some,hst,e5,hset]
           rfl
          ·rw [Nat.zero_add]
           exact jv e3 c5 c6 ⟨hb,hc,c7.2.2⟩
        ·rename_i hf
         rw [dh] at hv
         cases hv
         obtain ⟨c1,r',c2,c3⟩:=run_findKey w hb e3 hf
         rcases c3 with ⟨_,c4⟩|⟨j,e',m',c3,_⟩
         ·refine ⟨Go.undef,_,ρ,fun o ho=>.inr ⟨?_,rfl⟩,jI,dZ (ob':=.map (ms++[({ key:=kv,val:=xv,born:=clock }:MapEntry)]).toArray (clock+1)) hs (by rw [show at_ h _=_ from hg];simp) e1 e2 (.mp (pV e3 (.cons ⟨hb,hc,rfl⟩ .nil)))⟩
          have hset:=dY (ob':=.map (ms++[({ key:=kv,val:=xv,born:=clock }:MapEntry)]).toArray (clock+1)) e2 (fun _ _ _ h=>by cases h) P
          have e5:ms.toArray.push ({ key:=kv,val:=xv,born:=clock }:MapEntry)=(ms++[({ key:=kv,val:=xv,born:=clock }:MapEntry)]).toArray:=by simp
          simp only [execOp,ho,hm,hk,hx,Instr.mapUpdate,Sem.run_bind,run_underlying h1,Result.andThen_ok,hgm,c1,c2,c4,e5,hset]
          rfl
         ·cases c3
        ·cases hv
   ·cases hv
  ·cases hv
theorem CP {t kt et:TypeId} {m k:Operand} {l:List cu} {z:V} (hd:el [m,k]=some l) (h1:P.underlying t=some (.map kt et)) (hz:dK P et=some z):jo P (.mapEntry t m k) (.e l (meF P kt z)) :=
 kM (by simp [Op.operands]) hd fun {ρ h nx w vs v h' aL} f hs _ hu hv=>by
  simp only [List.map_cons,List.map_nil] at hu
  generalize hm:ev f m=mv at hu
  generalize hk:ev f k=kv at hu
  obtain ⟨iz,zx,hi,hzx,hzv⟩:=dV hz
  unfold meF at hv
  split at hv
  ·rename_i r ku
   split at hv
   ·rename_i es clock hg
    obtain ⟨b,sz,ms,e1,e2,e3⟩:=gE hs hg
    cases hu with
    | cons ha hu =>
     cases hu with
     | cons hb hn =>
      cases ha with
      | m e =>
       rw [e1] at e
       cases e
       have hgm:=dX (P:=P) e2
       split at hv
       ·rename_i i e hf
        obtain ⟨h2,h3⟩:=bA hv
        rw [dh] at h3
        cases h3
        obtain ⟨c1,r',c2,c3⟩:=run_findKey w hb e3 hf
        rcases c3 with ⟨c3,_⟩|⟨j,e',m',c3,c4,c5,c6,c7⟩
        ·cases c3
        ·cases c3
         rw [Nat.zero_add] at c4
         have hst:=xK (P:=P) (w:=w) h2 c7.1 hb
         have c6':ms.toArray[j]?=some m':=by simpa using c6
         refine ⟨.tuple #[m'.val,goInt m'.born],_,ρ,fun o ho=>.inl ?_,.t (.cons c7.2.1 (.cons (by rw [c7.2.2];exact .i _ _) .nil)),dZ (ob':=.map (ms.modify j fun m=>({ m with key:=kv }:MapEntry)).toArray clock) hs (by rw [show at_ h _=_ from hg];simp) e1 e2 (.mp ?_)⟩
         ·have hset:=dY (ob':=.map (ms.modify j fun m=>({ m with key:=kv }:MapEntry)).toArray clock) e2 (fun _ _ _ h=>by cases h) P
          have e5:ms.toArray.modify j (fun m=>({ m with key:=kv }:MapEntry))=(ms.modify j fun m=>({ m with key:=kv }:MapEntry)).toArray:=by simp
          simp only [execOp,ho,hm,hk,Instr.mapEntry,Sem.run_bind,run_underlying h1,Result.andThen_ok,hgm,c1,c2,c4,c6',Option.map_some,Option.getD_some,hst,e5,hset,Sem.run_pure]
         ·rw [Nat.zero_add]
          exact jv e3 c5 c6 ⟨hb,c7.2.1,c7.2.2⟩
       ·rename_i hf
        rw [dh] at hv
        cases hv
        obtain ⟨c1,r',c2,c3⟩:=run_findKey w hb e3 hf
        rcases c3 with ⟨_,c4⟩|⟨j,e',m',c3,_⟩
        ·refine ⟨.tuple #[zx,goInt clock],_,ρ,fun o ho=>.inl ?_,.t (.cons (fM hzv) (.cons (.i _ _) .nil)),dZ (ob':=.map (ms++[({ key:=kv,val:=zx,born:=clock }:MapEntry)]).toArray (clock+1)) hs (by rw [show at_ h _=_ from hg];simp) e1 e2 (.mp (pV e3 (.cons ⟨hb,fM hzv,rfl⟩ .nil)))⟩
         have hset:=dY (ob':=.map (ms++[({ key:=kv,val:=zx,born:=clock }:MapEntry)]).toArray (clock+1)) e2 (fun _ _ _ h=>by cases h) P
         have e5:ms.toArray.push ({ key:=kv,val:=zx,born:=clock }:MapEntry)=(ms++[({ key:=kv,val:=zx,born:=clock }:MapEntry)]).toArray:=by simp
         simp only [execOp,ho,hm,hk,Instr.mapEntry,Sem.run_bind,run_underlying h1,Result.andThen_ok,hgm,c1,c2,c4,pR hi hzx,e5,hset,Sem.run_pure]
        ·cases c3
       ·cases hv
   ·cases hv
  ·cases hv
theorem FK {es:List (V×V×Nat)} {ms:List MapEntry} {ρ:Rn} (hd:dM ρ es ms) (n:Nat):∀ {i},es.findIdx? (fun e=>Nat.beq e.2.2 n)=some i→ms.findIdx? (fun m=>(m.born:Int) == (n:Int))=some i∧∃ e m,es[i]?=some e∧ms[i]?=some m∧CB ρ e m:=by
 induction hd with
 | nil=>intro i h;cases h
 | @cons e m l r he _ ih =>
  intro i h
  rw [List.findIdx?_cons] at h
  rw [List.findIdx?_cons]
  have hb:((m.born:Int) == (n:Int))=Nat.beq e.2.2 n:=by
   rw [he.2.2,bE,Bool.eq_iff_iff,beq_iff_eq,decide_eq_true_iff]
   omega
  rw [hb]
  cases hbb:Nat.beq e.2.2 n with
  | true =>
   rw [hbb] at h
   cases h
   exact ⟨rfl,e,m,rfl,rfl,he⟩
  | false =>
   rw [hbb] at h
   simp only [Bool.false_eq_true,if_false,Option.map_eq_some_iff] at h
   obtain ⟨j,h1,rfl⟩:=h
   obtain ⟨h2,e',m',h3,h4,h5⟩:=ih h1
   exact ⟨by simp [h2],e',m',by simpa using h3,by simpa using h4,h5⟩
theorem xh {t:TypeId} {m s x:Operand} {l:List cu} (hd:el [m,s,x]=some l):jo P (.entryStore t m s x) (.e l esF) :=
 kM (by simp [Op.operands]) hd fun {ρ h nx w vs v h' aL} f hs _ hu hv=>by
  simp only [List.map_cons,List.map_nil] at hu
  generalize hm:ev f m=mv at hu
  generalize hk:ev f s=sv at hu
  generalize hx:ev f x=xv at hu
  unfold esF at hv
  split at hv
  ·rename_i r k s0 xu
   split at hv
   ·rename_i es clock hg
    obtain ⟨b,sz,ms,e1,e2,e3⟩:=gE hs hg
    cases hu with
    | cons ha hu =>
     cases hu with
     | cons hb hu =>
      cases hu with
      | cons hc hn =>
       cases ha with
       | m e =>
        rw [e1] at e
        cases e
        cases hb
        have hgm:=dX (P:=P) e2
        split at hv
        ·rename_i i hf
         rw [dh] at hv
         cases hv
         obtain ⟨c1,e',m',c2,c3,c4⟩:=FK e3 s0 hf
         refine ⟨Go.undef,_,ρ,fun o ho=>.inr ⟨?_,rfl⟩,jI,dZ (ob':=.map (ms.modify i fun m=>({ m with val:=xv }:MapEntry)).toArray clock) hs (by rw [show at_ h _=_ from hg];simp) e1 e2 (.mp (jv e3 c2 c3 ⟨c4.1,hc,c4.2.2⟩))⟩
         have hset:=dY (ob':=.map (ms.modify i fun m=>({ m with val:=xv }:MapEntry)).toArray clock) e2 (fun _ _ _ h=>by cases h) P
         have e5:ms.toArray.modify i (fun m=>({ m with val:=xv }:MapEntry))=(ms.modify i fun m=>({ m with val:=xv }:MapEntry)).toArray:=by simp
         have e6:ms.toArray.findIdx? (fun m=>(m.born:Int) == Int.ofNat s0)=some i:=by simpa using c1
         simp only [execOp,ho,hm,hk,hx,Instr.entryStore,Sem.run_bind,asInt,asIntOf,Result.andThen_ok,hgm,e6,e5,hset,Sem.run_pure]
        ·cases hv
   ·cases hv
  ·cases hv
theorem Kk {t:TypeId} {x:Operand} {l:List cu} (hd:el [x]=some l) (h1:P.underlying t=some .string):jo P (.range t x) (.e l RI) :=
 kM (by simp [Op.operands]) hd fun {ρ h nx w vs v h' aL} f hs hf hu hv=>by
  simp only [List.map_cons,List.map_nil] at hu
  generalize hx:ev f x=xv at hu
  unfold RI at hv
  split at hv
  ·rw [dh] at hv
   cases hv
   cases hu with
   | cons ha hn =>
    cases ha
    rename_i s
    refine ⟨.pointer (some ⟨w.heap.size,0,none⟩),_,_,fun o ho=>.inl ?_,.p (cQ _ _ _),dH.alloc (sz:=0) (ob:=.stringIter ⟨s.toArray⟩ 0) hs (hf nx (Nat.le_refl _)) .si⟩
    simp [execOp,ho,hx,Instr.range,run_underlying h1]
  ·cases hv
theorem Kl {t kt et:TypeId} {x:Operand} {l:List cu} (hd:el [x]=some l) (h1:P.underlying t=some (.map kt et)):jo P (.range t x) (.e l RJ) :=
 kM (by simp [Op.operands]) hd fun {ρ h nx w vs v h' aL} f hs hf hu hv=>by
  simp only [List.map_cons,List.map_nil] at hu
  generalize hx:ev f x=xv at hu
  unfold RJ at hv
  split at hv
  ·rw [dh] at hv
   cases hv
   cases hu with
   | cons ha hn =>
    cases ha
    refine ⟨.pointer (some ⟨w.heap.size,0,none⟩),_,_,fun o ho=>.inl ?_,.p (cQ _ _ _),dH.alloc (sz:=0) (ob:=.mapIter none 0 #[] 0) hs (hf nx (Nat.le_refl _)) .it0⟩
    simp [execOp,ho,hx,Instr.range,run_underlying h1]
  ·split at hv
   ·rename_i es clock hg
    rw [dh] at hv
    cases hv
    obtain ⟨b,sz,ms,e1,e2,e3⟩:=gE hs hg
    cases hu with
    | cons ha hn =>
     cases ha with
     | m e =>
      rw [e1] at e
      cases e
      refine ⟨.pointer (some ⟨w.heap.size,0,none⟩),_,_,fun o ho=>.inl ?_,.p (cQ _ _ _),dH.alloc (sz:=0) (ob:=.mapIter (some b) clock #[] clock) hs (hf nx (Nat.le_refl _)) (.it (dp (hf nx (Nat.le_refl _)) _ _ e1))⟩
      simp [execOp,ho,hx,Instr.range,run_underlying h1,dX e2]
   ·cases hv
  ·cases hv
theorem Xv {ρ:Rn} {h:H} {w:World} (hs:Sat ρ h w) {n pos:Nat} {l:List UInt8} (hg:at_ h n=some (.si l pos)):∃ b sz,ρ n=some (b,sz)∧w.heap[b]?=some (.stringIter ⟨l.toArray⟩ pos):=by
 obtain ⟨b,sz,ob,h1,h2,h3⟩:=hs.has n _ hg
 cases h3
 exact ⟨b,sz,h1,h2⟩
theorem Sz {ρ:Rn} {h:H} {w:World} (hs:Sat ρ h w) {n since st:Nat} {seen:List Nat} (hg:at_ h n=some (.it none since seen st)):∃ b sz,ρ n=some (b,sz)∧w.heap[b]?=some (.mapIter none since seen.toArray st):=by
 obtain ⟨b,sz,ob,h1,h2,h3⟩:=hs.has n _ hg
 cases h3
 exact ⟨b,sz,h1,h2⟩
theorem MN {x:Operand} {l:List cu} (hd:el [x]=some l):jo P (.next x true) (.e l RK) :=
 kM (by simp [Op.operands]) hd fun {ρ h nx w vs v h' aL} f hs hf hu hv=>by
  simp only [List.map_cons,List.map_nil] at hu
  generalize hx:ev f x=xv at hu
  unfold RK at hv
  split at hv
  ·rename_i n off
   split at hv
   ·rename_i s pos hg
    obtain ⟨b,sz,e1,e2⟩:=Xv hs hg
    cases hu with
    | cons ha hn =>
     cases ha with
     | p e =>
      rw [e1] at e
      cases e
      have hgo:(getObj b).run P w=.ok (.stringIter ⟨s.toArray⟩ pos) w:=by simp [getObj,Sem.run,e2]
      split at hv
      ·rename_i hdr
       cases hv
       have hle:¬ pos<(ByteArray.mk s.toArray).size:=by
        have:=List.drop_eq_nil_iff.1 hdr
        show ¬ pos<s.toArray.size
        simp
        omega
       refine ⟨.tuple #[.bool false],w,ρ,fun o ho=>.inl ?_,.t (.cons (.b _) .nil),dH.refl hs _⟩
       simp only [execOp,ho,hx,Instr.next,Sem.run_bind,hgo,Result.andThen_ok,if_neg hle,Sem.run_pure]
      ·rename_i c r hdr
       obtain ⟨h1,h2⟩:=bA hv
       rw [dh] at h2
       cases h2
       rw [blt_eq] at h1
       have h1:=of_decide_eq_true h1
       have hlt:pos<s.length:=by
        rcases Nat.lt_or_ge pos s.length with h|h
        ·exact h
        ·rw [List.drop_eq_nil_of_le h] at hdr;cases hdr
       have hlt':pos<(ByteArray.mk s.toArray).size:=by
        show pos<s.toArray.size
        simpa using hlt
       have hc:(ByteArray.mk s.toArray)[pos]'hlt'=c:=by
        have:s[pos]?=some c:=by
         have:=congrArg (·[0]?) hdr
         simpa using this
        show s.toArray[pos]'(by simpa using hlt)=c
        rw [List.getElem_toArray]
        exact (List.getElem?_eq_some_iff.1 this).2
       have hdec:=decode_ascii ⟨s.toArray⟩ pos hlt' (by rw [hc];exact h1)
       rw [hc] at hdec
       have hset:=dY (ob':=.stringIter ⟨s.toArray⟩ (pos+1)) e2 (fun _ _ _ h=>by cases h) P
       refine ⟨.tuple #[.bool true,goInt pos,.int .i32 c.toNat],_,ρ,fun o ho=>.inl ?_,.t (.cons (.b _) (.cons (.i _ _) (.cons (.i _ _) .nil))),dZ (ob':=.stringIter ⟨s.toArray⟩ (pos+1)) hs (by rw [show at_ h _=_ from hg];simp) e1 e2 .si⟩
       simp only [execOp,ho,hx,Instr.next,Sem.run_bind,hgo,Result.andThen_ok,if_pos hlt',hdec,hset,Sem.run_pure]
   ·cases hv
  ·cases hv
theorem yU {ρ:Rn} (p:Nat→Bool) {es:List (V×V×Nat)} {ms:List MapEntry} (h:dM ρ es ms):dM ρ (es.filter fun e=>p e.2.2) (ms.filter fun m=>p m.born):=by
 induction h with
 | nil=>exact .nil
 | @cons e m l r he _ ih =>
  rw [List.filter_cons,List.filter_cons,he.2.2]
  split
  ·exact .cons he ih
  ·exact ih
theorem Km {ρ:Rn} (p:Nat→Bool) {es:List (V×V×Nat)} {ms:List MapEntry} (h:dM ρ es ms):(es.all fun e=>p e.2.2)=ms.all fun m=>p m.born:=by
 induction h with
 | nil=>rfl
 | @cons e m l r he _ ih=>rw [List.all_cons,List.all_cons,he.2.2,ih]
theorem xi {ρ:Rn} {es:List (V×V×Nat)} {ms:List MapEntry} (h:dM ρ es ms):es.isEmpty=ms.isEmpty:=by cases h <;> rfl
theorem MO {x:Operand} {l:List cu} (hd:el [x]=some l):jo P (.next x false) (.e l RL) :=
 kM (by simp [Op.operands]) hd fun {ρ h nx w vs v h' aL} f hs hf hu hv=>by
  simp only [List.map_cons,List.map_nil] at hu
  generalize hx:ev f x=xv at hu
  unfold RL at hv
  split at hv
  ·rename_i n off
   split at hv
   ·rename_i since seen st hg
    obtain ⟨b,sz,e1,e2⟩:=Sz hs hg
    cases hv
    cases hu with
    | cons ha hn =>
     cases ha with
     | p e =>
      rw [e1] at e
      cases e
      have hgo:(getObj b).run P w=.ok (.mapIter none since seen.toArray st) w:=by simp [getObj,Sem.run,e2]
      refine ⟨.tuple #[.bool false],w,ρ,fun o ho=>.inl ?_,.t (.cons (.b _) .nil),dH.refl hs _⟩
      simp only [execOp,ho,hx,Instr.next,Sem.run_bind,hgo,Result.andThen_ok,Sem.run_pure]
   ·rename_i r since seen last hg
    split at hv
    ·rename_i es clock hm
     obtain ⟨b,sz,b',sz',e1,e2,e3⟩:=MJ hs hg
     obtain ⟨b2,sz2,ms,f1,f2,f3⟩:=gE hs hm
     rw [e2] at f1
     cases f1
     cases hu with
     | cons ha hn =>
      cases ha with
      | p e =>
       rw [e1] at e
       cases e
       have hgo:(getObj b).run P w=.ok (.mapIter (some b') since seen.toArray last) w:=by simp [getObj,Sem.run,e3]
       have hgm:=dX (P:=P) f2
       have hfil:=yU (fun n=>!seen.contains n) f3
       cases hcond:(!seen.isEmpty&&(!es.isEmpty&&es.all fun e=>Nat.ble last e.2.2)) with
       | true=>rw [hcond] at hv;cases hv
       | false =>
        rw [hcond,cond_false] at hv
        have hcond':(!seen.toArray.isEmpty&&!ms.toArray.isEmpty&&ms.toArray.all fun m=>decide (m.born≥last))=false:=by
         rw [← hcond,xi f3,Km (fun n=>Nat.ble last n) f3,Bool.and_assoc]
         congr 1
         ·simp
         ·congr 1
          ·simp
          ·rw [List.all_toArray]
           congr 1
           funext m
           rw [Bool.eq_iff_iff,decide_eq_true_iff]
           exact (Nat.ble_eq (x:=last) (y:=m.born)).symm▸Iff.rfl
        have hfl:ms.toArray.filter (fun m=>!seen.toArray.contains m.born)=(ms.filter fun m=>!seen.contains m.born).toArray:=by simp
        split at hv
        ·rename_i hfe
         cases hv
         rw [hfe] at hfil
         generalize hgl:(ms.filter fun m=>!seen.contains m.born)=ml at hfil hfl
         cases hfil
         refine ⟨.tuple #[.bool false],w,ρ,fun o ho=>.inl ?_,.t (.cons (.b _) .nil),dH.refl hs _⟩
         simp only [execOp,ho,hx,Instr.next,Sem.run_bind,hgo,Result.andThen_ok,hgm,hcond',hfl,Bool.false_eq_true,if_false,Sem.run_pure]
         simp [Question.forced]
        ·rename_i e he
         obtain ⟨h1,h2⟩:=bA hv
         rw [blt_eq] at h1
         have h1:=of_decide_eq_true h1
         rw [dh] at h2
         cases h2
         rw [he] at hfil
         generalize hgl:(ms.filter fun m=>!seen.contains m.born)=ml at hfil hfl
         cases hfil with
         | @cons _ m _ _ hm1 hml =>
          cases hml
          have hlt:m.born<since:=by rw [hm1.2.2];exact h1
          have hset:=dY (ob':=.mapIter (some b') since (seen++[e.2.2]).toArray clock) e3 (fun _ _ _ h=>by cases h) P
          have hpush:seen.toArray.push m.born=(seen++[e.2.2]).toArray:=by rw [hm1.2.2];simp
          refine ⟨.tuple #[.bool true,m.key,m.val],_,ρ,fun o ho=>.inl ?_,.t (.cons (.b _) (.cons hm1.1 (.cons hm1.2.1 .nil))),dZ (ob':=.mapIter (some b') since (seen++[e.2.2]).toArray clock) hs (by rw [show at_ h _=_ from hg];simp) e1 e3 (.it e2)⟩
          simp only [execOp,ho,hx,Instr.next,Sem.run_bind,hgo,Result.andThen_ok,hgm,hcond',hfl,Bool.false_eq_true,if_false,Sem.run_pure]
          simp [Question.forced,hlt,Nat.not_le.2 hlt]
          rw [show seen++[m.born]=seen++[e.2.2] by rw [hm1.2.2],hset]
          rfl
        ·cases hv
    ·cases hv
   ·cases hv
  ·cases hv
end
end E
namespace E
open Go.RowKit Go.Lib
section
variable {P:Program}
theorem pW {o:Oper} {c:Call} {f:R.Fr} {w w':World} {v:Value} (ho:o.op=.call c) (hc:c.callee=.builtin .append) (h:(Builtin.append_ c.argTypes o.type (c.args.map (ev f))).run P w=.ok v w'):(execOp (ev f) o).run P w=.ok (.value v) w':=by
 simp only [execOp,ho,resolve,hc,invoke,builtin,Sem.run_bind,Sem.run_pure,Result.andThen_ok,h]
theorem xL {o:Oper} {c:Call} {f:R.Fr} {w w':World} {v:Value} (ho:o.op=.call c) (hc:c.callee=.builtin .copy) (h:(Builtin.copy_ c.argTypes o.type (c.args.map (ev f))).run P w=.ok v w'):(execOp (ev f) o).run P w=.ok (.value v) w':=by
 simp only [execOp,ho,resolve,hc,invoke,builtin,Sem.run_bind,Sem.run_pure,Result.andThen_ok,h]
theorem pd {o:Oper} {c:Call} {f:R.Fr} {w w':World} {v:Value} (ho:o.op=.call c) (hc:c.callee=.builtin .clear) (h:(Builtin.clear_ c.argTypes o.type (c.args.map (ev f))).run P w=.ok v w'):(execOp (ev f) o).run P w=.ok (.value v) w':=by
 simp only [execOp,ho,resolve,hc,invoke,builtin,Sem.run_bind,Sem.run_pure,Result.andThen_ok,h]
theorem nu {o:Oper} {c:Call} {f:R.Fr} {w w':World} {v:Value} (ho:o.op=.call c) (hc:c.callee=.builtin .delete) (h:(Builtin.delete_ c.argTypes o.type (c.args.map (ev f))).run P w=.ok v w'):(execOp (ev f) o).run P w=.ok (.value v) w':=by
 simp only [execOp,ho,resolve,hc,invoke,builtin,Sem.run_bind,Sem.run_pure,Result.andThen_ok,h]
theorem uH {o:Oper} {c:Call} {f:R.Fr} {w w':World} {v:Value} (ho:o.op=.call c) (hc:c.callee=.builtin .unsafeString) (h:(Builtin.unsafeString_ c.argTypes o.type (c.args.map (ev f))).run P w=.ok v w'):(execOp (ev f) o).run P w=.ok (.value v) w':=by
 simp only [execOp,ho,resolve,hc,invoke,builtin,Sem.run_bind,Sem.run_pure,Result.andThen_ok,h]
section
variable {w:World} {t u ty e:TypeId} {i:TypeInfo} {z x:Value} {d:TypeDesc} {base:Option Addr} {len cap n:Nat} {olds news:Array Value}
theorem yV (ht:P.underlying t=some (.slice e)) (hu:P.underlying u=some d) (hd:∀ k,d≠.int k) (hi:P.info? e=some i) (hl:(Builtin.lenOf x).run P w=.ok n w) (hx:(Builtin.firstCells i.size n x).run P w=.ok news w) (hc:len+n≤cap) :
  (Builtin.append_ #[t,u] ty #[.slice base len cap,x]).run P w=match base with|none=>.ok (.slice none (len+n) cap) w|some a=>((storeCells (a.add (len*i.size)) news.toList).run P w).andThen fun _ w=>.ok (.slice (some a) (len+n) cap) w:=by
 cases d with
 | int k=>exact absurd rfl (hd k)
 | _ =>
  unfold Builtin.append_
  simp only [List.getElem?_toArray,List.getElem?_cons_zero,List.getElem?_cons_succ,Sem.run_bind,run_underlying ht,run_underlying hu,Result.andThen_ok,Sem.run_pure,sizeOf,typeInfo,run_program,hi,hl,if_false,if_true,if_pos hc,hx,Bool.false_eq_true,Bool.not_false]
  cases base <;> simp only [Sem.run_bind,Sem.run_pure]
theorem yW (ht:P.underlying t=some (.slice e)) (hu:P.underlying u=some d) (hd:∀ k,d≠.int k) (hi:P.info? e=some i) (hz:i.zero=some z) (hl:(Builtin.lenOf x).run P w=.ok n w) (hx:(Builtin.firstCells i.size n x).run P w.drew=.ok news w.drew)
  (hc:cap<len+n) (hb:(len+n)*(i.bytes+1)<1000000000) (ho:(Builtin.firstCells i.size len (.slice base len cap)).run P w.drew=.ok olds w.drew) :
  (Builtin.append_ #[t,u] ty #[.slice base len cap,x]).run P w=.ok (.slice (some ⟨w.heap.size,0,none⟩) (len+n) (grownCap w (len+n) cap e)) (w.drew.alloc (.cells (olds++news++Builtin.zeroCells z.cells (grownCap w (len+n) cap e-(len+n))) e)):=by
 have hn:¬ (len+n≤cap):=by omega
 have hle:len+n≤(len+n)*(i.bytes+1):=Nat.le_mul_of_pos_right (len+n) (Nat.succ_pos i.bytes)
 have hnb:(len+n)*i.bytes≤(len+n)*(i.bytes+1):=Nat.mul_le_mul_left _ (Nat.le_succ _)
 have hm:IntKind.i64.max=9223372036854775807:=rfl
 have hA:¬ (((len+n:Nat):Int) > IntKind.i64.max∧(False∨i.bytes=0)):=by
  rw [hm]
  intro h
  omega
 have hB:¬ (Builtin.nextslicecap (len+n) cap*i.bytes > 2 ^ 48):=by
  have:=growslice_fits (need:=len+n) (old:=cap) (bytes:=i.bytes) xj xj
  omega
 have hq:(Question.appendCap (len+n) cap e).forced=false:=rfl
 cases d with
 | int k=>exact absurd rfl (hd k)
 | _ =>
  unfold Builtin.append_
  simp only [List.getElem?_toArray,List.getElem?_cons_zero,List.getElem?_cons_succ,Sem.run_bind,run_underlying ht,run_underlying hu,Result.andThen_ok,Sem.run_pure,sizeOf,typeInfo,run_program,hi,hl,if_false,if_true,if_neg hn,Bool.false_eq_true,Bool.not_false,if_neg hA,if_neg hB,run_choose_drew,hq,run_askRoom,ho,hx,zeroValue,hz,newRow,run_newObj]
  rfl
theorem xk {ku:IntKind} {n:Nat} {zs:Array Value} (ht:P.underlying t=some (.slice e)) (hu:P.underlying u=some (.int ku)) (hi:P.info? e=some i) (hz:i.zero=some z) (hnn:n<1000000) (hb:n*(i.bytes+1)<1000000000) {k:IntKind} (hzs:zs=if n*i.size=0 then #[] else Builtin.zeroCells z.cells n) (hc:len+n≤cap) :
  (Builtin.append_ #[t,u] ty #[.slice base len cap,.int k n]).run P w=match base with|none=>.ok (.slice none (len+n) cap) w|some a=>((storeCells (a.add (len*i.size)) zs.toList).run P w).andThen fun _ w=>.ok (.slice (some a) (len+n) cap) w:=by
 have hw:IntKind.i64.wrap (n:Int)=(n:Int):=by rw [wrap_i64];split <;> omega
 have hneg:¬ ((n:Int)<0):=by omega
 have hnb:n*i.bytes≤n*(i.bytes+1):=Nat.mul_le_mul_left _ (Nat.le_succ _)
 have h48:¬ ((n:Int)*(i.bytes:Int) > 2 ^ 48):=by
  have:((n*i.bytes:Nat):Int)<1000000000:=by omega
  rw [Int.natCast_mul] at this
  omega
 have hne:Int.toNat (n:Int)=n:=Int.toNat_natCast n
 subst hzs
 unfold Builtin.append_
 simp only [List.getElem?_toArray,List.getElem?_cons_zero,List.getElem?_cons_succ,Sem.run_bind,run_underlying ht,run_underlying hu,Result.andThen_ok,Sem.run_pure,sizeOf,typeInfo,run_program,hi,asInt,asIntOf,hw,if_neg hneg,if_neg h48,hne,if_false,if_true,if_pos hc,Bool.false_eq_true,Bool.not_true]
 by_cases hzz:n*i.size=0
 ·simp only [if_pos hzz]
  cases base <;> simp only [Sem.run_bind,Sem.run_pure,Result.andThen_ok]
 ·simp only [if_neg hzz]
  cases base <;> simp only [Sem.run_bind,Sem.run_pure,Result.andThen_ok,zeroValue,typeInfo,run_program,hi,hz]
theorem xl {ku:IntKind} {n:Nat} {zs:Array Value} (ht:P.underlying t=some (.slice e)) (hu:P.underlying u=some (.int ku)) (hi:P.info? e=some i) (hz:i.zero=some z) (hnn:n<1000000) (hb:(len+n)*(i.bytes+1)<1000000000) {k:IntKind} (hzs:zs=if n*i.size=0 then #[] else Builtin.zeroCells z.cells n) (hc:cap<len+n)
  (ho:(Builtin.firstCells i.size len (.slice base len cap)).run P w.drew=.ok olds w.drew) :
  (Builtin.append_ #[t,u] ty #[.slice base len cap,.int k n]).run P w=.ok (.slice (some ⟨w.heap.size,0,none⟩) (len+n) (grownCap w (len+n) cap e)) (w.drew.alloc (.cells (olds++zs++Builtin.zeroCells z.cells (grownCap w (len+n) cap e-(len+n))) e)):=by
 have hn:¬ (len+n≤cap):=by omega
 have hle:len+n≤(len+n)*(i.bytes+1):=Nat.le_mul_of_pos_right (len+n) (Nat.succ_pos i.bytes)
 have hnb:(len+n)*i.bytes≤(len+n)*(i.bytes+1):=Nat.mul_le_mul_left _ (Nat.le_succ _)
 have hnb2:n*i.bytes≤(len+n)*i.bytes:=Nat.mul_le_mul_right _ xj
 have hm:IntKind.i64.max=9223372036854775807:=rfl
 have hA:¬ (((len+n:Nat):Int) > IntKind.i64.max∧(True∨i.bytes=0)):=by
  rw [hm]
  intro h
  omega
 have hB:¬ (Builtin.nextslicecap (len+n) cap*i.bytes > 2 ^ 48):=by
  have:=growslice_fits (need:=len+n) (old:=cap) (bytes:=i.bytes) xj xj
  omega
 have hq:(Question.appendCap (len+n) cap e).forced=false:=rfl
 have hw:IntKind.i64.wrap (n:Int)=(n:Int):=by rw [wrap_i64];split <;> omega
 have hneg:¬ ((n:Int)<0):=by omega
 have h48:¬ ((n:Int)*(i.bytes:Int) > 2 ^ 48):=by
  have:((n*i.bytes:Nat):Int)<1000000000:=by omega
  rw [Int.natCast_mul] at this
  omega
 have hne:Int.toNat (n:Int)=n:=Int.toNat_natCast n
 subst hzs
 unfold Builtin.append_
 simp only [List.getElem?_toArray,List.getElem?_cons_zero,List.getElem?_cons_succ,Sem.run_bind,run_underlying ht,run_underlying hu,Result.andThen_ok,Sem.run_pure,sizeOf,typeInfo,run_program,hi,asInt,asIntOf,hw,if_neg hneg,if_neg h48,hne,if_false,if_true,if_neg hn,Bool.false_eq_true,Bool.not_true,if_neg hA,if_neg hB,run_choose_drew,hq,run_askRoom,ho]
 by_cases hzz:n*i.size=0
 ·simp only [if_pos hzz,Sem.run_bind,Sem.run_pure,Result.andThen_ok,zeroValue,typeInfo,run_program,hi,hz,newRow,run_newObj]
  rfl
 ·simp only [if_neg hzz,Sem.run_bind,Sem.run_pure,Result.andThen_ok,zeroValue,typeInfo,run_program,hi,hz,newRow,run_newObj]
  rfl
end
section
theorem mw (z:Array Value) (n:Nat):Builtin.zeroCells z n=(mV z.toList n).toArray:=by
 have:=uF z.toList n
 rw [← this]
 unfold Builtin.zeroCells
 simp
end
section
variable {ρ:Rn} {h:H} {nx:Nat} {w:World} {e:TypeId} {z:Value}
theorem Kn {cs:List V} {xs:List Value} {m c sz:Nat} (hd:aT ρ cs xs) (hl:xs.length=m*sz) (hz:z.cells.toList.length=sz) (hc:m≤c):iL ρ (.row cs true e) (.cells (xs.toArray++Builtin.zeroCells z.cells (c-m)) e) (c*sz):=by
 rw [mw,List.append_toArray]
 refine .row hd (fun h=>by cases h) ?_
 rw [List.length_append,lE,hl,hz,← Nat.add_mul]
 congr 1
 omega
theorem uI (hs:Sat ρ h w) (hf:ρ nx=none) {cs:List V} {xs:List Value} {m old sz:Nat} (hd:aT ρ cs xs) (hl:xs.length=m*sz) (hz:z.cells.toList.length=sz) :
  Den (nU ρ nx (w.heap.size,grownCap w m old e*sz)) (.sl (some (nx,0)) m (.u sz)) (.slice (some ⟨w.heap.size,0,none⟩) m (grownCap w m old e)) ∧
  dH ρ h nx w (nU ρ nx (w.heap.size,grownCap w m old e*sz)) (dL h nx (some (.row cs true e))) (nx+1) (w.drew.alloc (.cells (xs.toArray++Builtin.zeroCells z.cells (grownCap w m old e-m)) e)):=by
 have hc:=grownCap_ge w m old e
 refine ⟨.Ca (cQ _ _ _) xj hc,dH.yP (dH.alloc (w:=w.drew) hs.drew hf (Kn (hd.ext (dp hf)) hl hz hc))⟩
structure Xw (P:Program) (A:Sem Value) (w:World) (sv:Value) (xs:List Value) (n sz by_:Nat) (e:TypeId) (z:Value):Prop where
 room:∀ {base len cap},sv=.slice base len cap→len+n≤cap→n*(by_+1)<1000000000→A.run P w=match base with|none=>.ok (.slice none (len+n) cap) w|some a=>((storeCells (a.add (len*sz)) xs).run P w).andThen fun _ w=>.ok (.slice (some a) (len+n) cap) w
 grow:∀ {base len cap olds},sv=.slice base len cap→cap<len+n→(len+n)*(by_+1)<1000000000→(Builtin.firstCells sz len sv).run P w.drew=.ok olds w.drew→A.run P w=.ok (.slice (some ⟨w.heap.size,0,none⟩) (len+n) (grownCap w (len+n) cap e)) (w.drew.alloc (.cells (olds++xs.toArray++Builtin.zeroCells z.cells (grownCap w (len+n) cap e-(len+n))) e))
theorem Ii {P:Program} {A:Sem Value} {s v:V} {sv:Value} {new:List V} {xs:List Value} {n sz by_:Nat} {h':H} {aL:Nat} (hs:Sat ρ h w) (hf:∀ m,nx≤m→ρ m=none) (hA:Xw P A w sv xs n sz by_ e z) (hsv:Den ρ s sv) (hd:aT ρ new xs) (hl:xs.length=n*sz) (hz:z.cells.toList.length=sz)
  (hv:RM e sz by_ h nx s n new=some (v,h',aL)):∃ x w' ρ',A.run P w=.ok x w'∧Den ρ' v x∧dH ρ h nx w ρ' h' aL w':=by
 unfold RM at hv
 split at hv
 ·rename_i a len c
  replace hv:=bA hv
  obtain ⟨hb,hv⟩:=hv
  rw [blt_eq] at hb
  have hb:=of_decide_eq_true hb
  have hb2:n*(by_+1)≤(len+n)*(by_+1):=Nat.mul_le_mul_right _ xj
  split at hv
  ·replace hv:=bA hv
   obtain ⟨h0,hv⟩:=hv
   have h0:=Nat.eq_of_beq_eq_true h0
   subst h0
   cases hsv
   cases hn:Nat.beq n 0 with
   | true =>
    rw [hn] at hv
    cases hv
    have hn:=Nat.eq_of_beq_eq_true hn
    subst hn
    exact ⟨_,w,ρ,hA.room rfl (Nat.le_refl _) xj,.Vs _ _,dH.refl hs _⟩
   | false =>
    rw [hn,cond_false,dh] at hv
    cases hv
    have hn:=Nat.ne_of_beq_eq_false hn
    have hr:=hA.grow (olds:=#[]) rfl xj hb (by simp [Builtin.firstCells])
    obtain ⟨g1,g2⟩:=uI (e:=e) (old:=0) hs (hf nx (Nat.le_refl _)) hd hl hz
    rw [Nat.zero_add] at hr
    refine ⟨_,_,_,hr,g1,?_⟩
    simpa using g2
  ·rename_i b off cp
   cases hsv with
   | @B7 _ _ _ _ bb sz0 e1 =>
   cases hle:Nat.ble (len+n) cp with
   | true =>
    rw [hle,cond_true] at hv
    have hle:=Nat.le_of_ble_eq_true hle
    unfold kZ at hv
    split at hv
    ·rename_i cs o t hg
     split at hv
     ·rename_i cs' hp
      replace hv:=bA hv
      obtain ⟨h1,hv⟩:=hv
      rw [dh] at hv
      cases hv
      obtain ⟨b',s',w',f1,f2,f3⟩:=mu (nx:=nx) hs hg hp h1 hd
      rw [e1] at f1
      cases f1
      have hr:=hA.room rfl hle xj
      simp only [Addr.add_lit,f2 P,Result.andThen_ok] at hr
      exact ⟨_,w',ρ,hr,.B7 e1,f3⟩
     ·cases hv
    ·cases hv
   | false =>
    rw [hle,cond_false] at hv
    have hgt:cp<len+n:=by
     rcases Nat.lt_or_ge cp (len+n) with k|k
     ·exact k
     ·rw [Nat.ble_eq_true_of_le k] at hle;cases hle
    split at hv
    ·rename_i old hg
     rw [dh] at hv
     cases hv
     obtain ⟨b',s',os,f1,f2,f3,f4⟩:=mq (w:=w.drew) hs.drew hg
     rw [e1] at f1
     cases f1
     have hr:=hA.grow (olds:=os.toArray) rfl hgt hb (by simp only [Builtin.firstCells];exact f4 P)
     obtain ⟨g1,g2⟩:=uI (e:=e) (m:=len+n) (old:=cp) hs (hf nx (Nat.le_refl _)) (f2.append hd) (by rw [List.length_append,f3,hl,Nat.add_mul]) hz
     refine ⟨_,_,_,hr,g1,?_⟩
     simpa using g2
    ·cases hv
  ·rename_i b off sz'
   replace hv:=bA hv
   obtain ⟨h1,hv⟩:=hv
   have h1:=Nat.eq_of_beq_eq_true h1
   subst h1
   cases hsv with
   | @Ca _ _ _ _ cp bb tot e1 e2 e3 =>
   cases hn:Nat.beq n 0 with
   | true =>
    rw [hn] at hv
    cases hv
    have hn:=Nat.eq_of_beq_eq_true hn
    subst hn
    have hx0:xs=[]:=List.eq_nil_of_length_eq_zero (by rw [hl,Nat.zero_mul])
    subst hx0
    have hr:=hA.room rfl (by simpa using e3) xj
    exact ⟨_,w,ρ,hr,.Ca e1 e2 (by simpa using e3),dH.refl hs _⟩
   | false =>
    rw [hn,cond_false] at hv
    have hn:=Nat.ne_of_beq_eq_false hn
    replace hv:=bA hv
    obtain ⟨h2,hv⟩:=hv
    rw [Bool.and_eq_true] at h2
    have h3:=Nat.eq_of_beq_eq_true h2.1
    subst h3
    split at hv
    ·rename_i cs o t hg
     replace hv:=bA hv
     obtain ⟨h4,hv⟩:=hv
     have h4:=Nat.eq_of_beq_eq_true h4
     subst h4
     split at hv
     ·rename_i old ht
      rw [Mw,dh] at hv
      cases hv
      obtain ⟨b',s',ys,tl,f1,f2,f3,f4,f5⟩:=eH hs hg
      rw [e1] at f1
      cases f1
      obtain ⟨rfl,hlen⟩:=eR ht
      have hyl:=f3.len
      have hot:(ys.take (len*sz)).length=len*sz:=by rw [List.length_take];omega
      rcases Nat.lt_or_ge cp (len+n) with hgt|hle
      ·have hr:=hA.grow (olds:=(ys.take (len*sz)).toArray) rfl hgt hb (by
        simp only [Builtin.firstCells]
        have:=run_loadCells_list (P:=P) (w:=w.drew) ⟨bb,0,none⟩ (ys.take (len*sz)) fun j v hj=>by
         rw [gD (w:=w.drew) f2]
         have hlt:=(List.getElem?_eq_some_iff.1 hj).1
         rw [hot] at hlt
         rw [List.getElem?_take_of_lt hlt] at hj
         have hlt2:=(List.getElem?_eq_some_iff.1 hj).1
         simp only [List.getElem?_toArray,Nat.zero_add]
         rw [List.getElem?_append_left hlt2]
         exact hj
        rw [hot] at this
        exact this)
       obtain ⟨g1,g2⟩:=uI (e:=t) (m:=len+n) (old:=cp) (hs.del b) (hf nx (Nat.le_refl _)) ((f3.take (len*sz)).append hd) (by rw [List.length_append,hot,hl,Nat.add_mul]) hz
       refine ⟨_,_,_,hr,g1,(dH.del hs b).trans ?_⟩
       simpa using g2
      ·have hmul:(len+n)*sz≤cp*sz:=Nat.mul_le_mul_right _ hle
       rw [Nat.add_mul] at hmul
       have hr:=hA.room rfl hle xj
       have hst:=run_storeCells_at (P:=P) bb (len*sz) t xs 0 (ys++tl).toArray w f2 (by simp only [List.size_toArray,f4];omega) (nt hd h2.2)
       simp only [Addr.add_lit,Nat.zero_add,hst,Result.andThen_ok] at hr
       have e6:((ys++tl).toArray.toList.take (len*sz+0)++xs++(ys++tl).toArray.toList.drop (len*sz+0+xs.length))=(ys.take (len*sz)++xs)++(ys++tl).drop (len*sz+xs.length):=by
        simp only [Nat.add_zero]
        rw [List.take_append_of_le_length (by omega)]
       simp only [Nat.add_zero] at e6 hr
       rw [e6] at hr
       refine ⟨_,_,nU ρ nx (bb,tot),hr,.Ca (cQ _ _ _) e2 xj,dH.rename hs (hf nx (Nat.le_refl _)) (by rw [show at_ h b=_ from hg];simp) e1 (setRow_heap w bb _ _ t _ f2) (.row (((f3.take _).append hd).ext (dp (hf nx (Nat.le_refl _)))) (fun h=>by cases h) ?_) (fun k hk=>setRow_other w bb k _ hk) (by simp [World.setRow]) rfl rfl rfl⟩
       rw [List.length_append,List.length_append,hot,List.length_drop,f4,hl]
       omega
     ·cases hv
    ·cases hv
  ·cases hv
 ·cases hv
end
end
end E
end Go.Proofs.YtlmabdegojeheaaGreatDoor
