/- WholeTurned: parts of its proof (Ej Ek El). -/
import Derived.Test.YtlmabdegojeheaaGreatDoorEhEi
import Derived.Test.YtlmabdegojeheaaGreatDoorEbEd
namespace Go.Proofs.YtlmabdegojeheaaGreatDoor
open R
namespace E
open Go.RowKit Go.Lib
section
variable {P:Program} {ρ:Rn} {h:H} {w:World}
theorem CQ (hs:Sat ρ h w) {n off len:Nat} {r:List V} (hr:ic h n off len=some r):∃ b sz xs,ρ n=some (b,sz)∧aT ρ r xs∧xs.length=len∧∀ (P:Program) (w':World),w'.heap=w.heap→(loadCells ⟨b,off,none⟩ len).run P w'=.ok xs.toArray w':=by
 unfold ic at hr
 split at hr
 ·rename_i cs o t hg
  obtain ⟨b,sz,xs,tl,h1,h2,h3,h4,h5⟩:=eH hs hg
  obtain ⟨rfl,hl⟩:=eR hr
  rw [lD] at *
  have h6:=h3.len
  have hlen:((xs.drop off).take len).length=len:=by
   rw [List.length_drop] at hl
   rw [List.length_take,List.length_drop]
   omega
  refine ⟨b,sz,(xs.drop off).take len,h1,(h3.drop off).take len,hlen,fun P w' hw=>?_⟩
  have:=run_loadCells_list (P:=P) (w:=w') ⟨b,off,none⟩ ((xs.drop off).take len) fun j v hj=>by
   rw [gD (w:=w') (by rw [hw];exact h2)]
   rw [List.getElem?_take] at hj
   split at hj
   ·rw [List.getElem?_drop] at hj
    have hlt:=(List.getElem?_eq_some_iff.1 hj).1
    simp only [List.getElem?_toArray]
    rw [List.getElem?_append_left hlt]
    exact hj
   ·cases hj
  rw [hlen] at this
  exact this
 ·cases hr
theorem uJ (ρ:Rn):∀ l:List UInt8,aT ρ (l.map fun x=>V.i .u8 (.ofNat x.toNat)) (l.map fun b=>Value.int .u8 b.toNat)
 | []=>.nil
 | _::l=>.cons (.i _ _) (uJ ρ l)
theorem uK (hs:Sat ρ h w) {sz n:Nat} {v:V} {x:Value} {cs:List V} (hd:Den ρ v x) (hv:yI h sz n v=some cs) (hn:∀ m,Mg v=some m→n≤m):∃ xs,aT ρ cs xs∧xs.length=n*sz∧∀ (P:Program) (w':World),w'.heap=w.heap→(Builtin.firstCells sz n x).run P w'=.ok xs.toArray w':=by
 have h0:∀ (P:Program) (w':World) (a:Addr),(loadCells a (0*sz)).run P w'=.ok #[] w':=fun P w' a=>by
  rw [Nat.zero_mul]
  exact run_loadCells_list (P:=P) (w:=w') a [] fun j v hj=>by simp at hj
 unfold yI at hv
 split at hv
 ·obtain ⟨h1,h2⟩:=bA hv
  cases h2
  have h1:=Nat.eq_of_beq_eq_true h1
  subst h1
  cases hd
  exact ⟨[],.nil,by simp,fun P w' _=>rfl⟩
 ·obtain ⟨h1,h2⟩:=bA hv
  cases h2
  have h1:=Nat.eq_of_beq_eq_true h1
  subst h1
  cases hd
  exact ⟨[],.nil,by simp,fun P w' _=>h0 P w' _⟩
 ·rename_i b off len c hc
  obtain ⟨b',s',xs,f1,f2,f3,f4⟩:=CQ hs hv
  refine ⟨xs,f2,f3,fun P w' hw=>?_⟩
  cases hd with
  | B7 e=>rw [f1] at e;cases e;exact f4 P w' hw
  | Ca e _ _=>rw [f1] at e;cases e;exact f4 P w' hw
  | Vt=>exact absurd rfl hc
 ·rename_i l
  obtain ⟨h1,h2⟩:=bA hv
  cases h2
  have h1:=Nat.eq_of_beq_eq_true h1
  subst h1
  cases hd
  have hnl:n≤l.length:=hn _ rfl
  refine ⟨(l.take n).map fun b=>Value.int .u8 b.toNat,uJ ρ _,by simp;omega,fun P w' _=>?_⟩
  simp only [Builtin.firstCells,Sem.run_pure]
  rw [extract_mk]
  simp
 ·cases hv
theorem rI {v:V} {x:Value} {n:Nat} (hd:Den ρ v x) (hv:Mg v=some n) (w:World):(Builtin.lenOf x).run P w=.ok n w:=by
 unfold Mg at hv
 split at hv
 ·cases hv
  cases hd <;> rfl
 ·cases hv
  cases hd
  simp [Builtin.lenOf,ByteArray.size]
 ·cases hv
end
section
variable {P:Program}
theorem Ko {c:Call} {l:List cu} {t u e:TypeId} {sz by_:Nat} {z:V} {d:TypeDesc} (hd:el c.args.toList=some l) (hc:c.callee=.builtin .append) (ht:c.argTypes.toList=[t,u]) (h1:P.underlying t=some (.slice e)) (h2:P.underlying u=some d) (h3:∀ k,d≠.int k)
  (hn:ct P e=some sz) (hb:kY P e=some by_) (hz:dK P e=some z) (hzl:z.cells.length=sz):jo P (.call c) (.e l (RN e sz by_)) :=
 kM (cT c) hd fun {ρ h nx w vs v h' aL} f hs hf hu hv=>by
  have ht0:c.argTypes=#[t,u]:=Array.ext' ht
  have ha:=cF (f:=f) (c:=c) rfl
  generalize c.args.toList.map (ev f)=xs at hu ha
  obtain ⟨i,hi,rfl⟩:=iP hn
  obtain ⟨i',zx,hi',hzx,hzv⟩:=dV hz
  rw [hi] at hi'
  cases hi'
  have hzd:=eu (fM (ρ:=ρ) hzv)
  have hzs:zx.cells.toList.length=i.size:=by
   have:=hzd.len
   rw [hzl] at this
   exact this.symm
  unfold kY at hb
  rw [hi] at hb
  have hbi:i.bytes=by_:=by simpa using hb
  subst hbi
  unfold RN at hv
  split at hv
  ·rename_i s x
   split at hv
   ·rename_i n hln
    split at hv
    ·rename_i new hfi
     cases hu with
     | @cons _ sv _ _ hsv hu =>
      cases hu with
      | @cons _ xv _ _ hxv hu =>
       cases hu
       obtain ⟨ys,g1,g2,g3⟩:=uK hs hxv hfi (fun m hm=>by rw [hln] at hm;cases hm;exact Nat.le_refl _)
       have hA:∀ ty,Xw P (Builtin.append_ c.argTypes ty (c.args.map (ev f))) w sv ys n i.size i.bytes e zx:=fun ty=>by
        rw [ht0,ha]
        refine ⟨fun {base len cap} hb hr _=>?_,fun {base len cap olds} hb hr hm ho=>?_⟩
        ·subst hb
         exact yV h1 h2 h3 hi (rI hxv hln w) (g3 P w rfl) hr
        ·subst hb
         exact yW h1 h2 h3 hi hzx (rI hxv hln w) (g3 P w.drew rfl) hr hm ho
       obtain ⟨x',w',ρ',k1,k2,k3⟩:=Ii hs hf (hA 0) hsv g1 g2 hzs hv
       exact ⟨x',w',ρ',fun o ho=>.inl (pW ho hc k1),k2,k3⟩
    ·cases hv
   ·cases hv
  ·cases hv
theorem FL {c:Call} {l:List cu} {t u e:TypeId} {sz by_:Nat} {z:V} {k:IntKind} (hd:el c.args.toList=some l) (hc:c.callee=.builtin .append) (ht:c.argTypes.toList=[t,u]) (h1:P.underlying t=some (.slice e)) (h2:P.underlying u=some (.int k))
  (hn:ct P e=some sz) (hb:kY P e=some by_) (hz:dK P e=some z) (hzl:z.cells.length=sz):jo P (.call c) (.e l (RO e sz by_ z.cells)) :=
 kM (cT c) hd fun {ρ h nx w vs v h' aL} f hs hf hu hv=>by
  have ht0:c.argTypes=#[t,u]:=Array.ext' ht
  have ha:=cF (f:=f) (c:=c) rfl
  generalize c.args.toList.map (ev f)=xs at hu ha
  obtain ⟨i,hi,rfl⟩:=iP hn
  obtain ⟨i',zx,hi',hzx,hzv⟩:=dV hz
  rw [hi] at hi'
  cases hi'
  have hzd:=eu (fM (ρ:=ρ) hzv)
  have hzs:zx.cells.toList.length=i.size:=by
   have:=hzd.len
   rw [hzl] at this
   exact this.symm
  unfold kY at hb
  rw [hi] at hb
  have hbi:i.bytes=by_:=by simpa using hb
  subst hbi
  unfold RO at hv
  split at hv
  ·rename_i s k' n
   obtain ⟨hnn,hv1⟩:=bA hv
   rw [blt_eq] at hnn
   have hnn:=of_decide_eq_true hnn
   cases hu with
   | @cons _ sv _ _ hsv hu =>
    cases hu with
    | @cons _ xv _ _ hxv hu =>
     cases hu
     cases hxv
     have hzr:(mV zx.cells.toList n).toArray=if n*i.size=0 then #[] else Builtin.zeroCells zx.cells n:=by
      rw [mw]
      split
      ·rename_i h0
       have:(mV zx.cells.toList n)=[]:=List.eq_nil_of_length_eq_zero (by rw [lE,hzs];exact h0)
       rw [this]
      ·rfl
     have hA:Xw P (Builtin.append_ c.argTypes 0 (c.args.map (ev f))) w sv (mV zx.cells.toList n) n i.size i.bytes e zx:=by
      rw [ht0,ha]
      refine ⟨fun {base len cap} hb hr hm=>?_,fun {base len cap olds} hb hr hm ho=>?_⟩
      ·subst hb
       exact xk h1 h2 hi hzx hnn hm hzr hr
      ·subst hb
       exact xl h1 h2 hi hzx hnn hm hzr hr ho
     obtain ⟨x',w',ρ',k1,k2,k3⟩:=Ii hs hf hA hsv (pU hzd n) (by rw [lE,hzs]) hzs hv1
     exact ⟨x',w',ρ',fun o ho=>.inl (pW ho hc k1),k2,k3⟩
  ·cases hv
theorem xn {w w':World} {t u ty e:TypeId} {i:TypeInfo} {x:Value} {a:Addr} {len cap n:Nat} {cs:Array Value} (h1:P.underlying t=some (.slice e)) (hi:P.info? e=some i) (hl:(Builtin.lenOf x).run P w=.ok n w) (hx:(Builtin.firstCells i.size (Nat.min n len) x).run P w=.ok cs w) (hst:(storeCells a cs.toList).run P w=.ok () w') :
  (Builtin.copy_ #[t,u] ty #[.slice (some a) len cap,x]).run P w=.ok (goInt (Nat.min n len)) w':=by
 unfold Builtin.copy_
 simp only [List.getElem?_toArray,List.getElem?_cons_zero,List.getElem?_cons_succ,Sem.run_bind,run_underlying h1,Result.andThen_ok,Sem.run_pure,sizeOf,typeInfo,run_program,hi,hl,hx,hst]
theorem run_copy_none {w:World} {t u ty e:TypeId} {i:TypeInfo} {x:Value} {len cap n:Nat} {cs:Array Value} (h1:P.underlying t=some (.slice e)) (hi:P.info? e=some i) (hl:(Builtin.lenOf x).run P w=.ok n w) (hx:(Builtin.firstCells i.size (Nat.min n len) x).run P w=.ok cs w) :
  (Builtin.copy_ #[t,u] ty #[.slice none len cap,x]).run P w=.ok (goInt (Nat.min n len)) w:=by
 unfold Builtin.copy_
 simp only [List.getElem?_toArray,List.getElem?_cons_zero,List.getElem?_cons_succ,Sem.run_bind,run_underlying h1,Result.andThen_ok,Sem.run_pure,sizeOf,typeInfo,run_program,hi,hl,hx]
theorem sS {h:H} {n off nx aL:Nat} {vs:List V} {r v:V} {h':H} (hv:(kZ h n off vs fun h'=>some (r,h',nx))=some (v,h',aL)):∃ cs cs' o t,at_ h n=some (.row cs o t)∧Fv cs off vs=some cs'∧vs.all V.one=true∧v=r∧h'=dL h n (some (.row cs' o t))∧aL=nx:=by
 unfold kZ at hv
 split at hv
 ·rename_i cs o t hg
  split at hv
  ·rename_i cs' hp
   obtain ⟨h1,hv⟩:=bA hv
   rw [dh] at hv
   cases hv
   exact ⟨cs,cs',o,t,hg,hp,h1,rfl,rfl,rfl⟩
  ·cases hv
 ·cases hv
theorem SA {c:Call} {l:List cu} {t u e:TypeId} {sz:Nat} (hd:el c.args.toList=some l) (hc:c.callee=.builtin .copy) (ht:c.argTypes.toList=[t,u]) (h1:P.underlying t=some (.slice e)) (hn:ct P e=some sz):jo P (.call c) (.e l (RP sz)) :=
 kM (cT c) hd fun {ρ h nx w vs v h' aL} f hs hf hu hv=>by
  have ht0:c.argTypes=#[t,u]:=Array.ext' ht
  have ha:=cF (f:=f) (c:=c) rfl
  generalize c.args.toList.map (ev f)=xs at hu ha
  obtain ⟨i,hi,rfl⟩:=iP hn
  unfold RP at hv
  split at hv
  ·rename_i a n c0 s
   split at hv
   ·rename_i m hln
    split at hv
    ·rename_i cs hfi
     cases hu with
     | @cons _ dv _ _ hdv hu =>
      cases hu with
      | @cons _ xv _ _ hxv hu =>
       cases hu
       obtain ⟨ys,g1,g2,g3⟩:=uK hs hxv hfi (fun m' hm=>by rw [hln] at hm;cases hm;exact Nat.min_le_left _ _)
       have hlo:=rI (P:=P) hxv hln w
       have key:∀ {b off:Nat} {A:Addr} {cc:Nat},dv=.slice (some A) n cc→(∃ bb sz,ρ b=some (bb,sz)∧A=⟨bb,off,none⟩)→(kZ h b off cs fun h'=>some (Ft (Nat.min m n),h',nx))=some (v,h',aL) →
         ∃ x w' ρ',(∀ o:Oper,o.op=.call c→(execOp (ev f) o).run P w=.ok (.value x) w'∨((execOp (ev f) o).run P w=.ok .skip w'∧x=Go.undef))∧Den ρ' v x∧dH ρ h nx w ρ' h' aL w':=by
        rintro b off A cc rfl ⟨bb,s,e1,rfl⟩ hv
        obtain ⟨ro,ro',o,t',k1,k2,k3,rfl,rfl,rfl⟩:=sS hv
        obtain ⟨b',s',w',f1,f2,f3⟩:=mu (nx:=aL) hs k1 k2 k3 g1
        rw [e1] at f1
        cases f1
        refine ⟨_,w',ρ,fun o ho=>.inl (xL ho hc ?_),.i _ _,f3⟩
        ·rw [ht0,ha]
         exact xn h1 hi hlo (g3 P w rfl) (f2 P)
       split at hv
       ·cases hv
        cases hdv
        refine ⟨_,w,ρ,fun o ho=>.inl (xL ho hc ?_),.i _ _,dH.refl hs _⟩
        rw [ht0,ha]
        exact run_copy_none h1 hi hlo (g3 P w rfl)
       ·cases hdv with
        | B7 e=>exact key rfl ⟨_,_,e,rfl⟩ hv
       ·cases hdv with
        | Ca e _ _=>exact key rfl ⟨_,_,e,rfl⟩ hv
       ·cases hv
    ·cases hv
   ·cases hv
  ·cases hv
theorem uL {w:World} {t ty e:TypeId} {len cap:Nat} (h1:P.underlying t=some (.slice e)):(Builtin.clear_ #[t] ty #[.slice none len cap]).run P w=.ok (.tuple #[]) w:=by
 unfold Builtin.clear_
 simp only [List.getElem?_toArray,List.getElem?_cons_zero,Sem.run_bind,run_underlying h1,Result.andThen_ok,Sem.run_pure]
theorem uM {w:World} {t ty e:TypeId} {A:Addr} {cap:Nat} (h1:P.underlying t=some (.slice e)):(Builtin.clear_ #[t] ty #[.slice (some A) 0 cap]).run P w=.ok (.tuple #[]) w:=by
 unfold Builtin.clear_
 simp only [List.getElem?_toArray,List.getElem?_cons_zero,Sem.run_bind,run_underlying h1,Result.andThen_ok,Sem.run_pure]
theorem uN {w w':World} {t ty e:TypeId} {i:TypeInfo} {z:Value} {A:Addr} {n cap:Nat} (h1:P.underlying t=some (.slice e)) (hi:P.info? e=some i) (hz:i.zero=some z) (h0:n≠0) (hst:(storeCells A (Builtin.zeroCells z.cells n).toList).run P w=.ok () w'):(Builtin.clear_ #[t] ty #[.slice (some A) n cap]).run P w=.ok (.tuple #[]) w':=by
 cases n with
 | zero=>exact absurd rfl h0
 | succ n =>
  unfold Builtin.clear_
  simp only [List.getElem?_toArray,List.getElem?_cons_zero,Sem.run_bind,run_underlying h1,Result.andThen_ok,Sem.run_pure,zeroValue,typeInfo,run_program,hi,hz,hst]
theorem MP {c:Call} {l:List cu} {t e:TypeId} {z:V} (hd:el c.args.toList=some l) (hc:c.callee=.builtin .clear) (ht:c.argTypes.toList=[t]) (h1:P.underlying t=some (.slice e)) (hz:dK P e=some z):jo P (.call c) (.e l (RS z.cells)) :=
 kM (cT c) hd fun {ρ h nx w vs v h' aL} f hs hf hu hv=>by
  have ht0:c.argTypes=#[t]:=Array.ext' ht
  have ha:=cF (f:=f) (c:=c) rfl
  generalize c.args.toList.map (ev f)=xs at hu ha
  obtain ⟨i,zx,hi,hzx,hzv⟩:=dV hz
  have hzd:=eu (fM (ρ:=ρ) hzv)
  unfold RS at hv
  split at hv
  ·cases hv
   cases hu with
   | cons hdv hu =>
    cases hu
    cases hdv
    refine ⟨.tuple #[],w,ρ,fun o ho=>.inl (pd ho hc ?_),.t .nil,dH.refl hs _⟩
    rw [ht0,ha]
    exact uL h1
  ·rename_i b off n c0
   cases hu with
   | @cons _ dv _ _ hdv hu =>
    cases hu
    cases h0:Nat.beq n 0 with
    | true =>
     rw [h0] at hv
     cases hv
     have h0:=Nat.eq_of_beq_eq_true h0
     subst h0
     have hex:∃ A cap,dv=.slice (some A) 0 cap:=by cases hdv <;> exact ⟨_,_,rfl⟩
     obtain ⟨A,cap,rfl⟩:=hex
     refine ⟨.tuple #[],w,ρ,fun o ho=>.inl (pd ho hc ?_),.t .nil,dH.refl hs _⟩
     rw [ht0,ha]
     exact uM h1
    | false =>
     rw [h0,cond_false] at hv
     have h0:=Nat.ne_of_beq_eq_false h0
     have hex:∃ bb sz cap,dv=.slice (some ⟨bb,off,none⟩) n cap∧ρ b=some (bb,sz):=by
      cases hdv with
      | B7 e=>exact ⟨_,_,_,rfl,e⟩
      | Ca e _ _=>exact ⟨_,_,_,rfl,e⟩
      | Vt=>exact absurd rfl h0
     obtain ⟨bb,s,cap,rfl,e1⟩:=hex
     obtain ⟨ro,ro',o,t',k1,k2,k3,rfl,rfl,rfl⟩:=sS hv
     obtain ⟨b',s',w',f1,f2,f3⟩:=mu (nx:=aL) hs k1 k2 k3 (pU hzd n)
     rw [e1] at f1
     cases f1
     refine ⟨.tuple #[],w',ρ,fun o ho=>.inl (pd ho hc ?_),.t .nil,f3⟩
     rw [ht0,ha]
     exact uN h1 hi hzx h0 (by rw [mw];exact f2 P)
  ·cases hv
theorem Kq {c:Call} {l:List cu} {t kt et:TypeId} {ts:List TypeId} (hd:el c.args.toList=some l) (hc:c.callee=.builtin .delete) (ht:c.argTypes.toList=t::ts) (h1:P.underlying t=some (.map kt et)):jo P (.call c) (.e l (RT P kt)) :=
 kM (cT c) hd fun {ρ h nx w vs v h' aL} f hs hf hu hv=>by
  have ht0:c.argTypes=(t::ts).toArray:=Array.ext' ht
  have ha:=cF (f:=f) (c:=c) rfl
  generalize c.args.toList.map (ev f)=xs at hu ha
  unfold RT at hv
  split at hv
  ·rename_i k
   obtain ⟨hck,hv1⟩:=bA hv
   cases hv1
   cases hu with
   | cons ham hu =>
    cases hu with
    | @cons _ kv _ _ hk hu =>
     cases hu
     cases ham
     have hr:=run_checkKey (P:=P) true w 10000 hck hk
     refine ⟨.tuple #[],w,ρ,fun o ho=>.inl (nu ho hc ?_),.t .nil,dH.refl hs _⟩
     rw [ht0,ha]
     unfold Builtin.delete_
     simp only [List.getElem?_toArray,List.getElem?_cons_zero,List.getElem?_cons_succ,Sem.run_bind,run_underlying h1,Result.andThen_ok,Sem.run_pure,hr]
  ·rename_i r k
   split at hv
   ·rename_i es clock hg
    obtain ⟨b,sz,ms,e1,e2,e3⟩:=gE hs hg
    cases hu with
    | cons ham hu =>
     cases hu with
     | @cons _ kv _ _ hk hu =>
      cases hu
      cases ham with
      | m e =>
       rw [e1] at e
       cases e
       have hgm:=dX (P:=P) e2
       split at hv
       ·rename_i i e hf
        rw [dh] at hv
        cases hv
        obtain ⟨c1,r',c2,c3⟩:=run_findKey w hk e3 hf
        rcases c3 with ⟨c3,_⟩|⟨j,e',m',c3,c4,c5,c6,c7⟩
        ·cases c3
        ·cases c3
         rw [Nat.zero_add] at c4
         have hset:=dY (ob':=.map (ms.eraseIdx (0+j)).toArray clock) e2 (fun _ _ _ h=>by cases h) P
         have hlt:=(List.getElem?_eq_some_iff.1 c6).1
         have e5:ms.toArray.eraseIdxIfInBounds j=(ms.eraseIdx (0+j)).toArray:=by
          rw [Nat.zero_add]
          apply Array.ext'
          simp [Array.eraseIdxIfInBounds,hlt]
         refine ⟨.tuple #[],_,ρ,fun o ho=>.inl (nu ho hc ?_),.t .nil,dZ (ob':=.map (ms.eraseIdx (0+j)).toArray clock) hs (by rw [show at_ h _=_ from hg];simp) e1 e2 (.mp (sR _ e3))⟩
         rw [ht0,ha]
         unfold Builtin.delete_
         simp only [List.getElem?_toArray,List.getElem?_cons_zero,List.getElem?_cons_succ,Sem.run_bind,run_underlying h1,Result.andThen_ok,Sem.run_pure,hgm,c1,c2,c4,e5,hset]
       ·rename_i hf
        rw [dh] at hv
        cases hv
        obtain ⟨c1,r',c2,c3⟩:=run_findKey w hk e3 hf
        rcases c3 with ⟨_,c4⟩|⟨j,e',m',c3,_⟩
        ·have hset:=dY (ob':=.map ms.toArray clock) e2 (fun _ _ _ h=>by cases h) P
         refine ⟨.tuple #[],_,ρ,fun o ho=>.inl (nu ho hc ?_),.t .nil,dZ (ob':=.map ms.toArray clock) hs (by rw [show at_ h _=_ from hg];simp) e1 e2 (.mp e3)⟩
         rw [ht0,ha]
         unfold Builtin.delete_
         simp only [List.getElem?_toArray,List.getElem?_cons_zero,List.getElem?_cons_succ,Sem.run_bind,run_underlying h1,Result.andThen_ok,Sem.run_pure,hgm,c1,c2,c4,hset]
        ·cases c3
       ·cases hv
   ·cases hv
  ·cases hv
theorem dH.adm {ρ:Rn} {h:H} {nx:Nat} {w w1:World} (hs:Sat ρ h w) {n b sz:Nat} (hn:at_ h n≠none) (hr:ρ n=some (b,sz)) (hx:∀ k,k≠b→w1.heap[k]?=w.heap[k]?) (hz:w1.heap.size=w.heap.size) (e1:w1.os=w.os) (e2:w1.tape=w.tape) (e3:w1.output=w.output):dH ρ h nx w ρ (dL h n none) nx w1 where
 ext:=Ext.refl ρ
 sat:=by
  refine ⟨fun m o hm=>?_,(hs.del n).inj⟩
  rw [cg] at hm
  split at hm
  ·cases hm
  ·rename_i e
   obtain ⟨b',sz',ob,h1,h2,h3⟩:=hs.has m o hm
   refine ⟨b',sz',ob,h1,?_,h3⟩
   rw [hx b' ?_]
   ·exact h2
   ·rintro rfl
    exact e (hs.inj m n b' sz' sz (by rw [hm];simp) hn h1 hr)
 le:=Nat.le_refl _
 same:=fun _ _=>rfl
 os:=e1
 tape:=e2
 output:=e3
 size:=by omega
 kC:=fun k _ hi=>hx k (by rintro rfl;exact hi ⟨n,sz,hn,hr⟩)
 FF:=fun k _ hi=>FE hi
theorem uO {ρ:Rn}:∀ {cs:List V} {l:List UInt8} {xs:List Value},yJ cs=some l→aT ρ cs xs→l.length=cs.length∧xs=l.map fun b=>Value.int .u8 b.toNat
 | [],l,xs,h,hd=>by
  cases hd
  cases h
  exact ⟨rfl,rfl⟩
 | v::cs,l,xs,h,hd=>by
  unfold yJ at h
  split at h
  ·rename_i h0
   cases h0
  ·rename_i x l' h0
   cases h0
   obtain ⟨h1,h2⟩:=bA h
   rw [blt_eq] at h1
   have h1:=of_decide_eq_true h1
   split at h2
   ·rename_i r hr
    cases h2
    cases hd with
    | cons ha hd =>
     cases ha
     obtain ⟨h3,h4⟩:=uO hr hd
     refine ⟨by simp [h3],?_⟩
     rw [List.map_cons,← h4]
     congr 2
     simp [Nat.mod_eq_of_lt h1]
   ·cases h2
  ·cases h
theorem Xx {c:Call} {l:List cu} {t u e:TypeId} (hd:el c.args.toList=some l) (hc:c.callee=.builtin .unsafeString) (ht:c.argTypes.toList=[t,u]) (h1:P.underlying t=some (.pointer e)) (hn:ct P e=some 1):jo P (.call c) (.e l (RU e)) :=
 kM (cT c) hd fun {ρ h nx w vs v h' aL} f hs hf hu hv=>by
  have ht0:c.argTypes=#[t,u]:=Array.ext' ht
  have ha:=cF (f:=f) (c:=c) rfl
  generalize c.args.toList.map (ev f)=xs at hu ha
  obtain ⟨i,hi,hi1⟩:=iP hn
  have hce:P.cellsOf e=1:=by simp [Program.cellsOf,hi,hi1]
  unfold RU at hv
  split at hv
  ·rename_i n
   obtain ⟨h0,hv1⟩:=bA hv
   cases hv1
   have h0:=Nat.eq_of_beq_eq_true h0
   subst h0
   cases hu with
   | cons hp hu =>
    cases hu with
    | cons hk hu =>
     cases hu
     cases hp
     cases hk
     refine ⟨.string .empty,w,ρ,fun o ho=>.inl (uH ho hc ?_),Den.s [],dH.refl hs _⟩
     rw [ht0,ha]
     exact run_unsafeString_none (P:=P) (w:=w) t u o.type none
  ·rename_i b off n
   cases hu with
   | cons hp hu =>
    cases hu with
    | cons hk hu =>
     cases hu
     cases hk
     cases hp with
     | @p _ _ bb sz e1 =>
     cases h0:Nat.beq n 0 with
     | true =>
      rw [h0] at hv
      cases hv
      have h0:=Nat.eq_of_beq_eq_true h0
      subst h0
      refine ⟨.string .empty,w,ρ,fun o ho=>.inl (uH ho hc ?_),Den.s [],dH.refl hs _⟩
      rw [ht0,ha]
      exact run_unsafeString_none (P:=P) (w:=w) t u o.type _
     | false =>
      rw [h0,cond_false] at hv
      have h0:=Nat.ne_of_beq_eq_false h0
      replace hv:=bA hv
      obtain ⟨h2,hv⟩:=hv
      rw [Bool.and_eq_true,blt_eq] at h2
      have h3:=Nat.eq_of_beq_eq_true h2.1
      subst h3
      have h4:=of_decide_eq_true h2.2
      split at hv
      ·rename_i cs o0 t0 hg
       replace hv:=bA hv
       obtain ⟨h5,hv⟩:=hv
       have h5:=Nat.eq_of_beq_eq_true h5
       subst h5
       split at hv
       ·rename_i us ht
        split at hv
        ·rename_i lb hb
         rw [Mw] at hv
         cases hv
         obtain ⟨b',s',ys,tl,f1,f2,f3,f4,f5⟩:=eH hs hg
         rw [e1] at f1
         cases f1
         obtain ⟨rfl,hlen⟩:=eR ht
         have hyl:=f3.len
         obtain ⟨g1,g2⟩:=uO hb (f3.take n)
         have hln:lb.length=n:=by rw [g1,List.length_take];omega
         have hsh:w.shape? bb=some (t0,(ys++tl).length):=by simp [World.shape?,f2]
         have hcell:∀ j x,lb[j]?=some x→w.cell? ((⟨bb,0,none⟩:Addr).add j)=some (.int .u8 x.toNat):=fun j x hj=>by
          rw [gD f2]
          have hlt:=(List.getElem?_eq_some_iff.1 hj).1
          have h6:(ys.take n)[j]?=some (.int .u8 x.toNat):=by
           rw [g2,List.getElem?_map,hj]
           rfl
          rw [List.getElem?_take_of_lt (by omega)] at h6
          have hlt2:=(List.getElem?_eq_some_iff.1 h6).1
          simp only [List.getElem?_toArray,Nat.zero_add]
          rw [List.getElem?_append_left hlt2]
          exact h6
         have hr:=fun ty=>run_unsafeString_row (P:=P) (w:=w) t u ty t0 h1 hce bb _ hsh lb (by rintro rfl;exact h0 hln.symm) (by rw [List.length_append];omega) xj hcell
         refine ⟨.string ⟨lb.toArray⟩,_,ρ,fun o ho=>.inl (uH ho hc ?_),.s _,dH.adm hs (by rw [show at_ h b=_ from hg];simp) e1 (w1:=w.freeze ⟨bb,0,none⟩ lb.length) ?_ ?_ ?_ ?_ ?_⟩
         ·rw [ht0,ha]
          rw [hln] at hr ⊢
          exact hr o.type
         ·intro k hk
          unfold World.freeze
          split
          ·rfl
          ·simp [Array.getElem?_modify,Ne.symm hk]
         ·unfold World.freeze;split <;> simp
         ·unfold World.freeze;split <;> rfl
         ·unfold World.freeze;split <;> rfl
         ·unfold World.freeze;split <;> rfl
        ·cases hv
       ·cases hv
      ·cases hv
  ·cases hv
end
end E
namespace E
inductive uP (P:Program) (op:Op) (ins:I):Prop
 | q:gz ins=.q→aC P op ins→uP P op ins
 | a:gz ins=.a→uG P op ins→uP P op ins
 | e:gz ins=.e→jo P op ins→(∀ fn l,ins≠.c fn l)→uP P op ins
 | c {c:Call} {fo:Operand} {fd:cu} {l:List cu}:op=.call c→c.callee=.value fo→cO fo=some fd→el c.args.toList=some l→ins=.c fd l→uP P op ins
universe u v
theorem nX {b:Bool} {α:Type u} {x:Option α} {r:α} (h:(bif b then x else none)=some r):b=true∧x=some r:=by
 cases b with
 | true=>exact ⟨rfl,h⟩
 | false=>cases h
theorem MQ {b:Bool} {α:Type u} {x:Option α} {r:α} (h:(bif b then none else x)=some r):b=false∧x=some r:=by
 cases b with
 | true=>cases h
 | false=>exact ⟨rfl,h⟩
theorem ik {α:Type u} {β:Type v} {x:Option α} {f:α→β} {r:β} (h:x.map f=some r):∃ a,x=some a∧f a=r:=Option.map_eq_some_iff.1 h
section
variable {P:Program} {ins:I}
theorem SB {c:Call} (h:cI P (.call c)=some ins):uP P (.call c) ins:=by
 unfold cI at h
 simp only at h
 split at h
 ·cases h
 ·rename_i l hl
  split at h
  ·rename_i f hc
   obtain ⟨fd,hf,rfl⟩:=ik h
   exact .c rfl hc hf hl rfl
  ·rename_i b hc
   split at h
   ·split at h <;> try (cases h;done)
    ·cases h
     exact .q rfl (Sm hl hc ww ww)
    ·cases h
     exact .q rfl (Sr hl hc ww ww)
    ·cases h
     exact .q rfl (Ss hl hc ww ww)
    ·split at h <;> try (cases h;done)
     cases h
     exact .q rfl (ME hl hc ww ww ww)
    ·cases h
     exact .q rfl (Sy hl hc ww ww)
   ·split at h <;> try (cases h;done)
    cases h
    exact .q rfl (Xe hl hc ww ww)
   ·cases h
    exact .q rfl (Xg hl hc)
   ·cases h
    exact .q rfl (Xh hl hc)
   ·rename_i t u ht
    split at h <;> try (cases h;done)
    rename_i e he
    split at h <;> try (cases h;done)
    rename_i sz by_ z hsz hby hz
    obtain ⟨hzl,h⟩:=nX h
    have hzl:=Nat.eq_of_beq_eq_true hzl
    have he':P.underlying t=some (.slice e):=by
     unfold fY at he
     split at he <;> cases he
     assumption
    split at h <;> try (cases h;done)
    ·cases h
     exact .e rfl (FL hl hc ht he' ww hsz hby hz hzl) (by intro _ _ h;cases h)
    ·rename_i d hni hd
     cases h
     exact .e rfl (Ko hl hc ht he' hd (fun k hk=>hni k hk) hsz hby hz hzl) (by intro _ _ h;cases h)
   ·rename_i t u ht
    split at h <;> try (cases h;done)
    rename_i e he
    have he':P.underlying t=some (.slice e):=by
     unfold fY at he
     split at he <;> cases he
     assumption
    split at h <;> try (cases h;done)
    cases h
    exact .e rfl (SA hl hc ht he' ww) (by intro _ _ h;cases h)
   ·rename_i t ht
    split at h <;> try (cases h;done)
    rename_i e he
    have he':P.underlying t=some (.slice e):=by
     unfold fY at he
     split at he <;> cases he
     assumption
    split at h <;> try (cases h;done)
    cases h
    exact .e rfl (MP hl hc ht he' ww) (by intro _ _ h;cases h)
   ·split at h <;> try (cases h;done)
    obtain ⟨_,h⟩:=nX h
    cases h
    exact .e rfl (Kq hl hc ww ww) (by intro _ _ h;cases h)
   ·cases h
    exact .q rfl (Xf hl hc)
   ·split at h <;> try (cases h;done)
    split at h <;> try (cases h;done)
    rename_i sz hsz
    obtain ⟨h1,h⟩:=nX h
    cases h
    have h1:=Nat.eq_of_beq_eq_true h1
    subst h1
    exact .e rfl (Xx hl hc ww ww hsz) (by intro _ _ h;cases h)
   ·cases h
  ·cases h
theorem Vv {op:Op} (h:cI P op=some ins):uP P op ins:=by
 cases op with
 | call c=>exact SB h
 | move x=>obtain ⟨d,hd,rfl⟩:=ik h;exact .q rfl (Sb hd)
 | assign x=>obtain ⟨d,hd,rfl⟩:=ik h;exact .q rfl (J9 hd)
 | pick c a b =>
  simp only [cI] at h
  split at h <;> try (cases h;done)
  cases h
  exact .q rfl (Sc ww ww ww)
 | alloc e=>obtain ⟨d,hd,rfl⟩:=ik h;exact .a rfl (ML hd)
 | box e x=>obtain ⟨d,hd,rfl⟩:=ik h;exact .a rfl (Xu hd)
 | build t ps =>
  simp only [cI] at h
  split at h <;> try (cases h;done)
  rename_i l z d hl hz hd
  split at h <;> try (cases h;done)
  rename_i tab ht
  split at h <;> try (cases h;done)
  cases h
  refine .q rfl (MG (tab:=tab) hl hz hd ?_ ww)
  rw [← ht]
  cases d <;> rfl
 | buildSlice t len ps =>
  simp only [cI] at h
  split at h <;> try (cases h;done)
  rename_i l e hl he
  have he':P.underlying t=some (.slice e):=by
   unfold fY at he
   split at he <;> cases he
   assumption
  split at h <;> try (cases h;done)
  split at h <;> try (cases h;done)
  obtain ⟨h1,h⟩:=nX h
  rw [Bool.and_eq_true,blt_eq] at h1
  cases h
  exact .a rfl (xg hl he' ww ww ww (of_decide_eq_true h1.1) (Nat.eq_of_beq_eq_true h1.2))
 | load t x =>
  simp only [cI] at h
  split at h <;> try (cases h;done)
  ·cases h
   exact .q rfl (MH ww ww ww)
  ·cases h
   exact .q rfl (MI ww ww)
 | store t x y =>
  simp only [cI] at h
  split at h <;> try (cases h;done)
  cases h
  exact .e rfl (MM ww ww) (by intro _ _ h;cases h)
 | nilCheck x=>obtain ⟨d,hd,rfl⟩:=ik h;exact .q rfl (CD hd)
 | binOp op t x y u =>
  simp only [cI] at h
  split at h <;> try (cases h;done)
  cases h
  exact .q rfl (Xq ww ww ww)
 | unOp op t x =>
  simp only [cI] at h
  split at h <;> try (cases h;done)
  cases h
  rename_i hf
  cases op <;> cases hf
  ·exact .q rfl (Xc ww)
  ·exact .q rfl (Xd ww)
 | convert s d x =>
  simp only [cI] at h
  split at h <;> try (cases h;done)
  ·cases h
   exact .q rfl (Sf ww ww ww)
  ·cases h
   exact .q rfl (MB ww ww ww)
  ·split at h <;> try (cases h;done)
   cases h
   exact .q rfl (Xt ww ww ww ww)
  ·split at h <;> try (cases h;done)
   cases h
   exact .q rfl (Xs ww ww ww ww)
  ·split at h <;> try (cases h;done)
   obtain ⟨h1,h⟩:=MQ h
   cases h
   exact .q rfl (Xr ww ww ww ww (Nat.ne_of_beq_eq_false h1))
 | makeFunc fn a c=>obtain ⟨d,hd,rfl⟩:=ik h;exact .q rfl (CE hd)
 | makeMap t r =>
  simp only [cI] at h
  split at h <;> try (cases h;done)
  cases h
  exact .a rfl (FJ ww ww)
 | makeSlice t l c =>
  simp only [cI] at h
  split at h <;> try (cases h;done)
  rename_i l e hl he
  have he':P.underlying t=some (.slice e):=by
   unfold fY at he
   split at he <;> cases he
   assumption
  split at h <;> try (cases h;done)
  obtain ⟨h1,h⟩:=nX h
  rw [Bool.and_eq_true,blt_eq] at h1
  cases h
  exact .a rfl (yS hl he' ww ww ww (Nat.eq_of_beq_eq_true h1.2) (of_decide_eq_true h1.1))
 | slice t x lo hi mx =>
  simp only [cI] at h
  split at h <;> try (cases h;done)
  ·cases h
   exact .q rfl (Ke ww ww)
  ·split at h <;> try (cases h;done)
   cases h
   exact .q rfl (Kh ww ww ww)
  ·split at h <;> try (cases h;done)
   cases h
   exact .q rfl (Kg ww ww ww)
 | fieldAddr s x i =>
  simp only [cI] at h
  split at h <;> try (cases h;done)
  split at h <;> try (cases h;done)
  split at h <;> try (cases h;done)
  obtain ⟨h1,h⟩:=MQ h
  cases h
  exact .q rfl (yQ ww ww ww ww (Nat.ne_of_beq_eq_false h1))
 | field t x i =>
  simp only [cI] at h
  split at h <;> try (cases h;done)
  split at h <;> try (cases h;done)
  split at h <;> try (cases h;done)
  cases h
  exact .q rfl (MC ww ww ww ww ww)
 | indexAddr t x i =>
  simp only [cI] at h
  split at h <;> try (cases h;done)
  ·split at h <;> try (cases h;done)
   cases h
   exact .q rfl (xc ww ww ww ww)
  ·split at h <;> try (cases h;done)
   cases h
   exact .q rfl (xd ww ww ww ww)
 | index t x i =>
  simp only [cI] at h
  split at h <;> try (cases h;done)
  ·split at h <;> try (cases h;done)
   cases h
   exact .q rfl (Kb ww ww ww ww ww)
  ·cases h
   exact .q rfl (Kc ww ww ww)
 | lookup t x k ok =>
  simp only [cI] at h
  split at h <;> try (cases h;done)
  split at h <;> try (cases h;done)
  obtain ⟨_,h⟩:=nX h
  cases h
  exact .q rfl (Ki ww ww ww)
 | mapUpdate t m k x =>
  simp only [cI] at h
  split at h <;> try (cases h;done)
  obtain ⟨_,h⟩:=nX h
  cases h
  exact .e rfl (yT ww ww) (by intro _ _ h;cases h)
 | mapEntry t m k =>
  simp only [cI] at h
  split at h <;> try (cases h;done)
  split at h <;> try (cases h;done)
  obtain ⟨_,h⟩:=nX h
  cases h
  exact .e rfl (CP ww ww ww) (by intro _ _ h;cases h)
 | entryStore t m s x=>obtain ⟨d,hd,rfl⟩:=ik h;exact .e rfl (xh hd) (by intro _ _ h;cases h)
 | range t x =>
  simp only [cI] at h
  split at h <;> try (cases h;done)
  ·cases h
   exact .e rfl (Kk ww ww) (by intro _ _ h;cases h)
  ·cases h
   exact .e rfl (Kl ww ww) (by intro _ _ h;cases h)
 | next x isS =>
  obtain ⟨d,hd,rfl⟩:=ik h
  cases isS with
  | true=>exact .e rfl (MN hd) (by intro _ _ h;cases h)
  | false=>exact .e rfl (MO hd) (by intro _ _ h;cases h)
 | entry x=>obtain ⟨d,hd,rfl⟩:=ik h;exact .q rfl (MK hd)
 | extract x i=>obtain ⟨d,hd,rfl⟩:=ik h;exact .q rfl (FH hd)
 | _=>cases h
end
end E
namespace E
open Go.RowKit
universe u' v'
theorem Kr {α:Type u'} {β:Type v'} {x:Option α} {K:α→Option β} {r:β} (h:Option.rec (motive:=fun _=>Option β) none K x=some r):∃ v,x=some v∧K v=some r:=by
 cases x with
 | none=>cases h
 | some v=>exact ⟨v,rfl,h⟩
structure FD (ρ:Rn) (f:Fr) (fr:F):Prop where
 slot:∀ t v,at_ fr t=some v→Den ρ v (f t)
 uQ:∀ g,g<1000→∃ sz,ρ g=some (g,sz)
def tD (ρ:Rn) (nx:Nat):Prop:=∀ m,nx≤m→ρ m=none
theorem FD.ext {ρ ρ':Rn} {f:Fr} {fr:F} (h:FD ρ f fr) (e:Ext ρ ρ'):FD ρ' f fr:=⟨fun t v hv=>(h.slot t v hv).ext e,fun g hg=>(h.uQ g hg).imp fun _ k=>e _ _ k⟩
theorem FD.put {ρ:Rn} {f:Fr} {fr:F} {v:V} {x:Value} (h:FD ρ f fr) (hv:Den ρ v x) (d:Nat):FD ρ (cw f d x) (dL fr d (some v)):=by
 refine ⟨fun t u hu=>?_,h.uQ⟩
 rw [cg] at hu
 unfold cw
 split at hu
 ·rename_i e
  cases hu
  rw [e,show Nat.beq d d=true from Nat.beq_refl d]
  exact hv
 ·rename_i e
  rw [show Nat.beq t d=false from by rw [bE];exact decide_eq_false e]
  exact h.slot t u hu
theorem FD.on {ρ:Rn} {f:Fr} {fr:F} (h:FD ρ f fr) (xs:List Operand):xb ρ f fr xs:=by
 intro x _ d v hd hv
 cases x with
 | tmp t =>
  cases hd
  exact h.slot t v hv
 | const c =>
  obtain ⟨u,hu,rfl⟩:=ik (show (Wi c).map cu.k=some d from hd)
  cases hv
  exact fM hu
 | global g =>
  obtain ⟨h1,h2⟩:=nX (show (bif Nat.blt g 1000 then some (cu.k (.p (some (g,0)))) else none)=some d from hd)
  cases h2
  cases hv
  rw [blt_eq] at h1
  obtain ⟨sz,hg⟩:=h.uQ g (of_decide_eq_true h1)
  exact .p hg
 | func g =>
  cases hd
  cases hv
  exact Den.f (xs:=[]) (ys:=[]) .nil .nil
noncomputable def FM (dst:Option (List Dg)) (fr:F) (v:V):F:=match dst with|none=>fr|some p=>mU p fr (some v)
theorem iC {β:Type} (dst:Option (List Dg)) (fr:F) (v:V) (K:F→β):mj dst fr v K=K (FM dst fr v):=by
 cases dst with
 | none=>rfl
 | some p=>exact jt _ _ _ _
def jS (P:Program) (call:dB):Prop:=∀ {g vs h nx v h' aL ρ w xs},call g vs h nx=some (v,h',aL)→aT ρ vs xs→Sat ρ h w→tD ρ nx→(∀ g,g<1000→∃ sz,ρ g=some (g,sz)) →
 WU (bn P) (fun x w'=>∃ ρ',Den ρ' v x∧dH ρ h nx w ρ' h' aL w') ((callFunc g xs.toArray).run P w)
section
variable {P:Program} {call:dB} {ρ:Rn} {f:Fr} {fr:F} {h:H} {nx:Nat} {w:World} {o:Oper} {ins:I}
theorem CR {c:Call} {fo:Operand} {g:FuncId} {first cap:List Value} {xs:List Value} (ho:o.op=.call c) (hc:c.callee=.value fo) (hf:ev f fo=.func (.func g) first.toArray cap.toArray) (hx:c.args.map (ev f)=xs.toArray) :
  (execOp (ev f) o).run P w=(callFunc g (first++(xs++cap)).toArray).run P w:=by
 have e:first.toArray++xs.toArray++cap.toArray=(first++(xs++cap)).toArray:=by simp
 simp only [execOp,ho,resolve,hc,Deferred.ofValue,hf,Sem.run_bind,Sem.run_pure,Result.andThen_ok,invoke,hx,e]
theorem Xy (hC:jS P call) (hI:uP P o.op ins) (hcl:gz ins=.e) (hD:FD ρ f fr) (hs:Sat ρ h w) (hf:tD ρ nx) {v:V} {h':H} {aL:Nat} (ha:J6 call ins fr h nx=some (v,h',aL)) :
  WO P (bn P) o f w fun x w'=>∃ ρ',Den ρ' v x∧dH ρ h nx w ρ' h' aL w':=by
 unfold WO
 cases hI with
 | q e _=>rw [e] at hcl;cases hcl
 | a e _=>rw [e] at hcl;cases hcl
 | e _ hA _ =>
  obtain ⟨x,w',ρ',h1,h2,h3⟩:=hA (hD.on _) hs hf ha
  rcases h1 o rfl with k1|⟨k1,k2⟩
  ·rw [k1];exact ⟨ρ',h2,h3⟩
  ·rw [k1];subst k2;exact ⟨ρ',h2,h3⟩
 | @c c fo fd l ho hc hfo hl hins =>
  subst hins
  obtain ⟨u,h1,h2⟩:=iM ha
  have hu:=hD.on [fo] fo (by simp) fd u hfo h1
  split at h2
  ·rename_i g first cap
   obtain ⟨vs,h3,h4⟩:=iM h2
   have hvs:=iN (hD.on c.args.toList) hl h3
   generalize hev:ev f fo=fv at hu
   cases hu with
   | @f _ _ _ xs ys hx hy =>
    rw [CR ho hc hev (cF rfl)]
    exact hC h4 (hx.append (hvs.append hy)) hs hf hD.uQ
  ·cases h2
theorem look_ok (hI:uP P o.op ins) (hcl:gz ins=.q) (hD:xb ρ f fr o.op.operands.toList) (hs:Sat ρ h w) {v:V} (ha:look ins fr h=some v):∃ x,(execOp (ev f) o).run P w=.ok (.value x) w∧Den ρ v x:=by
 cases hI with
 | q _ hL =>
  obtain ⟨x,h1,h2⟩:=hL hD hs ha
  exact ⟨x,h1 o rfl,h2⟩
 | a e _=>rw [e] at hcl;cases hcl
 | e e _ _=>rw [e] at hcl;cases hcl
 | c _ _ _ _ e=>rw [e] at hcl;cases hcl
theorem MR (hI:uP P o.op ins) (hcl:gz ins=.a) (hD:xb ρ f fr o.op.operands.toList) {nm:Nat} {v:V} {ob:O} (ha:news ins fr nm=some (v,ob)) :
  ∃ x ob' sz,(execOp (ev f) o).run P w=.ok (.value x) (w.alloc ob')∧∀ ρ',Ext ρ ρ'→ρ' nm=some (w.heap.size,sz)→Den ρ' v x∧iL ρ' ob ob' sz:=by
 cases hI with
 | q e _=>rw [e] at hcl;cases hcl
 | a _ hN =>
  obtain ⟨x,ob',sz,h1,h2⟩:=hN (w:=w) hD ha
  exact ⟨x,ob',sz,h1 o rfl,h2⟩
 | e e _ _=>rw [e] at hcl;cases hcl
 | c _ _ _ _ e=>rw [e] at hcl;cases hcl
theorem SC (hC:jS P call) (hI:uP P o.op ins) (hD:FD ρ f fr) (hs:Sat ρ h w) (hf:tD ρ nx) {dst:Option (List Dg)} {K:F→H→Nat→RR} {r:F×H×Nat} (ha:Mr call ins dst fr h nx K=some r) :
  ∃ v h' aL,K (FM dst fr v) h' aL=some r∧WO P (bn P) o f w fun x w'=>∃ ρ',Den ρ' v x∧dH ρ h nx w ρ' h' aL w':=by
 unfold Mr at ha
 cases hcl:gz ins with
 | q =>
  rw [hcl] at ha
  obtain ⟨v,h1,h2⟩:=iM ha
  rw [iC] at h2
  obtain ⟨x,h3,h4⟩:=look_ok hI hcl (hD.on _) hs h1
  refine ⟨v,h,nx,h2,?_⟩
  unfold WO
  rw [h3]
  exact ⟨ρ,h4,dH.refl hs _⟩
 | a =>
  rw [hcl] at ha
  obtain ⟨⟨v,x⟩,h1,h2⟩:=iM ha
  replace h2:(h.dE nx x fun h'=>mj dst fr v fun fr'=>K fr' h' (nx+1))=some r:=h2
  rw [dh,iC] at h2
  obtain ⟨y,ob',sz,h3,h4⟩:=MR (w:=w) hI hcl (hD.on _) h1
  obtain ⟨h5,h6⟩:=h4 (nU ρ nx (w.heap.size,sz)) (dp (hf nx (Nat.le_refl _))) (cQ _ _ _)
  refine ⟨v,_,_,h2,?_⟩
  unfold WO
  rw [h3]
  exact ⟨_,h5,dH.alloc hs (hf nx (Nat.le_refl _)) h6⟩
 | e =>
  rw [hcl] at ha
  obtain ⟨⟨v,h',aL⟩,h1,h2⟩:=iM ha
  replace h2:(mj dst fr v fun fr'=>K fr' h' aL)=some r:=h2
  rw [iC] at h2
  exact ⟨v,h',aL,h2,Xy hC hI hcl hD hs hf h1⟩
theorem FD.MS (hD:FD ρ f fr) {v:V} {x:Value} (hv:Den ρ v x) (d:Option Nat):FD ρ (cH f d x) (FM (d.map path) fr v):=by
 cases d with
 | none=>exact hD
 | some d=>exact hD.put hv d
theorem Z7 (op:Op):cJ P op=cI P op:=by
 cases op <;> kernel_rfl
theorem CS {n:Nat} {ops:List Oper} {c:CI} (hc:R5 P n ops o=some c):∃ ins g,c=.mk ins (o.dst.map path) g∧cI P o.op=some ins∧cG ops o.guard=some g∧fx n o.dst=true:=by
 unfold R5 at hc
 rw [Z7] at hc
 split at hc
 ·rename_i ins g h1 h2
  split at hc
  ·rename_i hd
   cases hc
   exact ⟨ins,g,by rw [hd];rfl,h1,h2,by rw [hd];rfl⟩
  ·rename_i d hd
   obtain ⟨h3,hc⟩:=nX hc
   cases hc
   exact ⟨ins,g,by rw [hd];rfl,h1,h2,by rw [hd];exact h3⟩
 ·cases hc
theorem Ij {n:Nat} {a:Act} {ops:List Oper} {g:Option (List Dg×Bool)} {b:Bool} (ha:Is n a f) (hg:cG ops o.guard=some g) (hw:Ia fr g=some b)
  (hD:∀ d v,(∃ j c oj,o.guard=some (j,c)∧ops[j]?=some oj∧oj.dst=some d)→at_ fr d=some v→Den ρ v (f d)):Region.wanted o (yielded ops.toArray a.tmps)=b:=by
 unfold cG at hg
 split at hg
 ·rename_i he
  cases hg
  cases hw
  simp [Region.wanted,he]
 ·rename_i j c he
  split at hg
  ·rename_i oj hj
   split at hg
   ·rename_i d hd
    cases hg
    obtain ⟨v,h1,h2⟩:=iM hw
    cases h2
    have hv:=hD d v ⟨j,c,oj,he,hj,hd⟩ h1
    have h3:=ha.get d
    have hb:(ops.toArray[j]?).bind (·.dst)=some d:=by simp [hj,hd]
    simp only [Region.wanted,he,yielded,hb,Option.bind_some]
    rw [Array.getD_eq_getD_getElem?] at h3
    cases ht:a.tmps[d]? with
    | none =>
     rw [ht] at h3
     rw [← h3] at hv
     have hu:Den ρ v (.tuple [].toArray):=hv
     generalize hx:(Value.tuple [].toArray)=x at hu
     cases hu <;> first|rfl|cases hx
    | some u =>
     rw [ht] at h3
     replace h3:u=f d:=h3
     rw [← h3] at hv
     cases hv <;> first|rfl|(rename_i x;cases x <;> cases c <;> rfl)
   ·cases hg
  ·cases hg
theorem MT {n:Nat} {ops:Array Oper} {Q:Exit→Fr→World→Prop} {l:List Oper} {a:Act} (h:WL P ops n Q l f w) (ha:Is n a f):wpList P ops (RQ n Q) l a w:=by
 unfold WL at h
 exact h a ha
theorem yX {n:Nat} {ops:List Oper} {Q:Exit→Fr→World→Prop} (hC:jS P call):∀ {l:List Oper} {ρ:Rn} {f:Fr} {fr fr':F} {h h':H} {nx aL:Nat} {w:World},R7 P n call ops l fr h nx=some (fr',h',aL)→FD ρ f fr→Sat ρ h w→tD ρ nx →
  (∀ ρ' f' w',dH ρ h nx w ρ' h' aL w'→FD ρ' f' fr'→Q .normal f' w')→WL P ops.toArray n Q l f w
 | [],ρ,f,fr,fr',h,h',nx,aL,w,hr,hD,hs,hf,hq=>by
  cases hr
  exact cm (hq ρ f w (dH.refl hs _) hD)
 | o::l,ρ,f,fr,fr',h,h',nx,aL,w,hr,hD,hs,hf,hq=>by
  obtain ⟨c,h1,h2⟩:=Kr hr
  obtain ⟨ins,g,rfl,hI,hg,hd⟩:=CS h1
  obtain ⟨b,h3,h4⟩:=iM h2
  unfold WL
  intro a ha
  refine wpList_step fun K hK=>?_
  rw [Ij ha hg h3 (fun d v _ hv=>hD.slot d v hv)]
  cases b with
  | false =>
   replace h4:(mj (o.dst.map path) fr undef fun fr'=>R7 P n call ops l fr' h nx)=some (fr',h',aL):=h4
   rw [iC] at h4
   simp only [Bool.false_eq_true,if_false]
   exact hK _ _ (MT (yX hC h4 (hD.MS jI _) hs hf hq) (ha.put o.dst Go.undef hd))
  | true =>
   obtain ⟨v,h5,nx5,h6,h7⟩:=SC (o:=o) hC (Vv hI) hD hs hf h4
   simp only [if_true]
   refine gF ha h7 fun x w' hk=>?_
   obtain ⟨ρ',k1,k2⟩:=hk
   exact hK _ _ (MT (yX hC h6 ((hD.ext k2.ext).MS k1 _) k2.sat (k2.free hf) (fun ρ2 f2 w2 s2 d2=>hq ρ2 f2 w2 (k2.trans s2) d2)) (ha.put o.dst x hd))
end
end E
end Go.Proofs.YtlmabdegojeheaaGreatDoor
