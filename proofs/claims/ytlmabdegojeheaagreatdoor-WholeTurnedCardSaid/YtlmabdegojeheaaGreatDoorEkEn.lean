/- WholeTurned: parts of its proof (Ek El Em En). -/
import Derived.Test.YtlmabdegojeheaaGreatDoorEiEj
import Derived.Test.YtlmabdegojeheaaGreatDoorEbEc
namespace Go.Proofs.YtlmabdegojeheaaGreatDoor
open R Go.RowKit
namespace E
inductive uP (P:Program) (op:Op) (ins:I):Prop
 | q:gz ins=.q→aC P op ins→uP P op ins
 | a:gz ins=.a→uG P op ins→uP P op ins
 | e:gz ins=.e→jo P op ins→(∀ fn l,ins≠.c fn l)→uP P op ins
 | c {c:Call} {fo:Operand} {fd:cu} {l:List cu}:op=.call c→c.callee=.value fo→cO fo=some fd→el c.args.toList=some l→ins=.c fd l→uP P op ins
universe u v
theorem nX {b:Bool} {α:Type u} {x:Option α} {r:α} (h:(bif b then x else none)=some r):b=true∧x=some r:=by
 cases b with
 | true=>exact ⟨rfl,h⟩
 | false=>cases h
theorem MP {b:Bool} {α:Type u} {x:Option α} {r:α} (h:(bif b then none else x)=some r):b=false∧x=some r:=by
 cases b with
 | true=>cases h
 | false=>exact ⟨rfl,h⟩
theorem ik {α:Type u} {β:Type v} {x:Option α} {f:α→β} {r:β} (h:x.map f=some r):∃ a,x=some a∧f a=r:=Option.map_eq_some_iff.1 h
section
variable {P:Program} {ins:I}
theorem SA {c:Call} (h:cI P (.call c)=some ins):uP P (.call c) ins:=by
 unfold cI at h
 simp only at h
 split at h
 ·cases h
 ·rename_i l hl
  split at h
  ·rename_i f hc
   obtain ⟨fd,hf,rfl⟩:=ik h
   exact .c rfl hc hf hl rfl
  ·rename_i b hc
   split at h
   ·split at h <;> try (cases h;done)
    ·cases h
     exact .q rfl (Sj hl hc ww ww)
    ·cases h
     exact .q rfl (Sm hl hc ww ww)
    ·cases h
     exact .q rfl (Sr hl hc ww ww)
    ·split at h <;> try (cases h;done)
     cases h
     exact .q rfl (MC hl hc ww ww ww)
    ·cases h
     exact .q rfl (Sw hl hc ww ww)
   ·split at h <;> try (cases h;done)
    cases h
    exact .q rfl (Xc hl hc ww ww)
   ·cases h
    exact .q rfl (Xe hl hc)
   ·cases h
    exact .q rfl (Xf hl hc)
   ·rename_i t u ht
    split at h <;> try (cases h;done)
    rename_i e he
    split at h <;> try (cases h;done)
    rename_i sz by_ z hsz hby hz
    obtain ⟨hzl,h⟩:=nX h
    have hzl:=Nat.eq_of_beq_eq_true hzl
    have he':P.underlying t=some (.slice e):=by
     unfold fY at he
     split at he <;> cases he
     assumption
    split at h <;> try (cases h;done)
    ·cases h
     exact .e rfl (FL hl hc ht he' ww hsz hby hz hzl) (by intro _ _ h;cases h)
    ·rename_i d hni hd
     cases h
     exact .e rfl (Ko hl hc ht he' hd (fun k hk=>hni k hk) hsz hby hz hzl) (by intro _ _ h;cases h)
   ·rename_i t u ht
    split at h <;> try (cases h;done)
    rename_i e he
    have he':P.underlying t=some (.slice e):=by
     unfold fY at he
     split at he <;> cases he
     assumption
    split at h <;> try (cases h;done)
    cases h
    exact .e rfl (Sz hl hc ht he' ww) (by intro _ _ h;cases h)
   ·rename_i t ht
    split at h <;> try (cases h;done)
    rename_i e he
    have he':P.underlying t=some (.slice e):=by
     unfold fY at he
     split at he <;> cases he
     assumption
    split at h <;> try (cases h;done)
    cases h
    exact .e rfl (MO hl hc ht he' ww) (by intro _ _ h;cases h)
   ·split at h <;> try (cases h;done)
    obtain ⟨_,h⟩:=nX h
    cases h
    exact .e rfl (Kq hl hc ww ww) (by intro _ _ h;cases h)
   ·cases h
    exact .q rfl (Xd hl hc)
   ·split at h <;> try (cases h;done)
    split at h <;> try (cases h;done)
    rename_i sz hsz
    obtain ⟨h1,h⟩:=nX h
    cases h
    have h1:=Nat.eq_of_beq_eq_true h1
    subst h1
    exact .e rfl (Xv hl hc ww ww hsz) (by intro _ _ h;cases h)
   ·cases h
  ·cases h
theorem Vt {op:Op} (h:cI P op=some ins):uP P op ins:=by
 cases op with
 | call c=>exact SA h
 | move x=>obtain ⟨d,hd,rfl⟩:=ik h;exact .q rfl (Sa hd)
 | assign x=>obtain ⟨d,hd,rfl⟩:=ik h;exact .q rfl (J9 hd)
 | pick c a b =>
  simp only [cI] at h
  split at h <;> try (cases h;done)
  cases h
  exact .q rfl (Sb ww ww ww)
 | alloc e=>obtain ⟨d,hd,rfl⟩:=ik h;exact .a rfl (MK hd)
 | box e x=>obtain ⟨d,hd,rfl⟩:=ik h;exact .a rfl (Xs hd)
 | build t ps =>
  simp only [cI] at h
  split at h <;> try (cases h;done)
  rename_i l z d hl hz hd
  split at h <;> try (cases h;done)
  rename_i tab ht
  split at h <;> try (cases h;done)
  cases h
  refine .q rfl (MF (tab:=tab) hl hz hd ?_ ww)
  rw [← ht]
  cases d <;> rfl
 | buildSlice t len ps =>
  simp only [cI] at h
  split at h <;> try (cases h;done)
  rename_i l e hl he
  have he':P.underlying t=some (.slice e):=by
   unfold fY at he
   split at he <;> cases he
   assumption
  split at h <;> try (cases h;done)
  split at h <;> try (cases h;done)
  obtain ⟨h1,h⟩:=nX h
  rw [Bool.and_eq_true,blt_eq] at h1
  cases h
  exact .a rfl (xg hl he' ww ww ww (of_decide_eq_true h1.1) (Nat.eq_of_beq_eq_true h1.2))
 | load t x =>
  simp only [cI] at h
  split at h <;> try (cases h;done)
  ·cases h
   exact .q rfl (MG ww ww ww)
  ·cases h
   exact .q rfl (MH ww ww)
 | store t x y =>
  simp only [cI] at h
  split at h <;> try (cases h;done)
  cases h
  exact .e rfl (ML ww ww) (by intro _ _ h;cases h)
 | nilCheck x=>obtain ⟨d,hd,rfl⟩:=ik h;exact .q rfl (CD hd)
 | binOp op t x y u =>
  simp only [cI] at h
  split at h <;> try (cases h;done)
  cases h
  exact .q rfl (Xo ww ww ww)
 | unOp op t x =>
  simp only [cI] at h
  split at h <;> try (cases h;done)
  cases h
  rename_i hf
  cases op <;> cases hf
  ·exact .q rfl (Xa ww)
  ·exact .q rfl (Xb ww)
 | convert s d x =>
  simp only [cI] at h
  split at h <;> try (cases h;done)
  ·cases h
   exact .q rfl (Se ww ww ww)
  ·cases h
   exact .q rfl (Mz ww ww ww)
  ·split at h <;> try (cases h;done)
   cases h
   exact .q rfl (Xr ww ww ww ww)
  ·split at h <;> try (cases h;done)
   cases h
   exact .q rfl (Xq ww ww ww ww)
  ·split at h <;> try (cases h;done)
   obtain ⟨h1,h⟩:=MP h
   cases h
   exact .q rfl (Xp ww ww ww ww (Nat.ne_of_beq_eq_false h1))
 | makeFunc fn a c=>obtain ⟨d,hd,rfl⟩:=ik h;exact .q rfl (CE hd)
 | makeMap t r =>
  simp only [cI] at h
  split at h <;> try (cases h;done)
  cases h
  exact .a rfl (FJ ww ww)
 | makeSlice t l c =>
  simp only [cI] at h
  split at h <;> try (cases h;done)
  rename_i l e hl he
  have he':P.underlying t=some (.slice e):=by
   unfold fY at he
   split at he <;> cases he
   assumption
  split at h <;> try (cases h;done)
  obtain ⟨h1,h⟩:=nX h
  rw [Bool.and_eq_true,blt_eq] at h1
  cases h
  exact .a rfl (yS hl he' ww ww ww (Nat.eq_of_beq_eq_true h1.2) (of_decide_eq_true h1.1))
 | slice t x lo hi mx =>
  simp only [cI] at h
  split at h <;> try (cases h;done)
  ·cases h
   exact .q rfl (Ke ww ww)
  ·split at h <;> try (cases h;done)
   cases h
   exact .q rfl (Kh ww ww ww)
  ·split at h <;> try (cases h;done)
   cases h
   exact .q rfl (Kg ww ww ww)
 | fieldAddr s x i =>
  simp only [cI] at h
  split at h <;> try (cases h;done)
  split at h <;> try (cases h;done)
  split at h <;> try (cases h;done)
  obtain ⟨h1,h⟩:=MP h
  cases h
  exact .q rfl (yQ ww ww ww ww (Nat.ne_of_beq_eq_false h1))
 | field t x i =>
  simp only [cI] at h
  split at h <;> try (cases h;done)
  split at h <;> try (cases h;done)
  split at h <;> try (cases h;done)
  cases h
  exact .q rfl (MB ww ww ww ww ww)
 | indexAddr t x i =>
  simp only [cI] at h
  split at h <;> try (cases h;done)
  ·split at h <;> try (cases h;done)
   cases h
   exact .q rfl (xc ww ww ww ww)
  ·split at h <;> try (cases h;done)
   cases h
   exact .q rfl (xd ww ww ww ww)
 | index t x i =>
  simp only [cI] at h
  split at h <;> try (cases h;done)
  ·split at h <;> try (cases h;done)
   cases h
   exact .q rfl (Kb ww ww ww ww ww)
  ·cases h
   exact .q rfl (Kc ww ww ww)
 | lookup t x k ok =>
  simp only [cI] at h
  split at h <;> try (cases h;done)
  split at h <;> try (cases h;done)
  obtain ⟨_,h⟩:=nX h
  cases h
  exact .q rfl (Ki ww ww ww)
 | mapUpdate t m k x =>
  simp only [cI] at h
  split at h <;> try (cases h;done)
  obtain ⟨_,h⟩:=nX h
  cases h
  exact .e rfl (yT ww ww) (by intro _ _ h;cases h)
 | mapEntry t m k =>
  simp only [cI] at h
  split at h <;> try (cases h;done)
  split at h <;> try (cases h;done)
  obtain ⟨_,h⟩:=nX h
  cases h
  exact .e rfl (CP ww ww ww) (by intro _ _ h;cases h)
 | entryStore t m s x=>obtain ⟨d,hd,rfl⟩:=ik h;exact .e rfl (xh hd) (by intro _ _ h;cases h)
 | range t x =>
  simp only [cI] at h
  split at h <;> try (cases h;done)
  ·cases h
   exact .e rfl (Kk ww ww) (by intro _ _ h;cases h)
  ·cases h
   exact .e rfl (Kl ww ww) (by intro _ _ h;cases h)
 | next x isS =>
  obtain ⟨d,hd,rfl⟩:=ik h
  cases isS with
  | true=>exact .e rfl (MM hd) (by intro _ _ h;cases h)
  | false=>exact .e rfl (MN hd) (by intro _ _ h;cases h)
 | entry x=>obtain ⟨d,hd,rfl⟩:=ik h;exact .q rfl (MJ hd)
 | extract x i=>obtain ⟨d,hd,rfl⟩:=ik h;exact .q rfl (FH hd)
 | _=>cases h
end
end E
namespace E
universe u' v'
theorem Kr {α:Type u'} {β:Type v'} {x:Option α} {K:α→Option β} {r:β} (h:Option.rec (motive:=fun _=>Option β) none K x=some r):∃ v,x=some v∧K v=some r:=by
 cases x with
 | none=>cases h
 | some v=>exact ⟨v,rfl,h⟩
structure FD (ρ:Rn) (f:Fr) (fr:F):Prop where
 slot:∀ t v,at_ fr t=some v→Den ρ v (f t)
 uQ:∀ g,g<1000→∃ sz,ρ g=some (g,sz)
def tD (ρ:Rn) (nx:Nat):Prop:=∀ m,nx≤m→ρ m=none
theorem FD.ext {ρ ρ':Rn} {f:Fr} {fr:F} (h:FD ρ f fr) (e:Ext ρ ρ'):FD ρ' f fr:=⟨fun t v hv=>(h.slot t v hv).ext e,fun g hg=>(h.uQ g hg).imp fun _ k=>e _ _ k⟩
theorem FD.put {ρ:Rn} {f:Fr} {fr:F} {v:V} {x:Value} (h:FD ρ f fr) (hv:Den ρ v x) (d:Nat):FD ρ (cw f d x) (dL fr d (some v)):=by
 refine ⟨fun t u hu=>?_,h.uQ⟩
 rw [cg] at hu
 unfold cw
 split at hu
 ·rename_i e
  cases hu
  rw [e,show Nat.beq d d=true from Nat.beq_refl d]
  exact hv
 ·rename_i e
  rw [show Nat.beq t d=false from by rw [bE];exact decide_eq_false e]
  exact h.slot t u hu
theorem FD.on {ρ:Rn} {f:Fr} {fr:F} (h:FD ρ f fr) (xs:List Operand):xb ρ f fr xs:=by
 intro x _ d v hd hv
 cases x with
 | tmp t =>
  cases hd
  exact h.slot t v hv
 | const c =>
  obtain ⟨u,hu,rfl⟩:=ik (show (Wf c).map cu.k=some d from hd)
  cases hv
  exact fM hu
 | global g =>
  obtain ⟨h1,h2⟩:=nX (show (bif Nat.blt g 1000 then some (cu.k (.p (some (g,0)))) else none)=some d from hd)
  cases h2
  cases hv
  rw [blt_eq] at h1
  obtain ⟨sz,hg⟩:=h.uQ g (of_decide_eq_true h1)
  exact .p hg
 | func g =>
  cases hd
  cases hv
  exact Den.f (xs:=[]) (ys:=[]) .nil .nil
noncomputable def FM (dst:Option (List Dg)) (fr:F) (v:V):F:=match dst with|none=>fr|some p=>mU p fr (some v)
theorem iC {β:Type} (dst:Option (List Dg)) (fr:F) (v:V) (K:F→β):mj dst fr v K=K (FM dst fr v):=by
 cases dst with
 | none=>rfl
 | some p=>exact jt _ _ _ _
def jS (P:Program) (call:dB):Prop:=∀ {g vs h nx v h' aL ρ w xs},call g vs h nx=some (v,h',aL)→aT ρ vs xs→Sat ρ h w→tD ρ nx→(∀ g,g<1000→∃ sz,ρ g=some (g,sz)) →
 WU (bn P) (fun x w'=>∃ ρ',Den ρ' v x∧dH ρ h nx w ρ' h' aL w') ((callFunc g xs.toArray).run P w)
section
variable {P:Program} {call:dB} {ρ:Rn} {f:Fr} {fr:F} {h:H} {nx:Nat} {w:World} {o:Oper} {ins:I}
theorem CR {c:Call} {fo:Operand} {g:FuncId} {first cap:List Value} {xs:List Value} (ho:o.op=.call c) (hc:c.callee=.value fo) (hf:ev f fo=.func (.func g) first.toArray cap.toArray) (hx:c.args.map (ev f)=xs.toArray) :
  (execOp (ev f) o).run P w=(callFunc g (first++(xs++cap)).toArray).run P w:=by
 have e:first.toArray++xs.toArray++cap.toArray=(first++(xs++cap)).toArray:=by simp
 simp only [execOp,ho,resolve,hc,Deferred.ofValue,hf,Sem.run_bind,Sem.run_pure,Result.andThen_ok,invoke,hx,e]
theorem Xw (hC:jS P call) (hI:uP P o.op ins) (hcl:gz ins=.e) (hD:FD ρ f fr) (hs:Sat ρ h w) (hf:tD ρ nx) {v:V} {h':H} {aL:Nat} (ha:J6 call ins fr h nx=some (v,h',aL)) :
  WO P (bn P) o f w fun x w'=>∃ ρ',Den ρ' v x∧dH ρ h nx w ρ' h' aL w':=by
 unfold WO
 cases hI with
 | q e _=>rw [e] at hcl;cases hcl
 | a e _=>rw [e] at hcl;cases hcl
 | e _ hA _ =>
  obtain ⟨x,w',ρ',h1,h2,h3⟩:=hA (hD.on _) hs hf ha
  rcases h1 o rfl with k1|⟨k1,k2⟩
  ·rw [k1];exact ⟨ρ',h2,h3⟩
  ·rw [k1];subst k2;exact ⟨ρ',h2,h3⟩
 | @c c fo fd l ho hc hfo hl hins =>
  subst hins
  obtain ⟨u,h1,h2⟩:=iM ha
  have hu:=hD.on [fo] fo (by simp) fd u hfo h1
  split at h2
  ·rename_i g first cap
   obtain ⟨vs,h3,h4⟩:=iM h2
   have hvs:=iN (hD.on c.args.toList) hl h3
   generalize hev:ev f fo=fv at hu
   cases hu with
   | @f _ _ _ xs ys hx hy =>
    rw [CR ho hc hev (cF rfl)]
    exact hC h4 (hx.append (hvs.append hy)) hs hf hD.uQ
  ·cases h2
theorem look_ok (hI:uP P o.op ins) (hcl:gz ins=.q) (hD:xb ρ f fr o.op.operands.toList) (hs:Sat ρ h w) {v:V} (ha:look ins fr h=some v):∃ x,(execOp (ev f) o).run P w=.ok (.value x) w∧Den ρ v x:=by
 cases hI with
 | q _ hL =>
  obtain ⟨x,h1,h2⟩:=hL hD hs ha
  exact ⟨x,h1 o rfl,h2⟩
 | a e _=>rw [e] at hcl;cases hcl
 | e e _ _=>rw [e] at hcl;cases hcl
 | c _ _ _ _ e=>rw [e] at hcl;cases hcl
theorem MQ (hI:uP P o.op ins) (hcl:gz ins=.a) (hD:xb ρ f fr o.op.operands.toList) {nm:Nat} {v:V} {ob:O} (ha:news ins fr nm=some (v,ob)) :
  ∃ x ob' sz,(execOp (ev f) o).run P w=.ok (.value x) (w.alloc ob')∧∀ ρ',Ext ρ ρ'→ρ' nm=some (w.heap.size,sz)→Den ρ' v x∧iL ρ' ob ob' sz:=by
 cases hI with
 | q e _=>rw [e] at hcl;cases hcl
 | a _ hN =>
  obtain ⟨x,ob',sz,h1,h2⟩:=hN (w:=w) hD ha
  exact ⟨x,ob',sz,h1 o rfl,h2⟩
 | e e _ _=>rw [e] at hcl;cases hcl
 | c _ _ _ _ e=>rw [e] at hcl;cases hcl
theorem SB (hC:jS P call) (hI:uP P o.op ins) (hD:FD ρ f fr) (hs:Sat ρ h w) (hf:tD ρ nx) {dst:Option (List Dg)} {K:F→H→Nat→RR} {r:F×H×Nat} (ha:Mq call ins dst fr h nx K=some r) :
  ∃ v h' aL,K (FM dst fr v) h' aL=some r∧WO P (bn P) o f w fun x w'=>∃ ρ',Den ρ' v x∧dH ρ h nx w ρ' h' aL w':=by
 unfold Mq at ha
 cases hcl:gz ins with
 | q =>
  rw [hcl] at ha
  obtain ⟨v,h1,h2⟩:=iM ha
  rw [iC] at h2
  obtain ⟨x,h3,h4⟩:=look_ok hI hcl (hD.on _) hs h1
  refine ⟨v,h,nx,h2,?_⟩
  unfold WO
  rw [h3]
  exact ⟨ρ,h4,dH.refl hs _⟩
 | a =>
  rw [hcl] at ha
  obtain ⟨⟨v,x⟩,h1,h2⟩:=iM ha
  replace h2:(h.dE nx x fun h'=>mj dst fr v fun fr'=>K fr' h' (nx+1))=some r:=h2
  rw [dh,iC] at h2
  obtain ⟨y,ob',sz,h3,h4⟩:=MQ (w:=w) hI hcl (hD.on _) h1
  obtain ⟨h5,h6⟩:=h4 (nU ρ nx (w.heap.size,sz)) (dp (hf nx (Nat.le_refl _))) (cQ _ _ _)
  refine ⟨v,_,_,h2,?_⟩
  unfold WO
  rw [h3]
  exact ⟨_,h5,dH.alloc hs (hf nx (Nat.le_refl _)) h6⟩
 | e =>
  rw [hcl] at ha
  obtain ⟨⟨v,h',aL⟩,h1,h2⟩:=iM ha
  replace h2:(mj dst fr v fun fr'=>K fr' h' aL)=some r:=h2
  rw [iC] at h2
  exact ⟨v,h',aL,h2,Xw hC hI hcl hD hs hf h1⟩
theorem FD.MR (hD:FD ρ f fr) {v:V} {x:Value} (hv:Den ρ v x) (d:Option Nat):FD ρ (cH f d x) (FM (d.map path) fr v):=by
 cases d with
 | none=>exact hD
 | some d=>exact hD.put hv d
theorem Z5 (op:Op):cJ P op=cI P op:=by
 cases op <;> kernel_rfl
theorem CS {n:Nat} {ops:List Oper} {c:CI} (hc:R4 P n ops o=some c):∃ ins g,c=.mk ins (o.dst.map path) g∧cI P o.op=some ins∧cG ops o.guard=some g∧fx n o.dst=true:=by
 unfold R4 at hc
 rw [Z5] at hc
 split at hc
 ·rename_i ins g h1 h2
  split at hc
  ·rename_i hd
   cases hc
   exact ⟨ins,g,by rw [hd];rfl,h1,h2,by rw [hd];rfl⟩
  ·rename_i d hd
   obtain ⟨h3,hc⟩:=nX hc
   cases hc
   exact ⟨ins,g,by rw [hd];rfl,h1,h2,by rw [hd];exact h3⟩
 ·cases hc
theorem Ij {n:Nat} {a:Act} {ops:List Oper} {g:Option (List Dg×Bool)} {b:Bool} (ha:Is n a f) (hg:cG ops o.guard=some g) (hw:Ia fr g=some b)
  (hD:∀ d v,(∃ j c oj,o.guard=some (j,c)∧ops[j]?=some oj∧oj.dst=some d)→at_ fr d=some v→Den ρ v (f d)):Region.wanted o (yielded ops.toArray a.tmps)=b:=by
 unfold cG at hg
 split at hg
 ·rename_i he
  cases hg
  cases hw
  simp [Region.wanted,he]
 ·rename_i j c he
  split at hg
  ·rename_i oj hj
   split at hg
   ·rename_i d hd
    cases hg
    obtain ⟨v,h1,h2⟩:=iM hw
    cases h2
    have hv:=hD d v ⟨j,c,oj,he,hj,hd⟩ h1
    have h3:=ha.get d
    have hb:(ops.toArray[j]?).bind (·.dst)=some d:=by simp [hj,hd]
    simp only [Region.wanted,he,yielded,hb,Option.bind_some]
    rw [Array.getD_eq_getD_getElem?] at h3
    cases ht:a.tmps[d]? with
    | none =>
     rw [ht] at h3
     rw [← h3] at hv
     have hu:Den ρ v (.tuple [].toArray):=hv
     generalize hx:(Value.tuple [].toArray)=x at hu
     cases hu <;> first|rfl|cases hx
    | some u =>
     rw [ht] at h3
     replace h3:u=f d:=h3
     rw [← h3] at hv
     cases hv <;> first|rfl|(rename_i x;cases x <;> cases c <;> rfl)
   ·cases hg
  ·cases hg
theorem MS {n:Nat} {ops:Array Oper} {Q:Exit→Fr→World→Prop} {l:List Oper} {a:Act} (h:WL P ops n Q l f w) (ha:Is n a f):wpList P ops (RQ n Q) l a w:=by
 unfold WL at h
 exact h a ha
theorem yX {n:Nat} {ops:List Oper} {Q:Exit→Fr→World→Prop} (hC:jS P call):∀ {l:List Oper} {ρ:Rn} {f:Fr} {fr fr':F} {h h':H} {nx aL:Nat} {w:World},R5 P n call ops l fr h nx=some (fr',h',aL)→FD ρ f fr→Sat ρ h w→tD ρ nx →
  (∀ ρ' f' w',dH ρ h nx w ρ' h' aL w'→FD ρ' f' fr'→Q .normal f' w')→WL P ops.toArray n Q l f w
 | [],ρ,f,fr,fr',h,h',nx,aL,w,hr,hD,hs,hf,hq=>by
  cases hr
  exact cm (hq ρ f w (dH.refl hs _) hD)
 | o::l,ρ,f,fr,fr',h,h',nx,aL,w,hr,hD,hs,hf,hq=>by
  obtain ⟨c,h1,h2⟩:=Kr hr
  obtain ⟨ins,g,rfl,hI,hg,hd⟩:=CS h1
  obtain ⟨b,h3,h4⟩:=iM h2
  unfold WL
  intro a ha
  refine wpList_step fun K hK=>?_
  rw [Ij ha hg h3 (fun d v _ hv=>hD.slot d v hv)]
  cases b with
  | false =>
   replace h4:(mj (o.dst.map path) fr undef fun fr'=>R5 P n call ops l fr' h nx)=some (fr',h',aL):=h4
   rw [iC] at h4
   simp only [Bool.false_eq_true,if_false]
   exact hK _ _ (MS (yX hC h4 (hD.MR jI _) hs hf hq) (ha.put o.dst Go.undef hd))
  | true =>
   obtain ⟨v,h5,nx5,h6,h7⟩:=SB (o:=o) hC (Vt hI) hD hs hf h4
   simp only [if_true]
   refine gF ha h7 fun x w' hk=>?_
   obtain ⟨ρ',k1,k2⟩:=hk
   exact hK _ _ (MS (yX hC h6 ((hD.ext k2.ext).MR k1 _) k2.sat (k2.free hf) (fun ρ2 f2 w2 s2 d2=>hq ρ2 f2 w2 (k2.trans s2) d2)) (ha.put o.dst x hd))
end
end E
namespace E
def Z6:Ex→Exit
 | .n=>.normal
 | .x id=>.exit id
 | .r=>.ret
def EP (n:Nat) (ρ:Rn) (h:H) (nx:Nat) (w:World) (e:Ex) (fr':F) (h':H) (aL:Nat):Exit→Act→World→Prop:=fun e' a' w'=>e'=Z6 e∧∃ ρ' f',Is n a' f'∧FD ρ' f' fr'∧dH ρ h nx w ρ' h' aL w'
def yY (P:Program) (n:Nat) (call:dB):Prop:=∀ {ops:Array Oper} {id:Nat} {ρ:Rn} {f:Fr} {fr fr':F} {h h':H} {nx aL:Nat} {w:World} {a:Act},R7 P n call ops.toList fr h nx=some (fr',h',aL)→FD ρ f fr→Sat ρ h w→tD ρ nx→Is n a f →
 (Code.region id ops true).wp P (EP n ρ h nx w .n fr' h' aL) a w
section
variable {P:Program} {call:dB} {n:Nat}
theorem uR {x:XR} {K:Ex→F→H→Nat→XR} {r:Ex×F×H×Nat} (h:WI x K=some r):∃ e fr h nx,x=some (e,fr,h,nx)∧K e fr h nx=some r:=by
 obtain ⟨⟨e,fr,h,nx⟩,h1,h2⟩:=Kr h
 exact ⟨e,fr,h,nx,h1,h2⟩
theorem MT {x:RR} {K:F→H→Nat→XR} {r:Ex×F×H×Nat} (h:onR x K=some r):∃ fr h nx,x=some (fr,h,nx)∧K fr h nx=some r:=by
 obtain ⟨⟨fr,h,nx⟩,h1,h2⟩:=Kr h
 exact ⟨fr,h,nx,h1,h2⟩
theorem EP.on {ρ ρ1:Rn} {h h1:H} {nx nx1:Nat} {w w1:World} {e:Ex} {fr':F} {h':H} {aL:Nat} (s:dH ρ h nx w ρ1 h1 nx1 w1) {e':Exit} {a':Act} {w':World} (k:EP n ρ1 h1 nx1 w1 e fr' h' aL e' a' w'):EP n ρ h nx w e fr' h' aL e' a' w':=by
 obtain ⟨rfl,ρ',f',ha,hd,hs⟩:=k
 exact ⟨rfl,ρ',f',ha,hd,s.trans hs⟩
def MU (P:Program) (n:Nat) (call:dB) (c:Code):Prop:=∀ {ρ:Rn} {f:Fr} {fr fr':F} {h h':H} {nx aL:Nat} {w:World} {a:Act} {e:Ex},exec P n call c fr h nx=some (e,fr',h',aL)→FD ρ f fr→Sat ρ h w→tD ρ nx→Is n a f→c.wp P (EP n ρ h nx w e fr' h' aL) a w
theorem FN (body:F→H→Nat→XR) (m:Nat) (fr:F) (h:H) (nx:Nat):Cx body (m+1) fr h nx=WI (body fr h nx) fun e fr' h' aL=>Ex.rec (motive:=fun _=>XR) (Cx body m fr' h' aL) (fun id=>some (.x id,fr',h',aL)) (some (.r,fr',h',aL)) e:=rfl
theorem pX {c:Code} {Q Q':Exit→Act→World→Prop} (hq:∀ e a w,Q e a w→Q' e a w):∀ {m:Nat} {a:Act} {w:World},Code.rounds P c Q m a w→Code.rounds P c Q' m a w
 | 0,_,_,h=>h
 | m+1,a,w,h=>by
  rw [rounds_succ] at *
  refine wp_mono h fun e a' w' k=>?_
  cases e with
  | normal=>exact pX hq k
  | _=>exact hq _ _ _ k
theorem Ik {c:Code} (ih:MU P n call c):∀ (m:Nat) {ρ:Rn} {f:Fr} {fr fr':F} {h h':H} {nx aL:Nat} {w:World} {a:Act} {e:Ex},Cx (exec P n call c) m fr h nx=some (e,fr',h',aL)→FD ρ f fr→Sat ρ h w→tD ρ nx→Is n a f→Code.rounds P c (EP n ρ h nx w e fr' h' aL) m a w
 | 0,ρ,f,fr,fr',h,h',nx,aL,w,a,e,hr,_,_,_,_=>by cases hr
 | m+1,ρ,f,fr,fr',h,h',nx,aL,w,a,e,hr,hD,hs,hf,ha=>by
  obtain ⟨e1,fr1,h1,nx1,k1,k2⟩:=uR ((FN _ _ _ _ _).symm.trans hr)
  rw [rounds_succ]
  refine wp_mono (ih k1 hD hs hf ha) fun e' a' w' he=>?_
  obtain ⟨rfl,ρ',f',ha',hD',st⟩:=he
  cases e1 with
  | n =>
   have:=Ik ih m k2 hD' st.sat (st.free hf) ha'
   show Code.rounds P c (EP n ρ h nx w e fr' h' aL) m a' w'
   exact pX (fun e2 a2 w2 k=>k.on st) this
  | x id =>
   cases k2
   exact ⟨rfl,ρ',f',ha',hD',st⟩
  | r =>
   cases k2
   exact ⟨rfl,ρ',f',ha',hD',st⟩
section
variable (c x y:Code) (fr:F) (h:H) (nx:Nat)
theorem CT (id:Nat) (ops:Array Oper) (draw:Bool):exec P n call (.region id ops draw) fr h nx=onR (bif draw then R7 P n call ops.toList fr h nx else R5 P n call ops.toList ops.toList fr h nx) fun fr' h' aL=>some (.n,fr',h',aL):=rfl
theorem MV:exec P n call (.seq x y) fr h nx=WI (exec P n call x fr h nx) fun e fr' h' aL=>Ex.rec (motive:=fun _=>XR) (exec P n call y fr' h' aL) (fun id=>some (.x id,fr',h',aL)) (some (.r,fr',h',aL)) e:=rfl
theorem Ks (o:Operand):exec P n call (.cond o x y) fr h nx=Option.rec (motive:=fun _=>XR) none (fun d=>Option.rec (motive:=fun _=>XR) none (fun v=>match v with|.b t=>Bool.rec (motive:=fun _=>XR) (exec P n call y fr h nx) (exec P n call x fr h nx) t|_=>none) (Mp fr d)) (cO o):=rfl
theorem FO (id:Nat):exec P n call (.block id c) fr h nx=WI (exec P n call c fr h nx) fun e fr' h' aL=>Ex.rec (motive:=fun _=>XR) (some (.n,fr',h',aL)) (fun j=>bif Nat.beq j id then some (.n,fr',h',aL) else some (.x j,fr',h',aL)) (some (.r,fr',h',aL)) e:=rfl
theorem Kt:exec P n call (.loop c) fr h nx=Cx (exec P n call c) 100000 fr h nx:=rfl
end
theorem SC (hC:jS P call) (hW:yY P n call):∀ c:Code,MU P n call c:=by
 intro c
 induction c with
 | skip =>
  intro ρ f fr fr' h h' nx aL w a e hr hD hs hf ha
  cases hr
  exact wp_skip ⟨rfl,ρ,f,ha,hD,dH.refl hs _⟩
 | region id ops draw =>
  intro ρ f fr fr' h h' nx aL w a e hr hD hs hf ha
  obtain ⟨fr1,h1,nx1,k1,k2⟩:=MT ((CT _ _ _ _ _ _).symm.trans hr)
  cases k2
  cases draw with
  | true=>exact hW k1 hD hs hf ha
  | false =>
   have:=yX (Q:=fun e' f' w'=>e'=.normal∧∃ ρ',FD ρ' f' fr'∧dH ρ h nx w ρ' h' aL w') hC k1 hD hs hf fun ρ' f' w' st d=>⟨rfl,ρ',d,st⟩
   have h2:=wp_region_lit (id:=id) (MS this ha)
   simp only [Array.toArray_toList] at h2
   refine wp_mono h2 fun e' a' w' k=>?_
   obtain ⟨f',ha',rfl,ρ',d,st⟩:=k
   exact ⟨rfl,ρ',f',ha',d,st⟩
 | seq x y ihx ihy =>
  intro ρ f fr fr' h h' nx aL w a e hr hD hs hf ha
  obtain ⟨e1,fr1,h1,nx1,k1,k2⟩:=uR ((MV _ _ _ _ _).symm.trans hr)
  refine wp_seq (wp_mono (ihx k1 hD hs hf ha) fun e' a' w' he=>?_)
  obtain ⟨rfl,ρ',f',ha',hD',st⟩:=he
  cases e1 with
  | n=>exact wp_mono (ihy k2 hD' st.sat (st.free hf) ha') fun e2 a2 w2 k=>k.on st
  | x id =>
   cases k2
   exact ⟨rfl,ρ',f',ha',hD',st⟩
  | r =>
   cases k2
   exact ⟨rfl,ρ',f',ha',hD',st⟩
 | cond c x y ihx ihy =>
  intro ρ f fr fr' h h' nx aL w a e hr hD hs hf ha
  obtain ⟨d,h1,h2⟩:=Kr ((Ks _ _ _ _ _ _).symm.trans hr)
  obtain ⟨v,h3,h4⟩:=Kr h2
  have hv:=hD.on [c] c (by simp) d v h1 h3
  split at h4
  ·rename_i t
   generalize hx:ev f c=x at hv
   cases hv
   refine wp_cond_split (t:=t) (by rw [ha.eval];exact hx) (fun ht=>?_) (fun ht=>?_)
   ·subst ht
    exact ihx h4 hD hs hf ha
   ·subst ht
    exact ihy h4 hD hs hf ha
  ·cases h4
 | block id c ih =>
  intro ρ f fr fr' h h' nx aL w a e hr hD hs hf ha
  obtain ⟨e1,fr1,h1,nx1,k1,k2⟩:=uR ((FO _ _ _ _ _).symm.trans hr)
  refine wp_block (wp_mono (ih k1 hD hs hf ha) fun e' a' w' he=>?_)
  obtain ⟨rfl,ρ',f',ha',hD',st⟩:=he
  cases e1 with
  | n =>
   cases k2
   exact ⟨rfl,ρ',f',ha',hD',st⟩
  | x j =>
   replace k2:(bif Nat.beq j id then some (Ex.n,fr1,h1,nx1) else some (Ex.x j,fr1,h1,nx1))=some (e,fr',h',aL):=k2
   simp only [Z6,Exit.inBlock]
   cases hb:Nat.beq j id with
   | true =>
    rw [hb] at k2
    cases k2
    rw [if_pos (Nat.eq_of_beq_eq_true hb)]
    exact ⟨rfl,ρ',f',ha',hD',st⟩
   | false =>
    rw [hb] at k2
    cases k2
    rw [if_neg (Nat.ne_of_beq_eq_false hb)]
    exact ⟨rfl,ρ',f',ha',hD',st⟩
  | r =>
   cases k2
   exact ⟨rfl,ρ',f',ha',hD',st⟩
 | loop c ih =>
  intro ρ f fr fr' h h' nx aL w a e hr hD hs hf ha
  rw [Kt] at hr
  generalize 100000=m at hr
  exact wp_loop_rounds m (Ik ih m hr hD hs hf ha)
 | exit id =>
  intro ρ f fr fr' h h' nx aL w a e hr hD hs hf ha
  cases hr
  exact wp_exit ⟨rfl,ρ,f,ha,hD,dH.refl hs _⟩
 | label l =>
  intro ρ f fr fr' h h' nx aL w a e hr hD hs hf ha
  cases hr
  exact wp_label ⟨rfl,ρ,f,ha,hD,dH.refl hs _⟩
 | ret =>
  intro ρ f fr fr' h h' nx aL w a e hr hD hs hf ha
  cases hr
  exact wp_ret ⟨rfl,ρ,f,ha,hD,dH.refl hs _⟩
 | rangeFunc f ps x y _ _=>intro ρ f fr fr' h h' nx aL w a e hr;cases hr
 | scope c _=>intro ρ f fr fr' h h' nx aL w a e hr;cases hr
 | goto l=>intro ρ f fr fr' h h' nx aL w a e hr;cases hr
 | refuse s=>intro ρ f fr fr' h h' nx aL w a e hr;cases hr
end
end E
namespace E
section
variable {P:Program} {ρ:Rn} {f:Fr} {fr:F} {h:H} {w:World}
noncomputable def il:List V→Nat→F→F
 | [],_,fr=>fr
 | v::l,t,fr=>il l (t+1) (dL fr t (some v))
theorem MW {β:Type}:∀ (l:List V) (t:Nat) (fr:F) (K:F→β),frK l t fr K=K (il l t fr)
 | [],_,_,_=>rfl
 | v::l,t,fr,K=>by
  show dE (path t) fr (some v) (fun fr'=>frK l (t+1) fr' K)=_
  rw [jt,MW l]
  rfl
theorem xM:∀ (l:List V) (t:Nat) (fr:F) (k:Nat) (v:V),at_ (il l t fr) k=some v→(k<t∧at_ fr k=some v)∨(t≤k∧(l[k-t]?=some v∨(l.length≤k-t∧at_ fr k=some v)))
 | [],t,fr,k,v,h=>by
  rcases Nat.lt_or_ge k t with hk|hk
  ·exact .inl ⟨hk,h⟩
  ·exact .inr ⟨hk,.inr ⟨by simp,h⟩⟩
 | u::l,t,fr,k,v,h=>by
  rcases xM l (t+1) _ k v h with ⟨hk,h1⟩|⟨hk,h1⟩
  ·rw [cg] at h1
   split at h1
   ·rename_i e
    cases h1
    refine .inr ⟨by omega,.inl ?_⟩
    rw [e,Nat.sub_self]
    rfl
   ·exact .inl ⟨by omega,h1⟩
  ·have e:k-t=(k-(t+1))+1:=by omega
   refine .inr ⟨by omega,?_⟩
   rcases h1 with h1|⟨h1,h2⟩
   ·left
    rw [e]
    exact h1
   ·rw [cg,if_neg (by omega)] at h2
    right
    refine ⟨by rw [List.length_cons];omega,h2⟩
theorem FD.init {vs:List V} {xs:List Value} (hd:aT ρ vs xs) (hg:∀ g,g<1000→∃ sz,ρ g=some (g,sz)):FD ρ (inits xs) (il vs 0 .e):=by
 refine ⟨fun t v hv=>?_,hg⟩
 rcases xM vs 0 .e t v hv with ⟨hk,_⟩|⟨_,h1|⟨_,h1⟩⟩
 ·omega
 ·obtain ⟨x,hx,hx2⟩:=hd.nth h1
  have:=n5 xs t
  rw [Nat.sub_zero] at hx
  rw [← this,List.getD_eq_getElem?_getD,hx]
  exact hx2
 ·rw [FC] at h1
  cases h1
def adl (P:Program) (f:Fr) (w:World) (G:ResultVar→Sem Value):Prop:=(∀ t,(G (.tmp t)).run P w=.ok (f t) w)∧∀ a t,(G (.cell a t)).run P w=(do loadVar t (← asAddr (f a)):Sem Value).run P w
theorem uS (hD:FD ρ f fr) (hs:Sat ρ h w) :
  ∀ {rs:List ResultVar} {l:List V},FB P fr h rs=some l→∃ ys,(∀ G,adl P f w G→(rs.mapM G).run P w=.ok ys w)∧aT ρ l ys
 | [],l,hr=>by
  cases hr
  exact ⟨[],fun G _=>by simp [List.mapM_nil],.nil⟩
 | .tmp t::rs,l,hr=>by
  unfold FB at hr
  split at hr
  ·rename_i v r e1 e2
   cases hr
   obtain ⟨ys,k1,k2⟩:=uS hD hs e2
   refine ⟨f t::ys,fun G hG=>?_,.cons (hD.slot t v e1) k2⟩
   simp only [List.mapM_cons,Sem.run_bind,hG.1,Sem.run_pure,Result.andThen_ok,k1 G hG]
  ·cases hr
 | .cell a t::rs,l,hr=>by
  unfold FB at hr
  split at hr
  ·rename_i v ag sz r e1 e2 e3 e4
   split at hr
   ·rename_i u e5
    cases hr
    obtain ⟨ys,k1,k2⟩:=uS hD hs e4
    have hv:=hD.slot a v e1
    have key:∃ y,(do loadVar t (← asAddr (f a)):Sem Value).run P w=.ok y w∧Den ρ u y:=by
     cases ag with
     | true =>
      replace e5:uw sz h v=some u:=e5
      unfold uw at e5
      split at e5
      ·simp only [Option.map_eq_some_iff] at e5
       obtain ⟨rr,hrr,rfl⟩:=e5
       obtain ⟨b,s,xs,g1,g2,_,g4⟩:=mq hs hrr
       generalize f a=fa at hv
       cases hv with
       | p e =>
        rw [g1] at e
        cases e
        exact ⟨_,by simp [asAddr,loadVar,bS e2,bI e3,g4],.ag g2⟩
      ·cases e5
     | false =>
      replace e5:ux h v=some u:=e5
      unfold ux at e5
      split at e5
      ·split at e5
       ·rename_i hg
        rw [pP] at e5
        obtain ⟨b,s,y,g1,g2,g3⟩:=CG hs hg e5
        generalize f a=fa at hv
        cases hv with
        | p e =>
         rw [g1] at e
         cases e
         exact ⟨y,by simp [asAddr,loadVar,bS e2,run_load,g3],g2⟩
       ·cases e5
      ·cases e5
    obtain ⟨y,k3,k4⟩:=key
    refine ⟨y::ys,fun G hG=>?_,.cons k4 k2⟩
    have k5:=(hG.2 a t).trans k3
    simp only [List.mapM_cons,Sem.run_bind,k5,Result.andThen_ok,k1 G hG,Sem.run_pure]
   ·cases hr
  ·cases hr
theorem Xx {fn:Func} {l:List V} (hr:FB P fr h fn.results.toList=some l) (hD:FD ρ f fr) (hs:Sat ρ h w):∃ x,RV P fn f w x∧Den ρ (one l) x:=by
 obtain ⟨ys,k1,k2⟩:=uS hD hs hr
 refine ⟨if h:ys.toArray.size=1 then ys.toArray[0] else .tuple ys.toArray,fun tmps ht=>?_,?_⟩
 ·unfold results
  rw [Array.mapM_eq_mapM_toList]
  simp only [Sem.run_bind]
  rw [show ∀ {α β:Type} (g:α→β) (x:Sem α),Functor.map g x=x >>= fun a=>pure (g a) from fun g x=>map_eq_pure_bind g x]
  simp only [Sem.run_bind]
  rw [k1 _ ⟨fun t=>by simp only [Sem.run_pure,ht],fun a t=>by simp only [ht]⟩]
  rfl
 ·cases k2 with
  | nil=>exact .t .nil
  | cons a b =>
   cases b with
   | nil=>exact a
   | cons c d=>exact .t (.cons a (.cons c d))
end
def fB (P:Program) (g:Nat) (F:List V→H→Nat→HR):Prop:=∀ {vs h nx v h' aL ρ w xs},F vs h nx=some (v,h',aL)→aT ρ vs xs→Sat ρ h w→tD ρ nx→(∀ g,g<1000→∃ sz,ρ g=some (g,sz)) →
 WU (bn P) (fun x w'=>∃ ρ',Den ρ' v x∧dH ρ h nx w ρ' h' aL w') ((callFunc g xs.toArray).run P w)
section
variable {P:Program}
theorem SE {call:dB} {g:Nat} {fn:Func} (hC:jS P call) (hW:∀ n,yY P n call) (hg:P.funcs[g]?=some fn) (hn:(fn.name == "runtime.NumGoroutine")=false):fB P g (Ib P call fn):=by
 intro vs h nx v h' aL ρ w xs hr hd hs hf hG
 unfold Ib at hr
 split at hr
 ·cases hr
 ·rename_i c hc
  obtain ⟨hle,hr⟩:=nX hr
  have hle:=Nat.le_of_ble_eq_true hle
  rw [MW] at hr
  have hrun:(callFunc g xs.toArray).run P w=.ok (.enter g xs.toArray) w:=aM ⟨fn,hg,hn,by rw [hc];rfl⟩ _ _
  rw [hrun]
  have hlen:=hd.len
  have key:∀ {e:Ex} {fr':F} {h1:H} {nx1:Nat},(e=.n∨e=.r)→exec P fn.ntmps call c (il vs 0 .e) h nx=some (e,fr',h1,nx1)→tB P fn.results.toList fr' h1 nx1=some (v,h',aL) →
    Calls P g xs.toArray w fun e w''=>∃ x,e=.returned x∧∃ ρ',Den ρ' v x∧dH ρ h nx w ρ' h' aL w'':=by
   intro e fr' h1 nx1 he hx hv
   unfold tB at hv
   split at hv
   ·rename_i l hl
    cases hv
    refine aa (n:=fn.ntmps) hg hc rfl xj ?_
    unfold WC
    intro a ha
    refine wp_mono (SC hC (hW _) c hx (FD.init hd hG) hs hf ha) fun e' a' w' k=>?_
    obtain ⟨rfl,ρ',f',ha',hD',st⟩:=k
    obtain ⟨x,k1,k2⟩:=Xx hl hD' st.sat
    refine ⟨f',ha',?_⟩
    rcases he with rfl|rfl
    ·exact xN ⟨x,k1,x,rfl,ρ',k2,st⟩
    ·exact CZ ⟨x,k1,x,rfl,ρ',k2,st⟩
   ·cases hv
  split at hr
  ·rename_i fr' h1 nx1 hx
   exact key (.inr rfl) hx hr
  ·rename_i fr' h1 nx1 hx
   exact key (.inl rfl) hx hr
  ·cases hr
theorem MX {fns:Nat→Option Func} {prim:Nat→Option (List V→H→Nat→HR)} (hW:∀ call n,jS P call→yY P n call) (hfns:∀ g fn,fns g=some fn→P.funcs[g]?=some fn∧(fn.name == "runtime.NumGoroutine")=false) (hp:∀ g F,prim g=some F→fB P g F) :
  ∀ m,jS P (Cy P fns prim m):=by
 intro m
 induction m with
 | zero =>
  intro g vs h nx v h' aL ρ w xs hr
  cases hr
 | succ m ih =>
  intro g vs h nx v h' aL ρ w xs hr hd hs hf hG
  have e:Cy P fns prim (m+1) g vs h nx=Option.rec (motive:=fun _=>HR) (Option.rec (motive:=fun _=>HR) none (fun fn=>Ib P (Cy P fns prim m) fn vs h nx) (fns g)) (fun f=>f vs h nx) (prim g):=rfl
  rw [e] at hr
  cases hpg:prim g with
  | some F =>
   rw [hpg] at hr
   exact hp g F hpg hr hd hs hf hG
  | none =>
   rw [hpg] at hr
   obtain ⟨fn,h1,h2⟩:=Kr hr
   obtain ⟨h3,h4⟩:=hfns g fn h1
   exact SE ih (fun n=>hW _ n ih) h3 h4 h2 hd hs hf hG
end
end E
end Go.Proofs.YtlmabdegojeheaaGreatDoor
