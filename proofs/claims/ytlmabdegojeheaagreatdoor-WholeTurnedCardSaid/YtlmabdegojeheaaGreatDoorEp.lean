/- WholeTurned: parts of its proof (Ep). -/
import Derived.Test.YtlmabdegojeheaaGreatDoorEmEo
namespace Go.Proofs.YtlmabdegojeheaaGreatDoor
open R
namespace E
open Go.RowKit
section
variable {call:dB} {base:Nat} {h0:H}
theorem tY {l:List (Nat×Nat×CI)} {done:Nat} {fr fr':F} {cur h':H} {past:List (Nat×H)} {nx aL:Nat} {r:Rc} {T:List Rc} (h:Cb call base h0 l done fr cur past nx (r::T) fr' h' aL) :
  Ku call base h0 r∧r.done=done∧r.fr=fr∧r.cur=cur∧r.past=past∧r.nx=nx∧∃ l2,Cb call base h0 l2 (done||| 2 ^ r.i) (FM r.dst fr r.v) r.k9 r.oS r.aL T fr' h' aL:=by
 cases h with
 | cons a b=>exact ⟨a,rfl,rfl,rfl,rfl,rfl,_,b⟩
theorem SP {l:List (Nat×Nat×CI)} {done:Nat} {fr fr':F} {cur h':H} {past:List (Nat×H)} {nx aL:Nat} (h:Cb call base h0 l done fr cur past nx [] fr' h' aL):fr'=fr∧h'=cur∧aL=nx:=by
 cases h
 exact ⟨rfl,rfl,rfl⟩
def Kw (r:Rc):Prop:=gz r.ins=.a∧r.b=true
noncomputable def C5 (base:Nat) (h:H) (r:Rc):H:=match gz r.ins,r.b with
 | .a,true=>dL h (base+r.i) (some r.x)
 | _,_=>h
theorem Iz {h:H} {r:Rc} (k:Kw r):C5 base h r=dL h (base+r.i) (some r.x):=by
 unfold C5
 rw [k.1,k.2]
theorem vk {h:H} {r:Rc} (k:¬ Kw r):C5 base h r=h:=by
 unfold C5
 unfold Kw at k
 cases hc:gz r.ins <;> cases hb:r.b <;> simp_all
noncomputable def zV (base:Nat) (h:H) (S:List Rc):H:=S.foldl (C5 base) h
theorem xV {fr':F} {h':H} {past:List (Nat×H)} {nx aL:Nat} {R:List Rc}:∀ (S:List Rc) {l:List (Nat×Nat×CI)} {done:Nat} {fr:F} {cur:H},Cb call base h0 l done fr cur past nx (S++R) fr' h' aL→(∀ r∈S,gz r.ins≠.e) →
  ∃ l2,Cb call base h0 l2 (sW done S) (Vy fr S) (zV base cur S) past nx R fr' h' aL:=by
 intro S
 induction S with
 | nil=>exact fun h _=>⟨_,h⟩
 | cons r S ih =>
  intro l done fr cur h hq
  obtain ⟨k,e1,e2,e3,e4,e5,l2,h2⟩:=tY h
  have key:r.k9=C5 base cur r∧r.oS=past∧r.aL=nx:=by
   cases hc:gz r.ins with
   | q =>
    obtain ⟨k1,k2,k3,_⟩:=k.q hc
    rw [vk (fun ha=>by rw [ha.1] at hc;cases hc)]
    exact ⟨k1.trans e3,k2.trans e4,k3.trans e5⟩
   | a =>
    obtain ⟨k1,k2,k3,k4⟩:=k.a hc
    refine ⟨?_,k1.trans e4,k2.trans e5⟩
    cases hb:r.b with
    | false=>rw [k3 hb,e3,vk (fun ha=>by rw [ha.2] at hb;cases hb)]
    | true=>rw [(k4 hb).2,e3,Iz ⟨hc,hb⟩]
   | e=>exact absurd hc (hq r (by simp))
  obtain ⟨k1,k2,k3⟩:=key
  rw [k1,k2,k3] at h2
  exact ih h2 fun x hx=>hq x (by simp [hx])
theorem M9 {fr':F} {h':H} {aL:Nat} {r:Rc} {B:List Rc}:∀ (A:List Rc) {l:List (Nat×Nat×CI)} {done:Nat} {fr:F} {cur:H} {past:List (Nat×H)} {nx:Nat},Cb call base h0 l done fr cur past nx (A++r::B) fr' h' aL →
  ∃ E,r.past=E++past∧∀ e∈E,∃ x∈A,x.i=e.1∧gz x.ins=.e:=by
 intro A
 induction A with
 | nil =>
  intro l done fr cur past nx h
  obtain ⟨_,_,_,_,e4,_⟩:=tY h
  exact ⟨[],e4,by simp⟩
 | cons a A ih =>
  intro l done fr cur past nx h
  obtain ⟨k,e1,e2,e3,e4,e5,l2,h2⟩:=tY h
  obtain ⟨E,k1,k2⟩:=ih h2
  cases hc:gz a.ins with
  | q =>
   rw [(k.q hc).2.1,e4] at k1
   exact ⟨E,k1,fun e he=>(k2 e he).imp fun x hx=>⟨by simp [hx.1],hx.2⟩⟩
  | a =>
   rw [(k.a hc).1,e4] at k1
   exact ⟨E,k1,fun e he=>(k2 e he).imp fun x hx=>⟨by simp [hx.1],hx.2⟩⟩
  | e =>
   rw [(k.e hc).2.1,e4] at k1
   refine ⟨E++[(a.i,a.k9)],by simpa using k1,fun e he=>?_⟩
   rcases List.mem_append.1 he with he|he
   ·exact (k2 e he).imp fun x hx=>⟨by simp [hx.1],hx.2⟩
   ·rw [List.mem_singleton.1 he]
    exact ⟨a,by simp,rfl,hc⟩
end
section
variable {base lo:Nat} {ρ ρ' ρ0:Rn} {h h0 h2:H} {w w' w0:World} {nx nx0:Nat}
def Pd (base:Nat) (ρ:Rn) (h:H) (w:World) (lo:Nat) (r:Rc):Prop:=∃ bl sz ob,ρ (base+r.i)=some (bl,sz)∧w.heap[bl]?=some ob∧iL ρ r.x ob sz∧¬ Im ρ h bl∧lo≤bl
def XF (base:Nat) (ρ:Rn) (S:Rc→Prop):Prop:=∀ r r',S r→S r'→Kw r→Kw r'→∀ bl sz sz',ρ (base+r.i)=some (bl,sz)→ρ (base+r'.i)=some (bl,sz')→r.i=r'.i
theorem C6:∀ (S:List Rc) {h:H},Sat ρ h w→(∀ r∈S,Kw r→Pd base ρ h w lo r)→XF base ρ (fun r=>r∈S)→(S.map (·.i)).Nodup →
  Sat ρ (zV base h S) w∧∀ k,Im ρ (zV base h S) k→Im ρ h k∨∃ r∈S,Kw r∧lo≤k∧∃ sz,ρ (base+r.i)=some (k,sz):=by
 intro S
 induction S with
 | nil=>exact fun hs _ _ _=>⟨hs,fun k hk=>.inl hk⟩
 | cons r S ih =>
  intro h hs hp ha hn
  rw [List.map_cons,List.nodup_cons] at hn
  have hsub:XF base ρ (fun r=>r∈S):=fun x y hx hy=>ha x y (List.mem_cons_of_mem _ hx) (List.mem_cons_of_mem _ hy)
  by_cases hA:Kw r
  ·obtain ⟨bl,sz,ob,k1,k2,k3,k4,k5⟩:=hp r (by simp) hA
   have e:zV base h (r::S)=zV base (dL h (base+r.i) (some r.x)) S:=by
    show zV base (C5 base h r) S=_
    rw [Iz hA]
   rw [e]
   obtain ⟨j1,j2⟩:=ih (h:=dL h (base+r.i) (some r.x)) (hs.add k1 k2 k3 k4) (fun y hy hyA=>by
    obtain ⟨bl',sz',ob',l1,l2,l3,l4,l5⟩:=hp y (by simp [hy]) hyA
    refine ⟨bl',sz',ob',l1,l2,l3,fun hi=>?_,l5⟩
    rcases F3 k1 hi with rfl|hi
    ·exact hn.1 (by rw [ha r y (by simp) (by simp [hy]) hA hyA _ _ _ k1 l1];exact List.mem_map_of_mem hy)
    ·exact l4 hi) hsub hn.2
   refine ⟨j1,fun k hk=>?_⟩
   rcases j2 k hk with hi|⟨y,hy,hi⟩
   ·rcases F3 k1 hi with rfl|hi
    ·exact .inr ⟨r,by simp,hA,k5,sz,k1⟩
    ·exact .inl hi
   ·exact .inr ⟨y,by simp [hy],hi⟩
  ·have e:zV base h (r::S)=zV base h S:=by
    show zV base (C5 base h r) S=_
    rw [vk hA]
   rw [e]
   obtain ⟨j1,j2⟩:=ih hs (fun y hy=>hp y (by simp [hy])) hsub hn.2
   refine ⟨j1,fun k hk=>?_⟩
   rcases j2 k hk with hi|⟨y,hy,hi⟩
   ·exact .inl hi
   ·exact .inr ⟨y,by simp [hy],hi⟩
theorem dH.sat' (s:dH ρ0 h0 nx0 w0 ρ h nx w) (hs:Sat ρ h2 w) (hi:∀ k,Im ρ h2 k→Im ρ h k∨w0.heap.size≤k):dH ρ0 h0 nx0 w0 ρ h2 nx w :=
 ⟨s.ext,hs,s.le,s.same,s.os,s.tape,s.output,s.size,s.kC,fun b hb hk=>s.FF b hb ((hi b hk).resolve_right xj)⟩
theorem Sat.more (hs:Sat ρ h w) (he:Ext ρ ρ') (hw:∀ b,b<w.heap.size→w'.heap[b]?=w.heap[b]?):Sat ρ' h w' where
 has:=fun n o hn=>by
  obtain ⟨b,sz,ob,h1,h2,h3⟩:=hs.has n o hn
  exact ⟨b,sz,ob,he _ _ h1,(hw b (Array.getElem?_eq_some_iff.1 h2).1).trans h2,h3.ext he⟩
 inj:=fun m n b s s' hm hn r1 r2=>by
  have key:∀ m s,at_ h m≠none→ρ' m=some (b,s)→ρ m=some (b,s):=fun m s hm hr=>by
   cases ho:at_ h m with
   | none=>exact absurd ho hm
   | some o =>
    obtain ⟨b',sz',_,h1,_⟩:=hs.has m o ho
    have:=he _ _ h1
    rw [hr] at this
    cases this
    exact h1
  exact hs.inj m n b s s' hm hn (key m s hm r1) (key n s' hn r2)
theorem qn (hs:Sat ρ h w) (he:Ext ρ ρ') {k:Nat} (hi:Im ρ' h k):Im ρ h k:=by
 obtain ⟨m,s,hm,hr⟩:=hi
 cases ho:at_ h m with
 | none=>exact absurd ho hm
 | some o =>
  obtain ⟨b',sz',_,h1,_⟩:=hs.has m o ho
  have:=he _ _ h1
  rw [hr] at this
  cases this
  exact ⟨m,_,hm,h1⟩
theorem SQ {f:Fr} {fr:F} {xs:List Operand} (hs:∀ t,Operand.tmp t∈xs→∀ u,at_ fr t=some u→Den ρ u (f t)) (hg:∀ g,g<1000→∃ sz,ρ g=some (g,sz)):xb ρ f fr xs:=by
 intro x hx d v hd hv
 cases x with
 | tmp t =>
  cases hd
  exact hs t hx v hv
 | const c =>
  obtain ⟨u,hu,rfl⟩:=ik (show (Wi c).map cu.k=some d from hd)
  cases hv
  exact fM hu
 | global g =>
  obtain ⟨h1,h2⟩:=nX (show (bif Nat.blt g 1000 then some (cu.k (.p (some (g,0)))) else none)=some d from hd)
  cases h2
  cases hv
  rw [blt_eq] at h1
  obtain ⟨sz,hg⟩:=hg g (of_decide_eq_true h1)
  exact .p hg
 | func g =>
  cases hd
  cases hv
  exact Den.f (xs:=[]) (ys:=[]) .nil .nil
theorem SR {P:Program} {call:dB} {f:Fr} {fr:F} {o:Oper} {ins:I} (hC:jS P call) (hI:uP P o.op ins) (hcl:gz ins=.e) (hD:xb ρ f fr o.op.operands.toList) (hg:∀ g,g<1000→∃ sz,ρ g=some (g,sz)) (hs:Sat ρ h w) (hf:tD ρ nx) {v:V} {h':H} {aL:Nat} (ha:J6 call ins fr h nx=some (v,h',aL)) :
  WO P (bn P) o f w fun x w'=>∃ ρ',Den ρ' v x∧dH ρ h nx w ρ' h' aL w':=by
 unfold WO
 cases hI with
 | q e _=>rw [e] at hcl;cases hcl
 | a e _=>rw [e] at hcl;cases hcl
 | e _ hA _ =>
  obtain ⟨x,w',ρ',h1,h2,h3⟩:=hA hD hs hf ha
  rcases h1 o rfl with k1|⟨k1,k2⟩
  ·rw [k1];exact ⟨ρ',h2,h3⟩
  ·rw [k1];subst k2;exact ⟨ρ',h2,h3⟩
 | @c c fo fd l ho hc hfo hl hins =>
  subst hins
  have hops:o.op.operands.toList=fo::c.args.toList:=by
   rw [ho]
   simp [Op.operands,Call.operands,hc]
  rw [hops] at hD
  obtain ⟨u,h1,h2⟩:=iM ha
  have hu:=hD fo (by simp) fd u hfo h1
  split at h2
  ·rename_i g first cap
   obtain ⟨vs,h3,h4⟩:=iM h2
   have hvs:=iN (xs:=c.args.toList) (fun x hx=>hD x (List.mem_cons_of_mem _ hx)) hl h3
   generalize hev:ev f fo=fv at hu
   cases hu with
   | @f _ _ _ xs ys hx hy =>
    rw [CR ho hc hev (cF rfl)]
    exact hC h4 (hx.append (hvs.append hy)) hs hf hg
  ·cases h2
end
structure F4 (P:Program) (n:Nat) (ops:List Oper) (T:List Rc):Prop where
 op:∀ r∈T,∃ o,ops[r.i]?=some o∧r.mask=(fZ ops).getD r.i 0∧r.dst=o.dst.map path∧cI P o.op=some r.ins∧cG ops o.guard=some r.g∧fx n o.dst=true
 nd:(T.map (·.i)).Nodup
 all:∀ i,i<ops.length→∃ r∈T,r.i=i
 slots:kL ops=true
theorem Ky {l:List Rc} (h:(l.map (·.i)).Nodup) {x y:Rc} (hx:x∈l) (hy:y∈l) (e:x.i=y.i):x=y:=by
 induction l with
 | nil=>cases hx
 | cons a l ih =>
  rw [List.map_cons,List.nodup_cons] at h
  rcases List.mem_cons.1 hx with h1|h1 <;> rcases List.mem_cons.1 hy with h2|h2
  ·rw [h1,h2]
  ·exact absurd (by rw [← h1,e];exact List.mem_map_of_mem h2) h.1
  ·exact absurd (by rw [← h2,← e];exact List.mem_map_of_mem h1) h.1
  ·exact ih h.2 h1 h2
section
variable {P:Program} {n:Nat} {ops:List Oper} {T:List Rc}
theorem F4.idx (h:F4 P n ops T) {x y:Rc} (hx:x∈T) (hy:y∈T) (e:x.i=y.i):x=y:=Ky h.nd hx hy e
theorem F4.lt (h:F4 P n ops T) {x:Rc} (hx:x∈T):x.i<ops.length:=by
 obtain ⟨o,ho,_⟩:=h.op x hx
 exact (List.getElem?_eq_some_iff.1 ho).1
theorem F4.dst (h:F4 P n ops T) {x:Rc} (hx:x∈T) {t:Nat} (ht:x.dst=some (path t)):∃ o,ops[x.i]?=some o∧o.dst=some t:=by
 obtain ⟨o,ho,_,h3,_⟩:=h.op x hx
 rw [h3] at ht
 obtain ⟨d,hd,he⟩:=Option.map_eq_some_iff.1 ht
 exact ⟨o,ho,by rw [hd,vh he]⟩
theorem F4.one (h:F4 P n ops T) {x y:Rc} (hx:x∈T) (hy:y∈T) {t:Nat} (h1:x.dst=some (path t)) (h2:y.dst=some (path t)):x=y:=by
 obtain ⟨ox,k1,k2⟩:=h.dst hx h1
 obtain ⟨oy,k3,k4⟩:=h.dst hy h2
 refine Classical.byContradiction fun hne=>?_
 exact (vg h.slots k1 k3 (fun e=>hne (h.idx hx hy e)) k4).1 k2
theorem XG {call:dB} {base:Nat} {h0:H} {l:List (Nat×Nat×CI)} {fr fr':F} {cur h':H} {past:List (Nat×H)} {nx aL:Nat} (hp:kL ops=true∧∀ c∈l,∃ o,ops[c.1]?=some o∧c.2.1=(fZ ops).getD c.1 0∧R5 P n ops o=some c.2.2) (hl:l.length=ops.length) (hT:Cb call base h0 l 0 fr cur past nx T fr' h' aL):F4 P n ops T:=by
 obtain ⟨h1,h2⟩:=hp
 obtain ⟨h3,h4,h5⟩:=zU hT
 have hop:∀ r∈T,∃ o,ops[r.i]?=some o∧r.mask=(fZ ops).getD r.i 0∧r.dst=o.dst.map path∧cI P o.op=some r.ins∧cG ops o.guard=some r.g∧fx n o.dst=true:=fun r hr=>by
  obtain ⟨o,k1,k2,k3⟩:=h2 (r.i,r.mask,CI.mk r.ins r.dst r.g) (by rw [← h3];exact List.mem_map_of_mem (f:=fun r:Rc=>(r.i,r.mask,CI.mk r.ins r.dst r.g)) hr)
  obtain ⟨ins,g,e,k4,k5,k6⟩:=CS k3
  injection e with e1 e2 e3
  exact ⟨o,k1,k2,e2,e1▸k4,e3▸k5,k6⟩
 refine ⟨hop,h5,fun i hi=>?_,h1⟩
 have:=Kv h5 (n:=ops.length) (fun x hx=>by
  obtain ⟨r,hr,rfl⟩:=List.mem_map.1 hx
  obtain ⟨o,ho,_⟩:=hop r hr
  exact (List.getElem?_eq_some_iff.1 ho).1) (by rw [List.length_map,← hl,← h3,List.length_map]) i hi
 obtain ⟨r,hr,rfl⟩:=List.mem_map.1 this
 exact ⟨r,hr,rfl⟩
end
end E
end Go.Proofs.YtlmabdegojeheaaGreatDoor
