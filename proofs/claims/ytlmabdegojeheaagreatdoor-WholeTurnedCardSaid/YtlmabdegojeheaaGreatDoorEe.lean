/- WholeTurned: parts of its proof (Ee). -/
import Derived.Test.YtlmabdegojeheaaGreatDoorEbEd
import Derived.Laws.StructEq
namespace Go.Proofs.YtlmabdegojeheaaGreatDoor
open R
namespace E
open Go.RowKit
def xb (ρ:Rn) (f:R.Fr) (fr:F) (xs:List Operand):Prop:=∀ x∈xs,∀ d v,cO x=some d→Mq fr d=some v→Den ρ v (ev f x)
def aC (P:Program) (op:Op) (ins:I):Prop:=∀ {ρ f fr h w v},xb ρ f fr op.operands.toList→Sat ρ h w→look ins fr h=some v →
 ∃ x,(∀ o:Oper,o.op=op→(execOp (ev f) o).run P w=.ok (.value x) w)∧Den ρ v x
theorem iM {α β:Type} {x:Option α} {K:α→Option β} {r:β} (h:Option.rec (motive:=fun _=>Option β) none K x=some r):∃ v,x=some v∧K v=some r:=by
 cases x with
 | none=>cases h
 | some v=>exact ⟨v,rfl,h⟩
section
variable {P:Program} {op:Op} {x y:Operand} {d e:cu}
theorem iB {G:V→Option V} (hx:x∈op.operands.toList) (hd:cO x=some d) (key:∀ {ρ u v xv},Den ρ u xv→G u=some v→∃ y,(∀ (f:R.Fr) (w:World) (o:Oper),ev f x=xv→o.op=op→(execOp (ev f) o).run P w=.ok (.value y) w)∧Den ρ v y):aC P op (.q1 d G):=by
 intro ρ f fr h w v hf _ hl
 obtain ⟨u,h1,h2⟩:=iM hl
 obtain ⟨y,h3,h4⟩:=key (hf x hx d u hd h1) h2
 exact ⟨y,fun o ho=>h3 f w o rfl ho,h4⟩
theorem gC {G:V→V→Option V} (hx:x∈op.operands.toList) (hy:y∈op.operands.toList) (hd:cO x=some d) (he:cO y=some e)
  (key:∀ {ρ u u' v xv yv},Den ρ u xv→Den ρ u' yv→G u u'=some v→∃ z,(∀ (f:R.Fr) (w:World) (o:Oper),ev f x=xv→ev f y=yv→o.op=op→(execOp (ev f) o).run P w=.ok (.value z) w)∧Den ρ v z):aC P op (.q2 d e G):=by
 intro ρ f fr h w v hf _ hl
 obtain ⟨u,h1,h2⟩:=iM hl
 obtain ⟨u',h3,h4⟩:=iM h2
 obtain ⟨z,h5,h6⟩:=key (hf x hx d u hd h1) (hf y hy e u' he h3) h4
 exact ⟨z,fun o ho=>h5 f w o rfl rfl ho,h6⟩
theorem pQ {G:H→V→Option V} (hx:x∈op.operands.toList) (hd:cO x=some d) (key:∀ {ρ h w u v xv},Sat ρ h w→Den ρ u xv→G h u=some v→∃ y,(∀ (f:R.Fr) (o:Oper),ev f x=xv→o.op=op→(execOp (ev f) o).run P w=.ok (.value y) w)∧Den ρ v y):aC P op (.l1 d G):=by
 intro ρ f fr h w v hf hs hl
 obtain ⟨u,h1,h2⟩:=iM hl
 obtain ⟨y,h3,h4⟩:=key hs (hf x hx d u hd h1) h2
 exact ⟨y,fun o ho=>h3 f o rfl ho,h4⟩
theorem iN {ρ:Rn} {f:R.Fr} {fr:F}:∀ {xs:List Operand} {l:List cu} {vs:List V},xb ρ f fr xs→el xs=some l→J5 fr l=some vs→aT ρ vs (xs.map (ev f))
 | [],l,vs,_,h1,h2=>by cases h1;cases h2;exact .nil
 | x::xs,l,vs,hf,h1,h2=>by
  unfold el at h1
  cases hx:cO x with
  | none=>rw [hx] at h1;cases h1
  | some d =>
   cases hr:el xs with
   | none=>rw [hx,hr] at h1;cases h1
   | some r =>
    rw [hx,hr] at h1
    cases h1
    obtain ⟨v,h3,h4⟩:=iM h2
    obtain ⟨r',h5,h6⟩:=iM h4
    cases h6
    exact .cons (hf x (.head _) d v hx h3) (iN (fun y hy=>hf y (.tail _ hy)) hr h5)
theorem jR {G:List V→Option V} {xs:List Operand} {l:List cu} (hx:∀ x∈xs,x∈op.operands.toList) (hd:el xs=some l)
  (key:∀ {ρ vs v xvs},aT ρ vs xvs→G vs=some v→∃ y,(∀ (f:R.Fr) (w:World) (o:Oper),xs.map (ev f)=xvs→o.op=op→(execOp (ev f) o).run P w=.ok (.value y) w)∧Den ρ v y):aC P op (.q l G):=by
 intro ρ f fr h w v hf _ hl
 obtain ⟨u,h1,h2⟩:=iM hl
 obtain ⟨y,h3,h4⟩:=key (iN (fun x hm=>hf x (hx x hm)) hd h1) h2
 exact ⟨y,fun o ho=>h3 f w o rfl ho,h4⟩
end
section
variable {P:Program}
theorem Sb {x:Operand} {d:cu} (hd:cO x=some d):aC P (.move x) (.q1 d Zy) :=
 iB (by simp [Op.operands]) hd fun hu hv=>by
  cases hv
  exact ⟨_,fun f w o hx ho=>by simp [execOp,ho,hx],hu⟩
theorem J9 {x:Operand} {d:cu} (hd:cO x=some d):aC P (.assign x) (.q1 d Zy) :=
 iB (by simp [Op.operands]) hd fun hu hv=>by
  cases hv
  exact ⟨_,fun f w o hx ho=>by simp [execOp,ho,hx],hu⟩
theorem Sc {c a b:Operand} {dc da db:cu} (hc:cO c=some dc) (ha:cO a=some da) (hb:cO b=some db):aC P (.pick c a b) (.pick dc da db):=by
 intro ρ f fr h w v hf _ hl
 obtain ⟨u,h1,h2⟩:=iM hl
 have hcd:=hf c (by simp [Op.operands]) dc u hc h1
 split at h2
 ·rename_i t
  generalize hcx:ev f c=cx at hcd
  cases hcd
  cases t with
  | true=>exact ⟨ev f a,fun o ho=>by simp [execOp,ho,hcx,asBool],hf a (by simp [Op.operands]) da v ha h2⟩
  | false=>exact ⟨ev f b,fun o ho=>by simp [execOp,ho,hcx,asBool],hf b (by simp [Op.operands]) db v hb h2⟩
 ·cases h2
theorem bA {b:Bool} {α:Type} {x:Option α} {r:α} (h:(bif b then x else none)=some r):b=true∧x=some r:=by
 cases b with
 | true=>exact ⟨rfl,h⟩
 | false=>cases h
theorem My {b:Bool} {α:Type} {x:Option α} {r:α} (h:(bif b then none else x)=some r):b=false∧x=some r:=by
 cases b with
 | false=>exact ⟨rfl,h⟩
 | true=>cases h
theorem dU {bop:BinOp} {t u:TypeId} {x y:Operand} {d e:cu} {G:V→V→Option V} (hd:cO x=some d) (he:cO y=some e)
  (hG:∀ {a b v},G a b=some v→∃ k m n,a=.i k m∧b=.i k n∧∃ z,(∀ (ρ:Rn),Den ρ v z)∧∀ (f:R.Fr) (w:World) (o:Oper),ev f x=.int k m→ev f y=.int k n→o.op=.binOp bop t x y u→(execOp (ev f) o).run P w=.ok (.value z) w) :
  aC P (.binOp bop t x y u) (.q2 d e G) :=
 gC (by simp [Op.operands]) (by simp [Op.operands]) hd he fun ha hb hv=>by
  obtain ⟨k,m,n,rfl,rfl,z,hz,hr⟩:=hG hv
  cases ha
  cases hb
  exact ⟨z,fun f w o hx hy ho=>hr f w o hx hy ho,hz _⟩
theorem WR {t u:TypeId} {x y:Operand} {d e:cu} (hd:cO x=some d) (he:cO y=some e):aC P (.binOp .add t x y u) (.q2 d e Wk) :=
 dU hd he fun hv=>by
  unfold Wk at hv
  split at hv
  ·rename_i k a k' b
   obtain ⟨h1,h2⟩:=bA hv
   obtain rfl:=dC h1
   rw [bp,eU] at h2
   cases h2
   exact ⟨k,a,b,rfl,rfl,_,fun _=>.i _ _,fun f w o hx hy ho=>by simp [execOp,ho,hx,hy,eqGuard_add,binOp_add,Op.intArith] <;> rfl⟩
  ·cases hv
theorem WV {t u:TypeId} {x y:Operand} {d e:cu} (hd:cO x=some d) (he:cO y=some e):aC P (.binOp .sub t x y u) (.q2 d e Wl) :=
 dU hd he fun hv=>by
  unfold Wl at hv
  split at hv
  ·rename_i k a k' b
   obtain ⟨h1,h2⟩:=bA hv
   obtain rfl:=dC h1
   rw [bp,eU] at h2
   cases h2
   exact ⟨k,a,b,rfl,rfl,_,fun _=>.i _ _,fun f w o hx hy ho=>by simp [execOp,ho,hx,hy,eqGuard_sub,binOp_sub,Op.intArith] <;> rfl⟩
  ·cases hv
theorem WW {t u:TypeId} {x y:Operand} {d e:cu} (hd:cO x=some d) (he:cO y=some e):aC P (.binOp .mul t x y u) (.q2 d e Wm) :=
 dU hd he fun hv=>by
  unfold Wm at hv
  split at hv
  ·rename_i k a k' b
   obtain ⟨h1,h2⟩:=bA hv
   obtain rfl:=dC h1
   rw [bp,eU] at h2
   cases h2
   exact ⟨k,a,b,rfl,rfl,_,fun _=>.i _ _,fun f w o hx hy ho=>by simp [execOp,ho,hx,hy,eqGuard_mul,binOp_mul,Op.intArith] <;> rfl⟩
  ·cases hv
theorem WY {t u:TypeId} {x y:Operand} {d e:cu} (hd:cO x=some d) (he:cO y=some e):aC P (.binOp .and t x y u) (.q2 d e Wq) :=
 dU hd he fun hv=>by
  unfold Wq at hv
  split at hv
  ·rename_i k a k' b
   obtain ⟨h1,h2⟩:=bA hv
   obtain rfl:=dC h1
   rw [bp,eU] at h2
   cases h2
   exact ⟨k,a,b,rfl,rfl,_,fun _=>.i _ _,fun f w o hx hy ho=>by simp [execOp,ho,hx,hy,eqGuard,binOp,Op.intBits]⟩
  ·cases hv
theorem Z5 {t u:TypeId} {x y:Operand} {d e:cu} (hd:cO x=some d) (he:cO y=some e):aC P (.binOp .or t x y u) (.q2 d e orF) :=
 dU hd he fun hv=>by
  unfold orF at hv
  split at hv
  ·rename_i k a k' b
   obtain ⟨h1,h2⟩:=bA hv
   obtain rfl:=dC h1
   rw [bp,eU] at h2
   cases h2
   exact ⟨k,a,b,rfl,rfl,_,fun _=>.i _ _,fun f w o hx hy ho=>by simp [execOp,ho,hx,hy,eqGuard,binOp,Op.intBits]⟩
  ·cases hv
theorem WZ {t u:TypeId} {x y:Operand} {d e:cu} (hd:cO x=some d) (he:cO y=some e):aC P (.binOp .xor t x y u) (.q2 d e Wr) :=
 dU hd he fun hv=>by
  unfold Wr at hv
  split at hv
  ·rename_i k a k' b
   obtain ⟨h1,h2⟩:=bA hv
   obtain rfl:=dC h1
   rw [bp,eU] at h2
   cases h2
   exact ⟨k,a,b,rfl,rfl,_,fun _=>.i _ _,fun f w o hx hy ho=>by simp [execOp,ho,hx,hy,eqGuard,binOp,Op.intBits]⟩
  ·cases hv
theorem Ka {t u:TypeId} {x y:Operand} {d e:cu} (hd:cO x=some d) (he:cO y=some e):aC P (.binOp .andNot t x y u) (.q2 d e yH) :=
 dU hd he fun hv=>by
  unfold yH at hv
  split at hv
  ·rename_i k a k' b
   obtain ⟨h1,h2⟩:=bA hv
   obtain rfl:=dC h1
   rw [bp,eU] at h2
   cases h2
   exact ⟨k,a,b,rfl,rfl,_,fun _=>.i _ _,fun f w o hx hy ho=>by simp [execOp,ho,hx,hy,eqGuard,binOp,Op.intBits]⟩
  ·cases hv
theorem W4 {t u:TypeId} {x y:Operand} {d e:cu} (hd:cO x=some d) (he:cO y=some e):aC P (.binOp .quo t x y u) (.q2 d e Wn) :=
 dU hd he fun hv=>by
  unfold Wn at hv
  split at hv
  ·rename_i k a k' b
   obtain ⟨h1,h2⟩:=bA hv
   obtain rfl:=dC h1
   obtain ⟨h3,h4⟩:=My h2
   rw [k7] at h3
   have h0:b≠0:=of_decide_eq_false h3
   rw [bp,eU] at h4
   cases h4
   exact ⟨k,a,b,rfl,rfl,_,fun _=>.i _ _,fun f w o hx hy ho=>by simp [execOp,ho,hx,hy,eqGuard_quo,binOp_quo,Op.intDiv,h0]⟩
  ·cases hv
theorem W5 {t u:TypeId} {x y:Operand} {d e:cu} (hd:cO x=some d) (he:cO y=some e):aC P (.binOp .rem t x y u) (.q2 d e Wo) :=
 dU hd he fun hv=>by
  unfold Wo at hv
  split at hv
  ·rename_i k a k' b
   obtain ⟨h1,h2⟩:=bA hv
   obtain rfl:=dC h1
   obtain ⟨h3,h4⟩:=My h2
   rw [k7] at h3
   have h0:b≠0:=of_decide_eq_false h3
   rw [bp] at h4
   cases h4
   exact ⟨k,a,b,rfl,rfl,_,fun _=>.i _ _,fun f w o hx hy ho=>by simp [execOp,ho,hx,hy,eqGuard_rem,binOp_rem,Op.intDiv,h0]⟩
  ·cases hv
theorem Mz (a b:Int):(!decide (b<a))=decide (a≤b):=by
 by_cases h:a≤b
 ·rw [decide_eq_true h,decide_eq_false (by omega)];rfl
 ·rw [decide_eq_false h,decide_eq_true (by omega)];rfl
theorem W6 {t u:TypeId} {x y:Operand} {d e:cu} (hd:cO x=some d) (he:cO y=some e):aC P (.binOp .lss t x y u) (.q2 d e ltF) :=
 dU hd he fun hv=>by
  unfold ltF at hv
  split at hv
  ·rename_i k a k' b
   obtain ⟨h1,h2⟩:=bA hv
   obtain rfl:=dC h1
   rw [ig] at h2
   cases h2
   exact ⟨k,a,b,rfl,rfl,_,fun _=>.b _,fun f w o hx hy ho=>by simp [execOp,ho,hx,hy,eqGuard_lss,binOp_lss]⟩
  ·cases hv
theorem W7 {t u:TypeId} {x y:Operand} {d e:cu} (hd:cO x=some d) (he:cO y=some e):aC P (.binOp .gtr t x y u) (.q2 d e gtF) :=
 dU hd he fun hv=>by
  unfold gtF at hv
  split at hv
  ·rename_i k a k' b
   obtain ⟨h1,h2⟩:=bA hv
   obtain rfl:=dC h1
   rw [ig] at h2
   cases h2
   exact ⟨k,a,b,rfl,rfl,_,fun _=>.b _,fun f w o hx hy ho=>by simp [execOp,ho,hx,hy,eqGuard_gtr,binOp_gtr]⟩
  ·cases hv
theorem W8 {t u:TypeId} {x y:Operand} {d e:cu} (hd:cO x=some d) (he:cO y=some e):aC P (.binOp .leq t x y u) (.q2 d e leF) :=
 dU hd he fun hv=>by
  unfold leF at hv
  split at hv
  ·rename_i k a k' b
   obtain ⟨h1,h2⟩:=bA hv
   obtain rfl:=dC h1
   rw [ig,Mz] at h2
   cases h2
   exact ⟨k,a,b,rfl,rfl,_,fun _=>.b _,fun f w o hx hy ho=>by simp [execOp,ho,hx,hy,eqGuard_leq,binOp_leq]⟩
  ·cases hv
theorem W9 {t u:TypeId} {x y:Operand} {d e:cu} (hd:cO x=some d) (he:cO y=some e):aC P (.binOp .geq t x y u) (.q2 d e geF) :=
 dU hd he fun hv=>by
  unfold geF at hv
  split at hv
  ·rename_i k a k' b
   obtain ⟨h1,h2⟩:=bA hv
   obtain rfl:=dC h1
   rw [ig,Mz] at h2
   cases h2
   exact ⟨k,a,b,rfl,rfl,_,fun _=>.b _,fun f w o hx hy ho=>by simp [execOp,ho,hx,hy,eqGuard_geq,binOp_geq]⟩
  ·cases hv
theorem Sd {t u:TypeId} {x y:Operand} {d e:cu} (hd:cO x=some d) (he:cO y=some e):aC P (.binOp .eql t x y u) (.q2 d e Wv) :=
 dU hd he fun hv=>by
  unfold Wv at hv
  split at hv
  ·rename_i k a k' b
   obtain ⟨h1,h2⟩:=bA hv
   obtain rfl:=dC h1
   rw [k7] at h2
   cases h2
   exact ⟨k,a,b,rfl,rfl,_,fun _=>.b _,fun f w o hx hy ho=>by simp only [execOp,ho,hx,hy,Sem.run_bind,eqGuard_at_int,Sem.run_pure,Result.andThen_ok,binOp_eql,zd]⟩
  ·cases hv
theorem Se {t u:TypeId} {x y:Operand} {d e:cu} (hd:cO x=some d) (he:cO y=some e):aC P (.binOp .neq t x y u) (.q2 d e Ww) :=
 dU hd he fun hv=>by
  unfold Ww at hv
  split at hv
  ·rename_i k a k' b
   obtain ⟨h1,h2⟩:=bA hv
   obtain rfl:=dC h1
   rw [k7] at h2
   cases h2
   exact ⟨k,a,b,rfl,rfl,_,fun _=>.b _,fun f w o hx hy ho=>by simp only [execOp,ho,hx,hy,Sem.run_bind,eqGuard_at_int,Sem.run_pure,Result.andThen_ok,binOp_neq,Ip];simp⟩
  ·cases hv
theorem Xa {t u:TypeId} {x y:Operand} {d e:cu} (hd:cO x=some d) (he:cO y=some e):aC P (.binOp .shl t x y u) (.q2 d e Ws) :=
 gC (by simp [Op.operands]) (by simp [Op.operands]) hd he fun ha hb hv=>by
  unfold Ws at hv
  split at hv
  ·rename_i k a k' b
   split at hv
   ·rename_i m hm
    rw [rE hm] at hb
    cases ha
    cases hb
    rw [bp,eU] at hv
    cases hv
    have hm0:¬ ((m:Int)<0):=by omega
    exact ⟨_,fun f w o hx hy ho=>by simp [execOp,ho,hx,hy,eqGuard_shl,binOp,Op.shift,hm0],.i _ _⟩
   ·cases hv
  ·cases hv
theorem Xb {t u:TypeId} {x y:Operand} {d e:cu} (hd:cO x=some d) (he:cO y=some e):aC P (.binOp .shr t x y u) (.q2 d e Wu) :=
 gC (by simp [Op.operands]) (by simp [Op.operands]) hd he fun ha hb hv=>by
  unfold Wu at hv
  split at hv
  ·rename_i k a k' b
   split at hv
   ·rename_i m hm
    rw [rE hm] at hb
    cases ha
    cases hb
    rw [bp] at hv
    cases hv
    have hm0:¬ ((m:Int)<0):=by omega
    exact ⟨_,fun f w o hx hy ho=>by simp [execOp,ho,hx,hy,eqGuard_shr,binOp,Op.shift,hm0],.i _ _⟩
   ·cases hv
  ·cases hv
theorem Xc {t:TypeId} {x:Operand} {d:cu} (hd:cO x=some d):aC P (.unOp .neg t x) (.q1 d WA) :=
 iB (by simp [Op.operands]) hd fun hu hv=>by
  unfold WA at hv
  split at hv
  ·rw [bp,eU] at hv
   cases hu
   cases hv
   exact ⟨_,fun f w o hx ho=>by simp [execOp,ho,hx,Op.unary,Op.intArith];exact congrArg _ (Int.zero_sub _).symm,.i _ _⟩
  ·cases hv
theorem Xd {t:TypeId} {x:Operand} {d:cu} (hd:cO x=some d):aC P (.unOp .not t x) (.q1 d WD) :=
 iB (by simp [Op.operands]) hd fun hu hv=>by
  unfold WD at hv
  split at hv
  ·cases hu
   cases hv
   exact ⟨_,fun f w o hx ho=>by simp [execOp,ho,hx,Op.unary],.b _⟩
  ·cases hv
theorem CD {x:Operand} {d:cu} (hd:cO x=some d):aC P (.nilCheck x) (.q1 d Q1) :=
 iB (by simp [Op.operands]) hd fun hu hv=>by
  unfold Q1 at hv
  split at hv
  ·cases hv
   cases hu with
   | p e=>exact ⟨_,fun f w o hx ho=>by simp [execOp,ho,hx],.p e⟩
  ·cases hv
   cases hu with
   | f a c=>exact ⟨_,fun f w o hx ho=>by simp [execOp,ho,hx],.f a c⟩
  ·cases hv
theorem Sf {t t':TypeId} {k k':IntKind} {x:Operand} {d:cu} (hd:cO x=some d) (h1:P.underlying t=some (.int k)) (h2:P.underlying t'=some (.int k')):aC P (.convert t t' x) (.q1 d (H2 k')) :=
 iB (by simp [Op.operands]) hd fun hu hv=>by
  unfold H2 at hv
  split at hv
  ·rw [bp,eU] at hv
   cases hu
   cases hv
   exact ⟨_,fun f w o hx ho=>by simp [execOp,ho,hx,convert,run_underlying h1,run_underlying h2,Conv.intToInt],.i _ _⟩
  ·cases hv
theorem MB {t t':TypeId} {x:Operand} {d:cu} (hd:cO x=some d) (h1:P.underlying t=some .string) (h2:P.underlying t'=some .string):aC P (.convert t t' x) (.q1 d H0) :=
 iB (by simp [Op.operands]) hd fun hu hv=>by
  unfold H0 at hv
  split at hv
  ·cases hu
   cases hv
   exact ⟨_,fun f w o hx ho=>by simp [execOp,ho,hx,convert,run_underlying h1,run_underlying h2],.s _⟩
  ·cases hv
theorem yQ {s:TypeId} {x:Operand} {d:cu} {i:Nat} {fs:Array Field} {fd:Field} {n:Nat} (hd:cO x=some d) (h1:P.underlying s=some (.struct fs)) (h2:fs[i]?=some fd) (h3:ct P fd.type=some n) (h4:n≠0):aC P (.fieldAddr s x i) (.q1 d (H3 fd.offset)) :=
 iB (by simp [Op.operands]) hd fun hu hv=>by
  unfold H3 at hv
  split at hv
  ·cases hv
   cases hu with
   | p e =>
    refine ⟨_,fun f w o hx ho=>?_,.p e⟩
    simp [execOp,ho,hx,Instr.fieldAt,run_underlying h1,h2,Instr.sureAddr,fieldPlace,bI h3,h4,Addr.add_lit]
  ·cases hv
theorem uC {n m:Nat} {j:Int} (h:ZZ n j=some m):j=(m:Int)∧m<n:=by
 unfold ZZ at h
 split at h
 ·obtain ⟨h1,h2⟩:=bA h
  cases h2
  rw [blt_eq] at h1
  exact ⟨rfl,of_decide_eq_true h1⟩
 ·cases h
theorem xc {t e:TypeId} {x y:Operand} {d d':cu} {n sz:Nat} (hd:cO x=some d) (he:cO y=some d') (h1:P.underlying t=some (.array n e)) (h2:ct P e=some sz):aC P (.indexAddr t x y) (.q2 d d' (Q2 n sz)) :=
 gC (by simp [Op.operands]) (by simp [Op.operands]) hd he fun ha hb hv=>by
  unfold Q2 at hv
  split at hv
  ·split at hv
   ·rename_i m hm
    obtain ⟨rfl,hlt⟩:=uC hm
    cases hv
    cases hb
    cases ha with
    | p e =>
     refine ⟨_,fun f w o hx hy ho=>?_,.p e⟩
     simp [execOp,ho,hx,hy,Instr.indexAt,asIntOf,run_underlying h1,Instr.sureAddr,bI h2,hlt,Addr.add_lit]
   ·cases hv
  ·cases hv
theorem xd {t e:TypeId} {x y:Operand} {d d':cu} {sz:Nat} (hd:cO x=some d) (he:cO y=some d') (h1:P.underlying t=some (.slice e)) (h2:ct P e=some sz):aC P (.indexAddr t x y) (.q2 d d' (Q3 sz)) :=
 gC (by simp [Op.operands]) (by simp [Op.operands]) hd he fun ha hb hv=>by
  unfold Q3 at hv
  split at hv
  ·split at hv
   ·rename_i m hm
    obtain ⟨rfl,hlt⟩:=uC hm
    cases hv
    cases hb
    cases ha with
    | B7 e =>
     refine ⟨_,fun f w o hx hy ho=>?_,.p e⟩
     simp [execOp,ho,hx,hy,Instr.indexAt,asIntOf,run_underlying h1,bI h2,hlt,Addr.add_lit]
    | Ca e _ _ =>
     refine ⟨_,fun f w o hx hy ho=>?_,.p e⟩
     simp [execOp,ho,hx,hy,Instr.indexAt,asIntOf,run_underlying h1,bI h2,hlt,Addr.add_lit]
    | Vt=>omega
   ·cases hv
  ·cases hv
theorem iO {ρ:Rn} {t:TypeId} {ag:Bool} {n off:Nat} {cs:List V} {xs:List Value} {v:V} (h1:aY P t=some ag) (h2:ct P t=some n) (hc:aT ρ cs xs) (hv:fu ag n off cs=some v) :
  ∃ y,(∀ w:World,(part t xs.toArray off).run P w=.ok y w)∧Den ρ v y:=by
 unfold fu at hv
 cases ag with
 | true =>
  simp only [cond_true,Option.map_eq_some_iff] at hv
  obtain ⟨r,hr,rfl⟩:=hv
  obtain ⟨rfl,hl⟩:=eR hr
  rw [lD] at *
  refine ⟨.agg ((xs.drop off).take n).toArray,fun w=>?_,.ag ((hc.drop off).take n)⟩
  simp only [part,Sem.run_bind,bS h1 w,Result.andThen_ok,if_true,bI h2 w,Sem.run_pure]
  simp [List.extract_eq_take_drop]
 | false =>
  simp only [cond_false,pP] at hv
  obtain ⟨x,hx,hd⟩:=hc.nth hv
  refine ⟨x,fun w=>?_,hd⟩
  simp [part,bS h1 w,hx]
theorem MC {t:TypeId} {x:Operand} {d:cu} {i:Nat} {fs:Array Field} {fd:Field} {ag:Bool} {n:Nat} (hd:cO x=some d) (h1:P.underlying t=some (.struct fs)) (h2:fs[i]?=some fd) (h3:aY P fd.type=some ag) (h4:ct P fd.type=some n):aC P (.field t x i) (.q1 d (Q5 ag n fd.offset)) :=
 iB (by simp [Op.operands]) hd fun hu hv=>by
  unfold Q5 at hv
  split at hv
  ·cases hu with
   | ag hc =>
    obtain ⟨y,hy,hd⟩:=iO h3 h4 hc hv
    refine ⟨y,fun f w o hx ho=>?_,hd⟩
    simp [execOp,ho,hx,Instr.field,run_underlying h1,h2,asAgg,hy]
  ·cases hv
theorem Kb {t e:TypeId} {x y:Operand} {d d':cu} {m sz:Nat} {ag:Bool} (hd:cO x=some d) (he:cO y=some d') (h1:P.underlying t=some (.array m e)) (h2:aY P e=some ag) (h3:ct P e=some sz):aC P (.index t x y) (.q2 d d' (Q6 m ag sz)) :=
 gC (by simp [Op.operands]) (by simp [Op.operands]) hd he fun ha hb hv=>by
  unfold Q6 at hv
  split at hv
  ·split at hv
   ·rename_i i hi
    obtain ⟨rfl,hlt⟩:=uC hi
    cases hb
    cases ha with
    | ag hc =>
     obtain ⟨z,hz,hd⟩:=iO h2 h3 hc hv
     refine ⟨z,fun f w o hx hy ho=>?_,hd⟩
     simp [execOp,ho,hx,hy,Instr.index,asIntOf,run_underlying h1,bI h3,hlt,hz]
   ·cases hv
  ·cases hv
theorem Kc {t:TypeId} {x y:Operand} {d d':cu} (hd:cO x=some d) (he:cO y=some d') (h1:P.underlying t=some .string):aC P (.index t x y) (.q2 d d' Q7) :=
 gC (by simp [Op.operands]) (by simp [Op.operands]) hd he fun ha hb hv=>by
  unfold Q7 at hv
  split at hv
  ·split at hv
   ·rename_i i hi
    have:=rE hi
    subst this
    split at hv
    ·rename_i c hc
     cases hv
     cases ha
     cases hb
     refine ⟨.int .u8 c.toNat,fun f w o hx hy ho=>?_,.i _ _⟩
     have hc':(ByteArray.mk (List.toArray ‹List UInt8›))[i]?=some c:=by
      obtain ⟨hlt,he⟩:=List.getElem?_eq_some_iff.1 hc
      rw [getElem?_pos _ _ (by simpa [ByteArray.size] using hlt)]
      simpa [ByteArray.getElem_eq_getElem_data] using he
     simp [execOp,ho,hx,hy,Instr.index,asIntOf,run_underlying h1,hc']
    ·cases hv
   ·cases hv
  ·cases hv
theorem FH {x:Operand} {d:cu} {i:Nat} (hd:cO x=some d):aC P (.extract x i) (.q1 d (Q8 i)) :=
 iB (by simp [Op.operands]) hd fun hu hv=>by
  unfold Q8 at hv
  split at hv
  ·cases hu with
   | t hc =>
    rw [pP] at hv
    obtain ⟨y,hy,hd⟩:=hc.nth hv
    exact ⟨y,fun f w o hx ho=>by simp [execOp,ho,hx,Instr.extract,hy],hd⟩
  ·cases hv
theorem CE {fn:Fn} {as_ cs:Array Operand} {l:List cu} (hd:el (as_.toList++cs.toList)=some l):aC P (.makeFunc fn as_ cs) (.q l (Q9 fn as_.size)) :=
 jR (by simp [Op.operands]) hd fun hu hv=>by
  unfold Q9 at hv
  split at hv
  ·rename_i a ha
   obtain ⟨rfl,hl⟩:=eR ha
   cases hv
   rw [lD]
   refine ⟨_,fun f w o hx ho=>?_,.f (hu.take _) (hu.drop _)⟩
   rw [← hx]
   simp [execOp,ho,Instr.makeFunc,← Array.toList_map]
  ·cases hv
end
section
variable {P:Program} {f:R.Fr} {o:Oper} {c:Call} {w w':World} {v:Value}
theorem nV (ho:o.op=.call c) (hc:c.callee=.builtin .len) (h:(Builtin.len_ c.argTypes o.type (c.args.map (ev f))).run P w=.ok v w'):(execOp (ev f) o).run P w=.ok (.value v) w':=by
 simp only [execOp,ho,resolve,hc,invoke,builtin,Sem.run_bind,Sem.run_pure,Result.andThen_ok,h]
theorem Sh (ho:o.op=.call c) (hc:c.callee=.builtin .cap) (h:(Builtin.cap_ c.argTypes o.type (c.args.map (ev f))).run P w=.ok v w'):(execOp (ev f) o).run P w=.ok (.value v) w':=by
 simp only [execOp,ho,resolve,hc,invoke,builtin,Sem.run_bind,Sem.run_pure,Result.andThen_ok,h]
theorem Si (ho:o.op=.call c) (hc:c.callee=.builtin .min) (h:(Builtin.min_ c.argTypes o.type (c.args.map (ev f))).run P w=.ok v w'):(execOp (ev f) o).run P w=.ok (.value v) w':=by
 simp only [execOp,ho,resolve,hc,invoke,builtin,Sem.run_bind,Sem.run_pure,Result.andThen_ok,h]
theorem Sj (ho:o.op=.call c) (hc:c.callee=.builtin .max) (h:(Builtin.max_ c.argTypes o.type (c.args.map (ev f))).run P w=.ok v w'):(execOp (ev f) o).run P w=.ok (.value v) w':=by
 simp only [execOp,ho,resolve,hc,invoke,builtin,Sem.run_bind,Sem.run_pure,Result.andThen_ok,h]
theorem yR (ho:o.op=.call c) (hc:c.callee=.builtin .unsafeSliceData) (h:(Builtin.unsafeSliceData_ c.argTypes o.type (c.args.map (ev f))).run P w=.ok v w'):(execOp (ev f) o).run P w=.ok (.value v) w':=by
 simp only [execOp,ho,resolve,hc,invoke,builtin,Sem.run_bind,Sem.run_pure,Result.andThen_ok,h]
theorem cF {xs:List Value} (h:c.args.toList.map (ev f)=xs):c.args.map (ev f)=xs.toArray:=by
 rw [← h]
 exact Array.ext' (by simp)
theorem cT (c:Call):∀ x∈c.args.toList,x∈(Op.call c).operands.toList:=by
 intro x hx
 simp only [Op.operands,Call.operands,Array.toList_append,List.mem_append]
 exact .inr hx
end
section
variable {P:Program} {c:Call} {l:List cu} {t:TypeId}
theorem Sm (hd:el c.args.toList=some l) (hc:c.callee=.builtin .len) (ht:c.argTypes.toList=[t]) (h1:P.underlying t=some .string):aC P (.call c) (.q l Re) :=
 jR (cT c) hd fun hu hv=>by
  unfold Re at hv
  split at hv
  ·cases hv
   cases hu with
   | cons hu hn =>
    cases hn
    cases hu
    refine ⟨_,fun f w o hx ho=>nV ho hc ?_,.i _ _⟩
    have ht0:c.argTypes[0]?=some t:=by rw [← Array.getElem?_toList,ht];rfl
    rw [cF hx]
    unfold Builtin.len_
    simp [ht0,run_underlying h1,goInt]
    rfl
  ·cases hv
theorem Sr {e:TypeId} (hd:el c.args.toList=some l) (hc:c.callee=.builtin .len) (ht:c.argTypes.toList=[t]) (h1:P.underlying t=some (.slice e)):aC P (.call c) (.q l Rr) :=
 jR (cT c) hd fun hu hv=>by
  unfold Rr at hv
  split at hv
  ·rename_i a n cp
   cases hv
   cases hu with
   | cons hu hn =>
    cases hn
    have ht0:c.argTypes[0]?=some t:=by rw [← Array.getElem?_toList,ht];rfl
    refine ⟨goInt n,fun f w o hx ho=>nV ho hc ?_,.i _ _⟩
    rw [cF hx]
    unfold Builtin.len_
    cases hu <;> simp [ht0,run_underlying h1]
  ·cases hv
theorem Ss {m:Nat} {e:TypeId} (hd:el c.args.toList=some l) (hc:c.callee=.builtin .len) (ht:c.argTypes.toList=[t]) (h1:P.underlying t=some (.array m e)):aC P (.call c) (.q l (Cp m)) :=
 jR (cT c) hd fun hu hv=>by
  unfold Cp at hv
  split at hv
  ·cases hv
   cases hu with
   | cons hu hn =>
    cases hn
    have ht0:c.argTypes[0]?=some t:=by rw [← Array.getElem?_toList,ht];rfl
    refine ⟨goInt m,fun f w o hx ho=>nV ho hc ?_,.i _ _⟩
    rw [cF hx]
    unfold Builtin.len_
    simp [ht0,run_underlying h1]
  ·cases hv
theorem ME {m:Nat} {a e:TypeId} (hd:el c.args.toList=some l) (hc:c.callee=.builtin .len) (ht:c.argTypes.toList=[t]) (h1:P.underlying t=some (.pointer a)) (h2:P.underlying a=some (.array m e)):aC P (.call c) (.q l (Cp m)) :=
 jR (cT c) hd fun hu hv=>by
  unfold Cp at hv
  split at hv
  ·cases hv
   cases hu with
   | cons hu hn =>
    cases hn
    have ht0:c.argTypes[0]?=some t:=by rw [← Array.getElem?_toList,ht];rfl
    refine ⟨goInt m,fun f w o hx ho=>nV ho hc ?_,.i _ _⟩
    rw [cF hx]
    unfold Builtin.len_
    simp [ht0,run_underlying h1,run_underlying h2]
  ·cases hv
theorem Xe {e:TypeId} (hd:el c.args.toList=some l) (hc:c.callee=.builtin .cap) (ht:c.argTypes.toList=[t]) (h1:P.underlying t=some (.slice e)):aC P (.call c) (.q l Rs) :=
 jR (cT c) hd fun hu hv=>by
  unfold Rs at hv
  split at hv
  ·rename_i a n cp
   cases hv
   cases hu with
   | cons hu hn =>
    cases hn
    have ht0:c.argTypes[0]?=some t:=by rw [← Array.getElem?_toList,ht];rfl
    refine ⟨goInt cp,fun f w o hx ho=>Sh ho hc ?_,.i _ _⟩
    rw [cF hx]
    unfold Builtin.cap_
    cases hu <;> simp [ht0,run_underlying h1]
  ·cases hv
theorem Xf (hd:el c.args.toList=some l) (hc:c.callee=.builtin .unsafeSliceData):aC P (.call c) (.q l Rv) :=
 jR (cT c) hd fun hu hv=>by
  unfold Rv at hv
  split at hv
  ·cases hv
   cases hu with
   | cons hu hn =>
    cases hn
    cases hu
    refine ⟨_,fun f w o hx ho=>yR ho hc ?_,.p0⟩
    rw [cF hx]
    rfl
  ·cases hv
   cases hu with
   | cons hu hn =>
    cases hn
    cases hu with
    | B7 e =>
     refine ⟨_,fun f w o hx ho=>yR ho hc ?_,.p e⟩
     rw [cF hx]
     rfl
  ·cases hv
   cases hu with
   | cons hu hn =>
    cases hn
    cases hu with
    | @Ca _ _ _ _ c0 _ _ e e1 e2 =>
     refine ⟨_,fun f w o hx ho=>yR ho hc ?_,.p e⟩
     rw [cF hx]
     obtain ⟨k,rfl⟩:∃ k,c0=k+1:=⟨c0-1,by omega⟩
     rfl
  ·cases hv
end
theorem MF (mx:Bool) (P:Program) (w:World) (k k':IntKind) (a b:Int):(bif mx then Builtin.max2 (.int k a) (.int k' b) else Builtin.min2 (.int k a) (.int k' b)).run P w=.ok (.int k (bif mx then (if a<b then b else a) else (if b<a then b else a))) w:=by
 cases mx <;> rfl
theorem FI {α:Type} (g:α→Value→Sem α) (a:α) (x:Value) (l:List Value) (P:Program) (w:World):((x::l).foldlM g a).run P w=((g a x).run P w).andThen fun b w'=>(l.foldlM g b).run P w':=by
 simp [List.foldlM_cons,Sem.run_bind]
theorem nj {ρ:Rn} {P:Program} (w:World) (mx:Bool) (k:IntKind):∀ {l:List V} {xs:List Value} {a:Int} {v:V},aT ρ l xs→Ru mx k a l=some v →
  ∃ n,v=.i k n∧(xs.foldlM (fun u x=>bif mx then Builtin.max2 u x else Builtin.min2 u x) (Value.int k a)).run P w=.ok (.int k n) w
 | [],xs,a,v,hd,hv=>by
  cases hd
  cases hv
  exact ⟨a,rfl,rfl⟩
 | u::l,xs,a,v,hd,hv=>by
  cases u with
  | i k' y =>
   obtain ⟨h1,h2⟩:=bA (show (bif kb k k' then Ru mx k (bif mx then (bif wV a y then y else a) else (bif wV y a then y else a)) l else none)=some v from hv)
   cases hd with
   | cons hu hd =>
    cases hu
    obtain ⟨n,rfl,hr⟩:=nj w mx k hd h2
    refine ⟨n,rfl,?_⟩
    rw [FI,MF,Result.andThen_ok]
    have e:(bif mx then (bif wV a y then y else a) else (bif wV y a then y else a))=(bif mx then (if a<y then y else a) else (if y<a then y else a)):=by
     rw [ig,ig]
     cases mx
     ·by_cases h:y<a <;> simp [h]
     ·by_cases h:a<y <;> simp [h]
    rw [e] at hr
    exact hr
  | _=>cases hv
section
variable {P:Program} {c:Call} {l:List cu}
theorem Xg (hd:el c.args.toList=some l) (hc:c.callee=.builtin .min):aC P (.call c) (.q l (Cq false)) :=
 jR (cT c) hd fun {ρ} _ _ _ hu hv=>by
  unfold Cq at hv
  split at hv
  ·cases hu with
   | cons hu hn =>
    cases hu
    obtain ⟨n,rfl,_⟩:=nj (P:=P) default false _ hn hv
    refine ⟨_,fun f w o hx ho=>Si ho hc ?_,.i _ _⟩
    obtain ⟨n',e,hr⟩:=nj (P:=P) w false _ hn hv
    cases e
    rw [cF hx]
    exact hr
  ·cases hv
theorem Xh (hd:el c.args.toList=some l) (hc:c.callee=.builtin .max):aC P (.call c) (.q l (Cq true)) :=
 jR (cT c) hd fun {ρ} _ _ _ hu hv=>by
  unfold Cq at hv
  split at hv
  ·cases hu with
   | cons hu hn =>
    cases hu
    obtain ⟨n,rfl,_⟩:=nj (P:=P) default true _ hn hv
    refine ⟨_,fun f w o hx ho=>Sj ho hc ?_,.i _ _⟩
    obtain ⟨n',e,hr⟩:=nj (P:=P) w true _ hn hv
    cases e
    rw [cF hx]
    exact hr
  ·cases hv
end
theorem CF:∀ (cs zs:List Value) (off k:Nat),off+k+cs.length≤zs.length →
  (cs.zipIdx k).foldl (fun (a:Array Value) (x:Value×Nat)=>a.setIfInBounds (off+x.2) x.1) zs.toArray=(zs.take (off+k)++(cs++zs.drop (off+k+cs.length))).toArray
 | [],zs,off,k,_=>by simp
 | c::cs,zs,off,k,h=>by
  simp only [List.length_cons] at h
  rw [List.zipIdx_cons,List.foldl_cons]
  have e:(zs.toArray.setIfInBounds (off+k) c)=(zs.set (off+k) c).toArray:=by simp
  simp only
  rw [e,CF cs (zs.set (off+k) c) off (k+1) (by rw [List.length_set];omega)]
  congr 1
  have e1:off+(k+1)=off+k+1:=by omega
  have e2:off+(k+1)+cs.length=off+k+(c::cs).length:=by simp;omega
  rw [e2,e1,List.take_succ_eq_append_getElem (by rw [List.length_set];omega),List.getElem_set_self,List.take_set_of_le (Nat.le_refl _),List.drop_set_of_lt (by simp)]
  simp
theorem uD {ρ:Rn} {tab:Nat→Option (Nat×Nat)}:∀ {ps:List (Nat×Operand)} {q:List (Nat×Nat)} {vs cs cs':List V} {xs zs:List Value},wY tab ps=some q→aT ρ vs xs→aT ρ cs zs→Co q vs cs=some cs' →
  ∃ zs',Instr.fill tab zs.toArray (ps.map (·.1) |>.zip xs)=some zs'.toArray∧aT ρ cs' zs'
 | [],q,vs,cs,cs',xs,zs,hp,hv,hc,hf=>by
  cases hp
  cases vs with
  | nil=>cases hv;cases hf;exact ⟨zs,rfl,hc⟩
  | cons _ _=>cases hf
 | p::ps,q,vs,cs,cs',xs,zs,hp,hv,hc,hf=>by
  unfold wY at hp
  cases hq:tab p.1 with
  | none=>rw [hq] at hp;cases hp
  | some r =>
   cases hqs:wY tab ps with
   | none=>rw [hq,hqs] at hp;cases hp
   | some q' =>
    rw [hq,hqs] at hp
    cases hp
    obtain ⟨off,n⟩:=r
    cases vs with
    | nil=>cases hf
    | cons v vs =>
     cases hv with
     | @cons _ x _ xs hx hv =>
      unfold Co at hf
      obtain ⟨h1,h2⟩:=bA hf
      rw [bE] at h1
      have h1:=of_decide_eq_true h1
      split at h2
      ·rename_i c1 hc1
       obtain ⟨h3,rfl⟩:=rD hc1
       have hcl:=eu hx
       have hl:=hcl.len
       have hlz:=hc.len
       have hd1:aT ρ (cs.take off++(v.cells++cs.drop (off+v.cells.length))) (zs.take off++(x.cells.toList++zs.drop (off+x.cells.toList.length))):=by
        rw [← hl]
        exact (hc.take _).append (hcl.append (hc.drop _))
       obtain ⟨zs',h4,h5⟩:=uD hqs hv hd1 h2
       refine ⟨zs',?_,h5⟩
       have hsz:x.cells.size=x.cells.toList.length:=by simp
       have e:=CF x.cells.toList zs off 0 xj
       have e2:Array.foldl (fun (cs:Array Value) (x:Value×Nat)=>cs.setIfInBounds (off+x.2) x.1) zs.toArray x.cells.zipIdx=(zs.take off++(x.cells.toList++zs.drop (off+x.cells.toList.length))).toArray:=by
        rw [← Array.foldl_toList]
        simpa using e
       simp only [List.map_cons,List.zip_cons_cons,Instr.fill,hq]
       rw [if_neg (by simp;omega)]
       rw [e2]
       exact h4
      ·cases h2
section
variable {P:Program}
theorem dV {t:TypeId} {z:V} (h:dK P t=some z):∃ i x,P.info? t=some i∧i.zero=some x∧Wi x=some z:=by
 unfold dK at h
 cases hi:P.info? t with
 | none=>rw [hi] at h;cases h
 | some i =>
  rw [hi] at h
  cases hz:i.zero with
  | none=>simp [hz] at h
  | some x=>exact ⟨i,x,rfl,hz,by simpa [hz] using h⟩
theorem pR {t:TypeId} {i:TypeInfo} {x:Value} (h1:P.info? t=some i) (h2:i.zero=some x) (w:World):(zeroValue t).run P w=.ok x w:=by
 simp [zeroValue,typeInfo,h1,h2]
theorem iP {t:TypeId} {n:Nat} (h:ct P t=some n):∃ i,P.info? t=some i∧i.size=n:=by
 unfold ct at h
 cases hi:P.info? t with
 | none=>rw [hi] at h;cases h
 | some i=>exact ⟨i,rfl,by simpa [hi] using h⟩
theorem MG {t:TypeId} {ps:Array (Nat×Operand)} {l:List cu} {z:V} {d:TypeDesc} {tab:Nat→Option (Nat×Nat)} {q:List (Nat×Nat)} (hd:el (ps.toList.map (·.2))=some l) (hz:dK P t=some z) (hu:P.underlying t=some d)
  (ht:(match d with|.slice _=>none|_=>Cr P d)=some tab) (hq:wY tab ps.toList=some q):aC P (.build t ps) (.q l (Rb q z.cells)) :=
 jR (by intro x hx;simpa [Op.operands] using hx) hd fun {ρ} vs v xs hv hf=>by
  unfold Rb at hf
  simp only [Option.map_eq_some_iff] at hf
  obtain ⟨cs',hf,rfl⟩:=hf
  obtain ⟨it,zx,hi,hzx,hzv⟩:=dV hz
  obtain ⟨zs',h1,h2⟩:=uD hq hv (eu (fM (ρ:=ρ) hzv)) hf
  refine ⟨.agg zs'.toArray,fun f w o hx ho=>?_,.ag h2⟩
  have hb:P.built t ((ps.toList.map (·.1)).zip xs)=some zs'.toArray:=by
   unfold Program.built
   rw [hi,hu]
   cases d with
   | struct fs =>
    simp only [Cr,Option.map_eq_some_iff] at ht
    obtain ⟨pl,hpl,rfl⟩:=ht
    simp only [hzx,hpl]
    have e:(fun i:Nat=>pl.toArray[i]?)=fun i:Nat=>pl[i]?:=by funext i;simp
    show Instr.fill (fun i:Nat=>pl.toArray[i]?) _ _=_
    rw [e]
    simpa using h1
   | array n e =>
    simp only [Cr,Option.map_eq_some_iff] at ht
    obtain ⟨n',hn,rfl⟩:=ht
    obtain ⟨ie,hie,rfl⟩:=iP hn
    simp only [hzx,hie]
    simpa using h1
   | slice e=>cases ht
   | _=>cases ht
  have e:(ps.map fun (x:Nat×Operand)=>match x with|(i,x)=>(i,ev f x)).toList=(ps.toList.map (·.1)).zip xs:=by
   rw [← hx,Array.toList_map]
   induction ps.toList with
   | nil=>rfl
   | cons a r ih=>simp [ih]
  simp only [execOp,ho,Sem.run_bind]
  rw [run_build w t _ zs'.toArray (by rw [e];exact hb)]
  rfl
theorem Xi {t u:TypeId} {x y:Operand} {d e:cu} (hd:cO x=some d) (he:cO y=some e):aC P (.binOp .add t x y u) (.q2 d e Wz) :=
 gC (by simp [Op.operands]) (by simp [Op.operands]) hd he fun ha hb hv=>by
  unfold Wz at hv
  split at hv
  ·rename_i a b
   obtain ⟨h1,h2⟩:=bA hv
   cases h2
   cases ha
   cases hb
   rw [blt_eq] at h1
   have h1:=of_decide_eq_true h1
   refine ⟨.string ⟨(a++b).toArray⟩,fun f w o hx hy ho=>?_,.s _⟩
   have e1:(ByteArray.mk a.toArray).size=a.length:=rfl
   have e2:(ByteArray.mk b.toArray).size=b.length:=rfl
   have e3:IntKind.i64.max=9223372036854775807:=by decide
   have hs:¬ ((((ByteArray.mk a.toArray).size+(ByteArray.mk b.toArray).size:Nat):Int) > IntKind.i64.max):=by
    rw [e1,e2,e3]
    omega
   have e4:ByteArray.mk a.toArray++ByteArray.mk b.toArray=ByteArray.mk (a++b).toArray:=by
    apply ByteArray.ext
    simp [ByteArray.data_append]
   have h5:Op.stringOp .add ⟨a.toArray⟩ ⟨b.toArray⟩=pure (.string ⟨(a++b).toArray⟩):=by
    unfold Op.stringOp
    simp only
    rw [if_neg hs,e4]
   simp [execOp,ho,hx,hy,eqGuard_add,binOp,h5]
  ·cases hv
end
theorem nk:∀ a b,m9 a b=Op.bytesLess a b
 | _,[]=>by cases ‹List UInt8› <;> rfl
 | [],_::_=>rfl
 | a::x,b::y=>by simp only [m9,Op.bytesLess,nk x y]
section
variable {P:Program}
theorem rG {bop:BinOp} {t u:TypeId} {x y:Operand} {d e:cu} {g:List UInt8→List UInt8→Bool} (hd:cO x=some d) (he:cO y=some e)
  (hg:∀ (f:R.Fr) (w:World) (o:Oper) (a b:ByteArray),ev f x=.string a→ev f y=.string b→o.op=.binOp bop t x y u→(execOp (ev f) o).run P w=.ok (.value (.bool (g a.toList b.toList))) w):aC P (.binOp bop t x y u) (.q2 d e (pO g)) :=
 gC (by simp [Op.operands]) (by simp [Op.operands]) hd he fun ha hb hv=>by
  unfold pO at hv
  split at hv
  ·rename_i a b
   cases hv
   cases ha
   cases hb
   refine ⟨_,fun f w o hx hy ho=>?_,.b _⟩
   have h1:=hg f w o _ _ hx hy ho
   rw [ByteArray.toList_eq,ByteArray.toList_eq] at h1
   exact h1
  ·cases hv
theorem Xj {t u:TypeId} {x y:Operand} {d e:cu} (hd:cO x=some d) (he:cO y=some e):aC P (.binOp .eql t x y u) (.q2 d e (pO fun a b=>a == b)) :=
 rG hd he fun f w o a b hx hy ho=>by simp [execOp,ho,hx,hy,eqGuard_at_string,binOp,Op.stringOp]
theorem Xk {t u:TypeId} {x y:Operand} {d e:cu} (hd:cO x=some d) (he:cO y=some e):aC P (.binOp .neq t x y u) (.q2 d e (pO fun a b=>!(a == b))) :=
 rG hd he fun f w o a b hx hy ho=>by simp [execOp,ho,hx,hy,eqGuard_at_string,binOp,Op.stringOp]
theorem Xl {t u:TypeId} {x y:Operand} {d e:cu} (hd:cO x=some d) (he:cO y=some e):aC P (.binOp .lss t x y u) (.q2 d e (pO m9)) :=
 rG hd he fun f w o a b hx hy ho=>by simp [execOp,ho,hx,hy,eqGuard_lss,binOp,Op.stringOp,nk]
theorem Xm {t u:TypeId} {x y:Operand} {d e:cu} (hd:cO x=some d) (he:cO y=some e):aC P (.binOp .leq t x y u) (.q2 d e (pO fun a b=>m9 a b||a == b)) :=
 rG hd he fun f w o a b hx hy ho=>by simp [execOp,ho,hx,hy,eqGuard_leq,binOp,Op.stringOp,nk]
theorem Xn {t u:TypeId} {x y:Operand} {d e:cu} (hd:cO x=some d) (he:cO y=some e):aC P (.binOp .gtr t x y u) (.q2 d e (pO fun a b=>!(m9 a b||a == b))) :=
 rG hd he fun f w o a b hx hy ho=>by simp [execOp,ho,hx,hy,eqGuard_gtr,binOp,Op.stringOp,nk]
theorem Xo {t u:TypeId} {x y:Operand} {d e:cu} (hd:cO x=some d) (he:cO y=some e):aC P (.binOp .geq t x y u) (.q2 d e (pO fun a b=>!m9 a b)) :=
 rG hd he fun f w o a b hx hy ho=>by simp [execOp,ho,hx,hy,eqGuard_geq,binOp,Op.stringOp,nk]
end
section
variable {P:Program}
theorem mo {d:Nat} {ρ:Rn} {cs ds:List V} {xs ys:List Value} (ih:∀ {t:TypeId} {u v:V} {x y:Value} {r:Bool} {ρ:Rn},HZ P d t u v=some r→Den ρ u x→Den ρ v y→∀ w:World,(Op.equalIn d t x y).run P w=.ok r w)
  (hx:aT ρ cs xs) (hy:aT ρ ds ys) (w:World):∀ {fs:List Field} {r:Bool},fs.foldr (fun f r=>if f.name= "_" then r else
    match aY P f.type,ct P f.type with
    | some ag,some n=>match fu ag n f.offset cs,fu ag n f.offset ds with
     | some u,some v=>match HZ P d f.type u v with|some true=>r|some false=>some false|none=>none
     | _,_=>none
    | _,_=>none) (some true)=some r→(Op.eqFields d xs.toArray ys.toArray fs).run P w=.ok r w
 | [],r,h=>by cases h;rfl
 | f::fs,r,h=>by
  rw [List.foldr_cons] at h
  by_cases hn:f.name= "_"
  ·rw [if_pos hn] at h
   simp only [Op.eqFields,if_neg (not_not_intro hn)]
   exact mo ih hx hy w h
  ·rw [if_neg hn] at h
   split at h
   ·rename_i ag n hk hz
    split at h
    ·rename_i u v hu hv
     obtain ⟨x,hx1,hx2⟩:=iO hk hz hx hu
     obtain ⟨y,hy1,hy2⟩:=iO hk hz hy hv
     simp only [Op.eqFields,if_pos hn,Sem.run_bind,hx1 w,hy1 w,Result.andThen_ok]
     split at h
     ·rename_i he
      rw [ih he hx2 hy2 w]
      simpa using mo ih hx hy w h
     ·rename_i he
      cases h
      rw [ih he hx2 hy2 w]
      rfl
     ·cases h
    ·cases h
   ·cases h
theorem sO {d:Nat} {ρ:Rn} {e:TypeId} {ag:Bool} {sz:Nat} {cs ds:List V} {xs ys:List Value} (ih:∀ {t:TypeId} {u v:V} {x y:Value} {r:Bool} {ρ:Rn},HZ P d t u v=some r→Den ρ u x→Den ρ v y→∀ w:World,(Op.equalIn d t x y).run P w=.ok r w)
  (hk:aY P e=some ag) (hz:ct P e=some sz) (hx:aT ρ cs xs) (hy:aT ρ ds ys) (w:World):∀ (n s:Nat) {r:Bool},(List.range' s n).foldr (fun i r =>
    match fu ag sz (i*sz) cs,fu ag sz (i*sz) ds with
    | some u,some v=>match HZ P d e u v with|some true=>r|some false=>some false|none=>none
    | _,_=>none) (some true)=some r →
   (Sem.run P (forIn (List.range' s n 1) (none,PUnit.unit) fun i __s=>do
      let x ← part e xs.toArray (i*sz)
      let y ← part e ys.toArray (i*sz)
      let c ← Op.equalIn d e x y
      if (!c)=true then pure (ForInStep.done (some false,PUnit.unit)) else pure (ForInStep.yield (none,PUnit.unit))) w)=.ok (if r then none else some false,PUnit.unit) w
 | 0,s,r,h=>by cases h;rfl
 | n+1,s,r,h=>by
  rw [List.range'_succ,List.foldr_cons] at h
  split at h
  ·rename_i u v hu hv
   obtain ⟨x,hx1,hx2⟩:=iO hk hz hx hu
   obtain ⟨y,hy1,hy2⟩:=iO hk hz hy hv
   simp only [List.range'_succ,List.forIn_cons,Sem.run_bind,hx1 w,hy1 w,Result.andThen_ok]
   split at h
   ·rename_i he
    rw [ih he hx2 hy2 w]
    simpa using sO ih hk hz hx hy w n (s+1) h
   ·rename_i he
    cases h
    rw [ih he hx2 hy2 w]
    rfl
   ·cases h
  ·cases h
set_option maxHeartbeats 2000000 in
theorem np (d:Nat):∀ {t:TypeId} {u v:V} {x y:Value} {r:Bool} {ρ:Rn},HZ P d t u v=some r→Den ρ u x→Den ρ v y→∀ w:World,(Op.equalIn d t x y).run P w=.ok r w:=by
 induction d with
 | zero=>intro t u v x y r ρ h;cases h
 | succ d ih =>
  intro t u v x y r ρ h hu hv w
  unfold HZ at h
  cases hd:P.underlying t with
  | none=>rw [hd] at h;cases h
  | some td =>
   rw [hd] at h
   split at h
   ·rename_i he;cases he;cases h;cases hu;cases hv
    simp [Op.equalIn,run_underlying hd]
   ·rename_i he
    cases he
    obtain ⟨h1,h2⟩:=bA h
    obtain rfl:=dC h1
    rw [k7] at h2
    cases h2;cases hu;cases hv
    simp [Op.equalIn,run_underlying hd,zd]
   ·rename_i a b he
    cases he;cases h;cases hu;cases hv
    have e:(ByteArray.mk a.toArray == ByteArray.mk b.toArray)=(a == b):=by
     show (a.toArray == b.toArray)=_
     simp
    simp [Op.equalIn,run_underlying hd,e]
   ·rename_i b he;cases he;cases h;cases hu
    cases hv <;> simp [Op.equalIn,run_underlying hd]
   ·rename_i he;cases he;cases h;cases hu;cases hv
    simp [Op.equalIn,run_underlying hd]
   ·rename_i e a b he
    cases he
    split at h
    ·rename_i sz hz
     obtain ⟨h1,h2⟩:=bA h
     rw [bE] at h1
     have h1:=of_decide_eq_true h1
     cases h2
     cases hu with
     | @p n1 off1 b1 s1 e1 =>
      cases hv with
      | @p n2 off2 b2 s2 e2 =>
       replace h1:n1=n2:=h1
       subst h1
       rw [e1] at e2
       cases e2
       have e3:((⟨b1,off1,none⟩:Addr) == ⟨b1,off2,none⟩)=Nat.beq off1 off2:=by
        rw [bE,Bool.eq_iff_iff,beq_iff_eq,decide_eq_true_iff]
        simp
       simp [Op.equalIn,run_underlying hd,bI hz,sameAddr,e3]
    ·cases h
   ·rename_i b he;cases he;cases h;cases hu
    cases hv <;> simp [Op.equalIn,run_underlying hd,samePointer]
   ·rename_i he;cases he;cases h;cases hu;cases hv
    simp [Op.equalIn,run_underlying hd,samePointer]
   ·rename_i fs cs ds he
    cases he
    split at h
    ·cases h
    ·rename_i hp
     cases hu with
     | ag hx =>
      cases hv with
      | ag hy =>
       have hfo:P.fieldsOf t=fs:=by unfold Program.fieldsOf;rw [hd]
       have hp:P.stoodInHeld t=false:=by simpa using hp
       rw [run_equalIn_struct w d t _ _ (by rw [hfo];exact hd) hp,hfo]
       exact mo ih hx hy w h
   ·rename_i n e cs ds he
    cases he
    split at h
    ·rename_i ag sz hk hz
     cases hu with
     | ag hx =>
      cases hv with
      | ag hy =>
       rw [Op.equalIn]
       simp only [Sem.run_bind,run_underlying hd,Result.andThen_ok,bI hz]
       simp only [Std.Legacy.Range.forIn_eq_forIn_range',Std.Legacy.Range.size,Nat.sub_zero,Nat.add_sub_cancel,Nat.div_one]
       rw [sO ih hk hz hx hy w n 0 h]
       cases r <;> rfl
    ·cases h
   ·rename_i b _ _ he;cases he;cases h;cases hu
    cases hv <;> simp [Op.equalIn,run_underlying hd]
   ·rename_i he;cases he;cases h;cases hv
    cases hu <;> simp [Op.equalIn,run_underlying hd]
   ·rename_i b he;cases he;cases h;cases hu
    cases hv <;> simp [Op.equalIn,run_underlying hd]
   ·rename_i he;cases he;cases h;cases hu;cases hv
    simp [Op.equalIn,run_underlying hd]
   ·rename_i he;cases he;cases h;cases hu;cases hv
    simp [Op.equalIn,run_underlying hd]
   ·rename_i he;cases he;cases h;cases hu;cases hv
    simp [Op.equalIn,run_underlying hd]
   ·rename_i he;cases he;cases h;cases hu;cases hv
    simp [Op.equalIn,run_underlying hd]
   ·cases h
end
def smp:V→Bool
 | .b _=>true
 | .p _=>true
 | .sl _ _ _=>true
 | .m _=>true
 | .f _ _ _=>true
 | .f0=>true
 | _=>false
def Su:Value→Bool
 | .bool _=>true
 | .pointer _=>true
 | .slice _ _ _=>true
 | .map _=>true
 | .func _ _ _=>true
 | .nilFunc=>true
 | _=>false
theorem Ie {ρ:Rn} {v:V} {x:Value} (h:Den ρ v x) (hs:smp v=true):Su x=true:=by
 cases h <;> first|rfl|cases hs
section
variable {P:Program}
theorem xI {d:Nat} {t:TypeId} {u v:V} {r:Bool} (h:HZ P d t u v=some r) (hi:∀ k,P.underlying t≠some (.int k)) (hs:P.underlying t≠some .string):(∃ cs ds,u=.ag cs∧v=.ag ds)∨smp u=true:=by
 cases d with
 | zero=>cases h
 | succ d =>
  unfold HZ at h
  split at h
  case h_2=>rename_i he;exact absurd he (hi _)
  case h_3=>rename_i he;exact absurd he hs
  case h_9=>exact .inl ⟨_,_,rfl,rfl⟩
  case h_10=>exact .inl ⟨_,_,rfl,rfl⟩
  all_goals first|(exact .inr rfl)|(cases h)
theorem xe (t:TypeId) {x:Value} (y:Value) (h:Su x=true):binOp .eql t x y=(do pure (.bool (← Op.equal t x y))):=by
 cases x <;> first|(cases h;done)|(cases y <;> rfl)
theorem xf (t:TypeId) {x:Value} (y:Value) (h:Su x=true):binOp .neq t x y=(do pure (.bool (!(← Op.equal t x y)))):=by
 cases x <;> first|(cases h;done)|(cases y <;> rfl)
theorem sP (op:BinOp) (t:TypeId) (a b:Operand) {x:Value} (y:Value) (h:Su x=true) (w:World):(eqGuard op t a b x y).run P w=.ok () w:=by
 cases x <;> first|(cases h;done)|(cases op <;> cases y <;> rfl)
theorem Z6 {t u:TypeId} {x y:Operand} {d e:cu} (hd:cO x=some d) (he:cO y=some e) (hi:∀ k,P.underlying t≠some (.int k)) (hs:P.underlying t≠some .string) (hg:P.eqGuardType P.depth t=false):aC P (.binOp .eql t x y u) (.q2 d e (eqF P t)) :=
 gC (by simp [Op.operands]) (by simp [Op.operands]) hd he fun ha hb hv=>by
  unfold eqF at hv
  split at hv
  ·rename_i r hr
   cases hv
   have hq:=fun w=>np _ hr ha hb w
   refine ⟨.bool r,fun f w o hx hy ho=>?_,.b _⟩
   rcases xI hr hi hs with ⟨cs,ds,rfl,rfl⟩|hsm
   ·cases ha
    cases hb
    simp only [execOp,ho,hx,hy,Sem.run_bind,run_eqGuard_agg _ _ _ _ _ _ _ hg,Result.andThen_ok,run_eql_struct]
    rw [show (Op.equalIn 10000 t _ _).run P w=_ from hq w]
    rfl
   ·have hsx:=Ie ha hsm
    simp only [execOp,ho,hx,hy,Sem.run_bind,sP _ _ _ _ _ hsx,Result.andThen_ok,xe t _ hsx]
    rw [show (Op.equal t _ _).run P w=_ from hq w]
    rfl
  ·cases hv
theorem Xp {t u:TypeId} {x y:Operand} {d e:cu} (hd:cO x=some d) (he:cO y=some e) (hi:∀ k,P.underlying t≠some (.int k)) (hs:P.underlying t≠some .string) (hg:P.eqGuardType P.depth t=false):aC P (.binOp .neq t x y u) (.q2 d e (Wj P t)) :=
 gC (by simp [Op.operands]) (by simp [Op.operands]) hd he fun ha hb hv=>by
  unfold Wj at hv
  split at hv
  ·rename_i r hr
   cases hv
   have hq:=fun w=>np _ hr ha hb w
   refine ⟨.bool (!r),fun f w o hx hy ho=>?_,.b _⟩
   rcases xI hr hi hs with ⟨cs,ds,rfl,rfl⟩|hsm
   ·cases ha
    cases hb
    simp only [execOp,ho,hx,hy,Sem.run_bind,run_eqGuard_agg _ _ _ _ _ _ _ hg,Result.andThen_ok,run_neq_struct]
    rw [show (Op.equalIn 10000 t _ _).run P w=_ from hq w]
    rfl
   ·have hsx:=Ie ha hsm
    simp only [execOp,ho,hx,hy,Sem.run_bind,sP _ _ _ _ _ hsx,Result.andThen_ok,xf t _ hsx]
    rw [show (Op.equal t _ _).run P w=_ from hq w]
    rfl
  ·cases hv
theorem Xq {bop:BinOp} {t u:TypeId} {x y:Operand} {d e:cu} {G:V→V→Option V} (hd:cO x=some d) (he:cO y=some e) (hG:Q0 P bop t=some G):aC P (.binOp bop t x y u) (.q2 d e G):=by
 unfold Q0 at hG
 split at hG
 ·cases hG;exact Xa hd he
 ·cases hG;exact Xb hd he
 ·split at hG
  ·split at hG <;> first|cases hG|skip
   ·exact WR hd he
   ·exact WV hd he
   ·exact WW hd he
   ·exact W4 hd he
   ·exact W5 hd he
   ·exact WY hd he
   ·exact Z5 hd he
   ·exact WZ hd he
   ·exact Ka hd he
   ·exact Sd hd he
   ·exact Se hd he
   ·exact W6 hd he
   ·exact W8 hd he
   ·exact W7 hd he
   ·exact W9 hd he
  ·split at hG <;> first|cases hG|skip
   ·exact Xi hd he
   ·exact Xj hd he
   ·exact Xk hd he
   ·exact Xl hd he
   ·exact Xm hd he
   ·exact Xn hd he
   ·exact Xo hd he
  ·rename_i d0 hn hs hu
   obtain ⟨h1,h2⟩:=My hG
   split at h2 <;> first|cases h2|skip
   ·exact Z6 hd he (fun k hk=>hn k (Option.some.inj (hu.symm.trans hk))) (fun hk=>hs (Option.some.inj (hu.symm.trans hk))) h1
   ·exact Xp hd he (fun k hk=>hn k (Option.some.inj (hu.symm.trans hk))) (fun hk=>hs (Option.some.inj (hu.symm.trans hk))) h1
  ·cases hG
end
end E
end Go.Proofs.YtlmabdegojeheaaGreatDoor
