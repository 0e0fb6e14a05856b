/- WholeTurned: parts of its proof (Wx Sg Sp Wy). -/
import Derived.Test.YtlmabdegojeheaaGreatDoorEncsWGo
import Derived.Laws.CopyRow
namespace Go.Proofs.YtlmabdegojeheaaGreatDoor
open R Go.RowKit
namespace R
def l9 (ops:Array Oper) (i:Nat):Bool:=match ops[i]? with
 | some o=>(match o.op with|.load _ _=>true|_=>false)
 | none=>false
def Qb (ops:Array Oper) (j:Nat):Bool:=match ops[j]? with
 | some o=>(match o.op with|.store _ _ _=>true|.call { callee:=.builtin _,.. }=>false|.call _=>true|_=>false)
 | none=>false
def Qc (ops:Array Oper) (j i:Nat):Bool:=match ops[j]? with
 | some o=>o.after.any fun e=>Region.binds .any e&&e.on == i
 | none=>false
def di (ops:Array Oper) (j i:Nat):Bool:=Qb ops j&&Qc ops j i
def ET (ops:Array Oper) (j:Nat):Bool:=(List.range ops.size).all fun i=>!l9 ops i||di ops j i
def EU (ops:Array Oper) (i:Nat):Bool:=(List.range ops.size).any fun j=>(match ops[j]? with|some o=>(match o.op with|.store _ _ _=>true|_=>false)|none=>false)&&!Qc ops j i
def nl (ops:Array Oper) (i:Nat) (listed:Array Bool):Bool:=(List.range ops.size).all fun k=>!(di ops k i&&listed.getD k false)
theorem BI {ops:Array Oper} {i:Nat} {listed:Array Bool}:nl ops i listed=true↔∀ k,k<ops.size→di ops k i=true→listed.getD k false=false:=by
 unfold nl
 rw [List.all_eq_true]
 constructor
 ·intro h k hk hl
  have:=h k (List.mem_range.2 hk)
  rw [hl] at this
  simpa using this
 ·intro h k hk
  cases hl:di ops k i with
  | false=>rfl
  | true=>rw [h k (List.mem_range.1 hk) hl];rfl
theorem nl1 {ops:Array Oper} {i:Nat} {listed:Array Bool} {j:Nat} (h:nl ops i (listed.setIfInBounds j true)=true):nl ops i listed=true:=by
 rw [BI] at h ⊢
 intro k hk hl
 cases hg:listed.getD k false with
 | false=>rfl
 | true =>
  have:=getD_set_true (i:=j) hg
  rw [h k hk hl] at this
  cases this
theorem nl2 {ops:Array Oper} {i:Nat} {listed:Array Bool} {j:Nat} (h:nl ops i listed=true) (hj:di ops j i=false):nl ops i (listed.setIfInBounds j true)=true:=by
 rw [BI] at h ⊢
 intro k hk hl
 by_cases hjk:j=k
 ·subst hjk;rw [hj] at hl;cases hl
 ·rw [getD_set_ne false hjk];exact h k hk hl
def rh (ops:Array Oper) (S:Nat→World→Prop) (listed:Array Bool) (w:World):Prop:=∀ i,l9 ops i=true→nl ops i listed=true→S i w
theorem rh.less {ops:Array Oper} {S:Nat→World→Prop} {listed:Array Bool} {j:Nat} {w:World} (h:rh ops S listed w):rh ops S (listed.setIfInBounds j true) w:=fun i hi hn=>h i hi (nl1 hn)
def mM (P:Program) (ops:Array Oper) (Q:Exit→Act→World→Prop) (S:Nat→World→Prop):Nat→Array Bool→Act→World→Prop
 | 0,listed,a,w=>Region.ready .any ops listed=[]∧Q .normal a w
 | fuel+1,listed,a,w=>(Region.ready .any ops listed=[]→Q .normal a w) ∧
  ∀ i∈Region.ready .any ops listed,wpOp P ops Q i (fun a' w'=>rh ops S (listed.setIfInBounds i true) w'∧mM P ops Q S fuel (listed.setIfInBounds i true) a' w') a w
section
variable {P:Program} {ops:Array Oper} {Q:Exit→Act→World→Prop} {S:Nat→World→Prop}
theorem mN:∀ (fuel:Nat) (listed:Array Bool) (a:Act) (w:World),mM P ops Q S fuel listed a w→wpAny P .any ops Q fuel listed a w
 | 0,_,_,_,h=>h
 | fuel+1,_,_,_,h=>⟨h.1,fun i hi=>wpOp_mono (fun _ _ h'=>mN fuel _ _ _ h'.2) (h.2 i hi)⟩
theorem Hs {j i:Nat} {o:Oper} (hj:ops[j]?=some o) (h:di ops j i=true):∃ e∈o.after,Region.binds .any e=true∧e.on=i:=by
 unfold di Qc at h
 rw [hj] at h
 simp only [Bool.and_eq_true] at h
 obtain ⟨e,he,hb⟩:=Array.any_eq_true'.1 h.2
 simp only [Bool.and_eq_true,beq_iff_eq] at hb
 exact ⟨e,he,hb⟩
theorem ri {ld:Bool} {i:Nat} {oi:Oper} {v:Value} (hi:ops[i]?=some oi) (hl:ld=true→l9 ops i=true) (he:Qb ops i=false) (hsel:∀ (j:Nat) (o:Oper) cs b,ops[j]?=some o→o.op≠.select cs b)
  (hQ:∀ c a w,Q (.panic c) (a.put oi.dst v) w→Q (.panic c) a w) :
  ∀ (fuel:Nat) (listed:Array Bool) (a:Act) (w:World),
   (∀ j oj,ops[j]?=some oj→j≠i→listed.getD j true=false→(∀ e∈oj.after,Region.binds .any e=true→e.on≠i)→oi.apart ops oj=true) →
   i∈Region.ready .any ops listed→YieldsIf P ops (fun w=>ld=true→S i w) oi v a→rh ops S listed w→(ld=true→nl ops i listed=true) →
   mM P ops Q S fuel (listed.setIfInBounds i true) (a.put oi.dst v) w→mM P ops Q S (fuel+1) listed a w:=by
 intro fuel
 induction fuel with
 | zero =>
  intro listed a w _ hr hy hS hn H
  refine ⟨fun h=>(by rw [h] at hr;cases hr),fun j hj=>?_⟩
  by_cases hji:j=i
  ·subst hji;exact hy.wpOp hi (fun h=>hS _ (hl h) (hn h)) ⟨hS.less,H⟩
  ·have:=ready_mono hj hji
   rw [H.1] at this
   cases this
 | succ fuel ih =>
  intro listed a w hfree hr hy hS hn H
  refine ⟨fun h=>(by rw [h] at hr;cases hr),fun j hj=>?_⟩
  by_cases hji:j=i
  ·subst hji;exact hy.wpOp hi (fun h=>hS _ (hl h) (hn h)) ⟨hS.less,H⟩
  ·have h1:=H.2 j (ready_mono hj hji)
   obtain ⟨hjun,oj,hoj,hall⟩:=mem_ready.1 hj
   have hnot:∀ e∈oj.after,Region.binds .any e=true→e.on≠i:=fun e he hb heq=>by
    have h1:=hall e he hb
    have h0:=(mem_ready.1 hr).1
    rw [heq] at h1
    rcases Nat.lt_or_ge i listed.size with h'|h'
    ·simp [h'] at h0 h1;rw [h0] at h1;cases h1
    ·simp [Array.getElem?_eq_none h'] at h1
   have hlate:di ops j i=false:=by
    cases hx:di ops j i with
    | false=>rfl
    | true =>
     obtain ⟨e,he,hb,ho⟩:=Hs hoj hx
     exact absurd ho (hnot e he hb)
   have h2:=wpOp_putIf hoj (hfree j oj hoj hji hjun hnot) (fun cs b=>hsel i oi cs b hi) (fun cs b=>hsel j oj cs b hoj) hQ hy h1
   have hfree':∀ k ok,ops[k]?=some ok→k≠i→(listed.setIfInBounds j true).getD k true=false →
     (∀ e∈ok.after,Region.binds .any e=true→e.on≠i)→oi.apart ops ok=true:=fun k ok hk hki hun hno=>by
    refine hfree k ok hk hki ?_ hno
    by_cases hjk:j=k
    ·subst hjk;exact hjun
    ·rw [getD_set_ne true hjk] at hun;exact hun
   have hS':∀ w',rh ops S ((listed.setIfInBounds i true).setIfInBounds j true) w'→rh ops S (listed.setIfInBounds j true) w':=fun w' h3 k hk h4=>by
    refine h3 k hk ?_
    rw [Array.setIfInBounds_comm _ _ (Ne.symm hji)]
    exact nl2 h4 (by unfold di;rw [he];rfl)
   refine wpOp_mono (fun a' w' h3=>?_) h2
   refine ⟨hS' w' h3.2.1,ih (listed.setIfInBounds j true) a' w' hfree' (ready_mono hr (Ne.symm hji)) h3.1 (hS' w' h3.2.1) (fun hd=>nl2 (hn hd) hlate) ?_⟩
   rw [Array.setIfInBounds_comm _ _ hji]
   exact h3.2.2
theorem ki {rs:List Nat} {fuel:Nat} {listed:Array Bool} {a:Act} {w:World} (hr:Region.ready .any ops listed=rs) (hne:rs≠[])
  (h:∀ i∈rs,wpOp P ops Q i (fun a' w'=>rh ops S (listed.setIfInBounds i true) w'∧mM P ops Q S fuel (listed.setIfInBounds i true) a' w') a w):mM P ops Q S (fuel+1) listed a w :=
 ⟨fun h0=>absurd (hr▸h0) hne,hr▸h⟩
end
theorem jG {P:Program} {o:Oper} {f:Fr} {w:World} {K K':Value→World→Prop} (h:WO P (bn P) o f w K) (hK:∀ v w',K v w'→K' v w'):WO P (bn P) o f w K':=by
 unfold WO at h ⊢
 generalize (execOp (ev f) o).run P w=r at *
 cases r with
 | halt x w'=>exact h.elim
 | ok x w' =>
  cases x <;> simp only [WU] at h ⊢
  case value v=>exact hK _ _ h
  case skip=>exact hK _ _ h
  case enter g args=>exact Calls.mono h fun _ _ ⟨v,he,hk⟩=>⟨v,he,hK _ _ hk⟩
def wH (ops:Array Oper):List (Nat×Bool)→Array Bool→Bool
 | [],listed=>(Region.ready .any ops listed).isEmpty
 | (i,e)::pl,listed=>(if e then Region.ready .any ops listed == [i] else Region.free .any ops listed i&&((Region.ready .any ops listed).contains i&&((!l9 ops i||nl ops i listed)&&!Qb ops i)))&&wH ops pl (listed.setIfInBounds i true)
def mO (ops:Array Oper) (pl:List (Nat×Bool)):Bool:=pl.length == ops.size&&Region.noSelect ops&&wH ops pl (Array.replicate ops.size false)
def two (ops:Array Oper) (S0 S1:World→Prop) (i:Nat) (w:World):Prop:=S0 w∨(EU ops i=true∧S1 w)
def WX (P:Program) (ops:Array Oper) (n:Nat) (S0 S1:World→Prop) (K:Fr→World→Prop) (pl:List (Nat×Bool)) (f:Fr) (w:World):Prop :=
 ∀ a listed,Is n a f→Region.noSelect ops=true→wH ops pl listed=true→rh ops (two ops S0 S1) listed w→mM P ops (pZ n K) (two ops S0 S1) pl.length listed a w
theorem Va {ops:Array Oper} {listed:Array Bool} {i l:Nat} (hr:Region.ready .any ops listed=[i]) (hl:di ops i l=true) (h:nl ops l (listed.setIfInBounds i true)=true):False:=by
 have hm:i∈Region.ready .any ops listed:=by rw [hr];exact .head _
 obtain ⟨hu,o,ho,_⟩:=mem_ready.1 hm
 have hlt:i<listed.size:=by
  rcases Nat.lt_or_ge i listed.size with h'|h'
  ·exact h'
  ·simp [Array.getElem?_eq_none h'] at hu
 have h1:=BI.1 h i (Array.getElem?_eq_some_iff.1 ho).1 hl
 simp [hlt] at h1
theorem abJ {ops:Array Oper} {i:Nat} (h:l9 ops i=true):i<ops.size:=by
 rcases Nat.lt_or_ge i ops.size with h1|h1
 ·exact h1
 ·unfold l9 at h
  rw [Array.getElem?_eq_none h1] at h
  cases h
def Qd (ops:Array Oper) (j:Nat):Bool:=match ops[j]? with|some o=>(match o.op with|.store _ _ _=>true|_=>false)|none=>false
theorem Vb {ops:Array Oper} {j i:Nat} (hs:Qd ops j=true) (hw:di ops j i=false):EU ops i=true:=by
 unfold Qd at hs
 cases ho:ops[j]? with
 | none=>rw [ho] at hs;cases hs
 | some o =>
  rw [ho] at hs
  have hj:=(Array.getElem?_eq_some_iff.1 ho).1
  unfold EU
  rw [List.any_eq_true]
  refine ⟨j,List.mem_range.2 hj,?_⟩
  unfold di Qb at hw
  rw [ho] at hw
  simp only [ho]
  cases hop:o.op <;> simp only [hop] at hs hw ⊢ <;> simp_all
section
variable {P:Program} {n:Nat} {f:Fr} {w:World} {ops:Array Oper} {o:Oper} {S0 S1:World→Prop} {K:Fr→World→Prop} {pl:List (Nat×Bool)} {i:Nat}
theorem Ht (h:K f w):WX P ops n S0 S1 K [] f w:=fun a listed ha _ hp _ =>
 ⟨by simpa [wH] using hp,rfl,f,ha,h⟩
theorem yx {v:Value} (ld:Bool) (hld:ld=true→l9 ops i=true) (hi:ops[i]?=some o) (hd:fx n o.dst=true) (hw:∀ a,Is n a f→(Region.wanted o (yielded ops a.tmps)=true∧∀ w,(ld=true→two ops S0 S1 i w)→(execOp (ev f) o).run P w=.ok (.value v) w)∨(Region.wanted o (yielded ops a.tmps)=false∧v=undef))
  (hk:WX P ops n S0 S1 K pl (cH f o.dst v) w):WX P ops n S0 S1 K ((i,false)::pl) f w:=fun a listed ha hs hp hS=>by
 simp only [wH,Bool.and_eq_true,Bool.or_eq_true,Bool.not_eq_true',Bool.false_eq_true,if_false] at hp
 obtain ⟨⟨h1,h2,h3,h4⟩,h5⟩:=hp
 refine ri (ld:=ld) hi hld h4 (Region.noSelect_spec hs) (fun _ _ _ h=>by cases h.1) _ listed a w (Region.free_spec hi h1) (by simpa using h2) ?_ hS (fun hd=>?_) (hk _ _ (ha.put o.dst v hd) hs h5 hS.less)
 ·unfold YieldsIf
  rw [ha.eval]
  exact hw a ha
 ·rcases h3 with h|h
  ·rw [hld hd] at h;cases h
  ·exact h
theorem EV (hi:ops[i]?=some o) (hd:fx n o.dst=true) (hw:∀ a,Is n a f→Region.wanted o (yielded ops a.tmps)=true) (h:WO P (bn P) o f w fun v w'=>(∀ l,l9 ops l=true→di ops i l=false→two ops S0 S1 l w')∧WX P ops n S0 S1 K pl (cH f o.dst v) w'):WX P ops n S0 S1 K ((i,true)::pl) f w:=fun a listed ha hs hp hS=>by
 simp only [wH,Bool.and_eq_true,if_true,beq_iff_eq] at hp
 refine ki hp.1 (by simp) fun j hj=>?_
 obtain rfl:j=i:=by simpa using hj
 unfold wpOp
 simp only [hi,hw a ha,if_true]
 have hSS:∀ w',(∀ l,l9 ops l=true→di ops j l=false→two ops S0 S1 l w')→rh ops (two ops S0 S1) (listed.setIfInBounds j true) w':=fun w' h1 l hl h2=>by
  cases hx:di ops j l with
  | false=>exact h1 l hl hx
  | true=>exact (Va hp.1 hx h2).elim
 exact .inl (gF ha h fun v w' hk=>⟨hSS w' hk.1,hk.2 _ _ (ha.put o.dst v hd) hs hp.2 (hSS w' hk.1)⟩)
theorem Vc {e:Nat} (hi:ops[i]?=some o) (ho:o.dst=some e) (hd:Nat.blt e n=true) (hw:∀ a,Is n a f→Region.wanted o (yielded ops a.tmps)=false)
  (hk:WX P ops n S0 S1 K pl (cw f e undef) w):WX P ops n S0 S1 K ((i,true)::pl) f w:=fun a listed ha hs hp hS=>by
 simp only [wH,Bool.and_eq_true,if_true,beq_iff_eq] at hp
 refine ki hp.1 (by simp) fun x hx=>?_
 obtain rfl:x=i:=by simpa using hx
 unfold wpOp
 simp only [hi,hw a ha,Bool.false_eq_true,if_false,ho]
 exact ⟨hS.less,hk _ _ (ha.put (some e) undef hd) hs hp.2 hS.less⟩
theorem uj (hl:ET ops i=true) {w':World}:∀ l,l9 ops l=true→di ops i l=false→two ops S0 S1 l w':=fun l h1 h2=>by
 have h:=List.all_eq_true.1 hl l (List.mem_range.2 (abJ h1))
 rw [h1,h2] at h
 cases h
theorem JA (hs:Qd ops i=true) {w':World} (h:S1 w'):∀ l,l9 ops l=true→di ops i l=false→two ops S0 S1 l w':=fun _ _ h2=>.inr ⟨Vb hs h2,h⟩
variable {op:Op} {ty:TypeId} {p:String} {af:Array Edge} {d j e:Nat} {b c:Bool} {v:Value}
theorem V3 (hl:l9 ops i=true) (hn:EU ops i=false) (hi:ops[i]?=some ⟨some d,op,ty,p,af,none⟩) (hd:Nat.blt d n=true) (h:∀ w',S0 w'→WO P lF ⟨some d,op,ty,p,af,none⟩ f w' fun v' w''=>v'=v∧w''=w') (hv:gI v=true)
  (hk:WX P ops n S0 S1 K pl (cw f d v) w):WX P ops n S0 S1 K ((i,false)::pl) f w :=
 yx true (fun _=>hl) hi hd (fun a _=>.inl ⟨by simp [Region.wanted],fun w' hS=>ez hv (h w' (by rcases hS rfl with h|h;exact h;rw [hn] at h;cases h.1))⟩) hk
theorem JB (hl:l9 ops i=true) (h01:∀ w',S0 w'→S1 w') (hi:ops[i]?=some ⟨some d,op,ty,p,af,none⟩) (hd:Nat.blt d n=true) (h:∀ w',S1 w'→WO P lF ⟨some d,op,ty,p,af,none⟩ f w' fun v' w''=>v'=v∧w''=w') (hv:gI v=true)
  (hk:WX P ops n S0 S1 K pl (cw f d v) w):WX P ops n S0 S1 K ((i,false)::pl) f w :=
 yx true (fun _=>hl) hi hd (fun a _=>.inl ⟨by simp [Region.wanted],fun w' hS=>ez hv (h w' (by rcases hS rfl with h|h;exact h01 _ h;exact h.2))⟩) hk
theorem rj (hi:ops[i]?=some ⟨some d,op,ty,p,af,none⟩) (hd:Nat.blt d n=true) (h:∀ w',True→WO P lF ⟨some d,op,ty,p,af,none⟩ f w' fun v' w''=>v'=v∧w''=w') (hv:gI v=true)
  (hk:WX P ops n S0 S1 K pl (cw f d v) w):WX P ops n S0 S1 K ((i,false)::pl) f w :=
 yx false (fun h=>by cases h) hi hd (fun a _=>.inl ⟨by simp [Region.wanted],fun w' _=>ez hv (h w' trivial)⟩) hk
theorem Qe (hl:l9 ops i=true) (h01:∀ w',S0 w'→S1 w') (hi:ops[i]?=some ⟨some d,op,ty,p,af,some (j,b)⟩) (hj:(ops[j]?).bind (·.dst)=some e) (hc:f e=.bool b) (hd:Nat.blt d n=true) (h:∀ w',S1 w'→WO P lF ⟨some d,op,ty,p,af,some (j,b)⟩ f w' fun v' w''=>v'=v∧w''=w') (hv:gI v=true)
  (hk:WX P ops n S0 S1 K pl (cw f d v) w):WX P ops n S0 S1 K ((i,false)::pl) f w :=
 yx true (fun _=>hl) hi hd (fun a ha=>.inl ⟨by rw [cL ha rfl hj hc];simp,fun w' hS=>ez hv (h w' (by rcases hS rfl with h|h;exact h01 _ h;exact h.2))⟩) hk
theorem Qf (hi:ops[i]?=some ⟨some d,op,ty,p,af,some (j,b)⟩) (hj:(ops[j]?).bind (·.dst)=some e) (hc:f e=.bool b) (hd:Nat.blt d n=true) (h:∀ w',True→WO P lF ⟨some d,op,ty,p,af,some (j,b)⟩ f w' fun v' w''=>v'=v∧w''=w') (hv:gI v=true)
  (hk:WX P ops n S0 S1 K pl (cw f d v) w):WX P ops n S0 S1 K ((i,false)::pl) f w :=
 yx false (fun h=>by cases h) hi hd (fun a ha=>.inl ⟨by rw [cL ha rfl hj hc];simp,fun w' _=>ez hv (h w' trivial)⟩) hk
theorem Qg (hi:ops[i]?=some ⟨some d,op,ty,p,af,some (j,b)⟩) (hj:(ops[j]?).bind (·.dst)=some e) (hv:f e=.bool c) (hc:(c == b)=false) (hd:Nat.blt d n=true)
  (hk:WX P ops n S0 S1 K pl (cw f d undef) w):WX P ops n S0 S1 K ((i,false)::pl) f w :=
 yx false (fun h=>by cases h) hi hd (fun a ha=>.inr ⟨by rw [cL ha rfl hj hv];exact hc,rfl⟩) hk
theorem V4 (hi:ops[i]?=some ⟨some d,op,ty,p,af,none⟩) (hd:Nat.blt d n=true) (h:WO P (bn P) ⟨some d,op,ty,p,af,none⟩ f w fun v w'=>S0 w'∧WX P ops n S0 S1 K pl (cw f d v) w'):WX P ops n S0 S1 K ((i,true)::pl) f w :=
 EV hi hd (fun a _=>by simp [Region.wanted]) (jG h fun _ _ hk=>⟨fun _ _ _=>.inl hk.1,hk.2⟩)
theorem V5 (hi:ops[i]?=some ⟨some d,op,ty,p,af,none⟩) (hl:ET ops i=true) (hd:Nat.blt d n=true) (h:WO P (bn P) ⟨some d,op,ty,p,af,none⟩ f w fun v w'=>WX P ops n S0 S1 K pl (cw f d v) w'):WX P ops n S0 S1 K ((i,true)::pl) f w :=
 EV hi hd (fun a _=>by simp [Region.wanted]) (jG h fun _ _ hk=>⟨uj hl,hk⟩)
theorem Qh (hi:ops[i]?=some ⟨none,op,ty,p,af,none⟩) (hs:Qd ops i=true) (h:WO P (bn P) ⟨none,op,ty,p,af,none⟩ f w fun _ w'=>S1 w'∧WX P ops n S0 S1 K pl f w'):WX P ops n S0 S1 K ((i,true)::pl) f w :=
 EV hi rfl (fun a _=>by simp [Region.wanted]) (jG h fun _ _ hk=>⟨JA hs hk.1,hk.2⟩)
theorem Hu (hi:ops[i]?=some ⟨none,op,ty,p,af,none⟩) (hl:ET ops i=true) (h:WO P (bn P) ⟨none,op,ty,p,af,none⟩ f w fun _ w'=>WX P ops n S0 S1 K pl f w'):WX P ops n S0 S1 K ((i,true)::pl) f w :=
 EV hi rfl (fun a _=>by simp [Region.wanted]) (jG h fun _ _ hk=>⟨uj hl,hk⟩)
theorem Qi (hi:ops[i]?=some ⟨some d,op,ty,p,af,some (j,b)⟩) (hj:(ops[j]?).bind (·.dst)=some e) (hc:f e=.bool b) (hd:Nat.blt d n=true) (h:WO P (bn P) ⟨some d,op,ty,p,af,some (j,b)⟩ f w fun v w'=>S0 w'∧WX P ops n S0 S1 K pl (cw f d v) w'):WX P ops n S0 S1 K ((i,true)::pl) f w :=
 EV hi hd (fun a ha=>by rw [cL ha rfl hj hc];simp) (jG h fun _ _ hk=>⟨fun _ _ _=>.inl hk.1,hk.2⟩)
theorem Qj (hi:ops[i]?=some ⟨some d,op,ty,p,af,some (j,b)⟩) (hj:(ops[j]?).bind (·.dst)=some e) (hv:f e=.bool c) (hc:(c == b)=false) (hd:Nat.blt d n=true)
  (hk:WX P ops n S0 S1 K pl (cw f d undef) w):WX P ops n S0 S1 K ((i,true)::pl) f w :=
 Vc hi rfl hd (fun a ha=>by rw [cL ha rfl hj hv];exact hc) hk
theorem yy {q:Bool} {o':Option Nat} (_hi:ops[i]?=some ⟨o',op,ty,p,af,some (j,b)⟩) (_hj:(ops[j]?).bind (·.dst)=some d) (hv:f d=.bool c)
  (h:KV (c=true→WX P ops n S0 S1 K ((i,q)::pl) (cw f d (.bool true)) w) (c=false→WX P ops n S0 S1 K ((i,q)::pl) (cw f d (.bool false)) w)):WX P ops n S0 S1 K ((i,q)::pl) f w:=by
 cases hc:c with
 | true=>subst hc;have:=h.l rfl;rwa [iR hv] at this
 | false=>subst hc;have:=h.r rfl;rwa [iR hv] at this
theorem EW (h:WX P ops n S0 S1 K pl f w):WX P ops n S0 S1 K pl f w:=h
theorem wI {F:List Nat} {W:World} {L:List bX} {Q:Exit→Fr→World→Prop} {id:Nat} {l:List Oper} (S1:World→Prop) (pl:List (Nat×Bool)) (hm:P.follows .mixedOrders=true) (hB:mO l.toArray pl=true) (hM:Own F W w L)
  (h:∀ w1,Own F W w1 L→WX P l.toArray n (fun w2=>Own F W w2 L) S1 (fun f' w'=>Q .normal f' w') pl f w1):WC P n Q (.region id l.toArray true) f w:=by
 unfold WC
 intro a ha
 simp only [mO,Bool.and_eq_true,beq_iff_eq] at hB
 have h1:=h _ hM.drew a _ ha hB.1.2 hB.2 fun _ _ _=>.inl hM.drew
 rw [hB.1.1] at h1
 refine wp_mono (wp_region_any (id:=id) (Q:=pZ n fun f' w'=>Q .normal f' w') hm (mN _ _ _ _ h1)) fun e a' w' he=>?_
 obtain ⟨rfl,f',ha',hq⟩:=he
 exact ⟨f',ha',hq⟩
theorem bB {F:List Nat} {W:World} {L:List bX} {Q:Exit→Fr→World→Prop} {id:Nat} {l:List Oper} (pl:List (Nat×Bool)) (hm:P.follows .mixedOrders=true) (hB:mO l.toArray pl=true) (hM:Own F W w L)
  (h:∀ w1,Own F W w1 L→WX P l.toArray n (fun w2=>Own F W w2 L) (fun w2=>Own F W w2 L) (fun f' w'=>Q .normal f' w') pl f w1):WC P n Q (.region id l.toArray true) f w:=wI _ pl hm hB hM h
theorem LI {F:List Nat} {W:World} {L:List bX} {Q:Exit→Fr→World→Prop} {id:Nat} {l:List Oper} (hm:P.follows .mixedOrders=true) (hB:mO l.toArray (vH 0 l)=true) (hM:Own F W w L)
  (h:∀ w1,Own F W w1 L→WX P l.toArray n (fun w2=>Own F W w2 L) (fun w2=>Own F W w2 L) (fun f' w'=>Q .normal f' w') (vH 0 l) f w1):WC P n Q (.region id l.toArray true) f w:=wI _ _ hm hB hM h
theorem kj {F:List Nat} {W:World} {L:List bX} {Q:Exit→Fr→World→Prop} {id:Nat} {l:List Oper} (k:Nat) (pl:List (Nat×Bool)) (hm:P.follows .mixedOrders=true) (hB:mO l.toArray pl=true) (hM:Own F W w L)
  (h:∀ w1,Own F W w1 L→WX P l.toArray n (fun w2=>Own F W w2 L) (fun w2=>Own F W w2 (L.take k)) (fun f' w'=>Q .normal f' w') pl f w1):WC P n Q (.region id l.toArray true) f w:=wI _ pl hm hB hM h
theorem iZ {F:List Nat} {W:World} {L:List bX}:∀ w',Own F W w' L→Own F W w' L:=fun _ h=>h
theorem ma {F:List Nat} {W:World} {r1:bX} {L:List bX}:∀ w',Own F W w' (r1::L)→Own F W w' [r1]:=fun _ h=>h.sub (List.sublist_append_left [r1] L)
theorem mb {F:List Nat} {W:World} {r1 r2:bX} {L:List bX}:∀ w',Own F W w' (r1::r2::L)→Own F W w' [r1,r2]:=fun _ h=>h.sub (List.sublist_append_left [r1,r2] L)
end
end R
namespace R
inductive PT where
 | nil
 | q (i:Nat) (t:PT)
 | e (i:Nat) (t:PT)
 | f (i j:Nat) (s t:PT)
 | g (i j k:Nat) (s t u:PT)
def PT.len:PT→Nat
 | .nil=>0
 | .q _ t=>t.len+1
 | .e _ t=>t.len+1
 | .f _ _ s _=>s.len+1
 | .g _ _ _ s _ _=>s.len+1
def ko (ops:Array Oper):PT→Array Bool→Bool
 | .nil,listed=>(Region.ready .any ops listed).isEmpty
 | .q i t,listed=>(Region.free .any ops listed i&&((Region.ready .any ops listed).contains i&&((!l9 ops i||nl ops i listed)&&!Qb ops i)))&&ko ops t (listed.setIfInBounds i true)
 | .e i t,listed=>Region.ready .any ops listed == [i]&&ko ops t (listed.setIfInBounds i true)
 | .f i j s t,listed=>(Region.ready .any ops listed == [i,j]&&s.len == t.len)&&(ko ops s (listed.setIfInBounds i true)&&ko ops t (listed.setIfInBounds j true))
 | .g i j k s t u,listed=>(Region.ready .any ops listed == [i,j,k]&&(s.len == t.len&&s.len == u.len))&&(ko ops s (listed.setIfInBounds i true)&&(ko ops t (listed.setIfInBounds j true)&&ko ops u (listed.setIfInBounds k true)))
def JC (ops:Array Oper) (t:PT):Bool:=t.len == ops.size&&Region.noSelect ops&&ko ops t (Array.replicate ops.size false)
def WT (P:Program) (ops:Array Oper) (n:Nat) (S0 S1:World→Prop) (K:Fr→World→Prop) (t:PT) (f:Fr) (w:World):Prop :=
 ∀ a listed,Is n a f→Region.noSelect ops=true→ko ops t listed=true→rh ops (two ops S0 S1) listed w→mM P ops (pZ n K) (two ops S0 S1) t.len listed a w
def WE (P:Program) (ops:Array Oper) (n:Nat) (S0 S1:World→Prop) (K:Fr→World→Prop) (i:Nat) (t:PT) (f:Fr) (w:World):Prop :=
 ∀ a listed,Is n a f→Region.noSelect ops=true→i∈Region.ready .any ops listed→ko ops t (listed.setIfInBounds i true)=true→rh ops (two ops S0 S1) listed w →
  wpOp P ops (pZ n K) i (fun a' w'=>rh ops (two ops S0 S1) (listed.setIfInBounds i true) w'∧mM P ops (pZ n K) (two ops S0 S1) t.len (listed.setIfInBounds i true) a' w') a w
theorem Y1 {ops:Array Oper} {listed:Array Bool} {i l:Nat} (hm:i∈Region.ready .any ops listed) (hl:di ops i l=true) (h:nl ops l (listed.setIfInBounds i true)=true):False:=by
 obtain ⟨hu,o,ho,_⟩:=mem_ready.1 hm
 have hlt:i<listed.size:=by
  rcases Nat.lt_or_ge i listed.size with h'|h'
  ·exact h'
  ·simp [Array.getElem?_eq_none h'] at hu
 have h1:=BI.1 h i (Array.getElem?_eq_some_iff.1 ho).1 hl
 simp [hlt] at h1
section
variable {P:Program} {n:Nat} {f:Fr} {w:World} {ops:Array Oper} {o:Oper} {S0 S1:World→Prop} {K:Fr→World→Prop} {pl s t:PT} {i j':Nat}
theorem Y3 (h:K f w):WT P ops n S0 S1 K .nil f w:=fun a listed ha _ hp _ =>
 ⟨by simpa [ko] using hp,rfl,f,ha,h⟩
theorem aeK (h:WE P ops n S0 S1 K i t f w):WT P ops n S0 S1 K (.e i t) f w:=fun a listed ha hs hp hS=>by
 simp only [ko,Bool.and_eq_true,beq_iff_eq] at hp
 refine ki hp.1 (by simp) fun k hk=>?_
 obtain rfl:k=i:=by simpa using hk
 exact h a listed ha hs (by rw [hp.1];exact .head _) hp.2 hS
theorem aeL (h:KV (WE P ops n S0 S1 K i s f w) (WE P ops n S0 S1 K j' t f w)):WT P ops n S0 S1 K (.f i j' s t) f w:=fun a listed ha hs hp hS=>by
 simp only [ko,Bool.and_eq_true,beq_iff_eq] at hp
 obtain ⟨⟨h1,h2⟩,h3,h4⟩:=hp
 refine ki h1 (by simp) fun k hk=>?_
 rcases (by simpa using hk:k=i∨k=j') with rfl|rfl
 ·exact h.l a listed ha hs (by rw [h1];exact .head _) h3 hS
 ·have:=h.r a listed ha hs (by rw [h1];exact .tail _ (.head _)) h4 hS
  rw [← h2] at this
  exact this
theorem aeM {u:PT} {k':Nat} (h:KV (WE P ops n S0 S1 K i s f w) (KV (WE P ops n S0 S1 K j' t f w) (WE P ops n S0 S1 K k' u f w))):WT P ops n S0 S1 K (.g i j' k' s t u) f w:=fun a listed ha hs hp hS=>by
 simp only [ko,Bool.and_eq_true,beq_iff_eq] at hp
 obtain ⟨⟨h1,h2,h2'⟩,h3,h4,h5⟩:=hp
 refine ki h1 (by simp) fun k hk=>?_
 rcases (by simpa using hk:k=i∨k=j'∨k=k') with rfl|rfl|rfl
 ·exact h.l a listed ha hs (by rw [h1];exact .head _) h3 hS
 ·have:=h.r.l a listed ha hs (by rw [h1];exact .tail _ (.head _)) h4 hS
  rw [← h2] at this
  exact this
 ·have:=h.r.r a listed ha hs (by rw [h1];exact .tail _ (.tail _ (.head _))) h5 hS
  rw [← h2'] at this
  exact this
theorem Qk {v:Value} (ld:Bool) (hld:ld=true→l9 ops i=true) (hi:ops[i]?=some o) (hd:fx n o.dst=true) (hw:∀ a,Is n a f→(Region.wanted o (yielded ops a.tmps)=true∧∀ w,(ld=true→two ops S0 S1 i w)→(execOp (ev f) o).run P w=.ok (.value v) w)∨(Region.wanted o (yielded ops a.tmps)=false∧v=undef))
  (hk:WT P ops n S0 S1 K pl (cH f o.dst v) w):WT P ops n S0 S1 K (.q i pl) f w:=fun a listed ha hs hp hS=>by
 simp only [ko,Bool.and_eq_true,Bool.or_eq_true,Bool.not_eq_true'] at hp
 obtain ⟨⟨h1,h2,h3,h4⟩,h5⟩:=hp
 refine ri (ld:=ld) hi hld h4 (Region.noSelect_spec hs) (fun _ _ _ h=>by cases h.1) _ listed a w (Region.free_spec hi h1) (by simpa using h2) ?_ hS (fun hd=>?_) (hk _ _ (ha.put o.dst v hd) hs h5 hS.less)
 ·unfold YieldsIf
  rw [ha.eval]
  exact hw a ha
 ·rcases h3 with h|h
  ·rw [hld hd] at h;cases h
  ·exact h
theorem JD (hi:ops[i]?=some o) (hd:fx n o.dst=true) (hw:∀ a,Is n a f→Region.wanted o (yielded ops a.tmps)=true) (h:WO P (bn P) o f w fun v w'=>(∀ l,l9 ops l=true→di ops i l=false→two ops S0 S1 l w')∧WT P ops n S0 S1 K pl (cH f o.dst v) w'):WE P ops n S0 S1 K i pl f w:=fun a listed ha hs hm hp hS=>by
 unfold wpOp
 simp only [hi,hw a ha,if_true]
 have hSS:∀ w',(∀ l,l9 ops l=true→di ops i l=false→two ops S0 S1 l w')→rh ops (two ops S0 S1) (listed.setIfInBounds i true) w':=fun w' h1 l hl h2=>by
  cases hx:di ops i l with
  | false=>exact h1 l hl hx
  | true=>exact (Y1 hm hx h2).elim
 exact .inl (gF ha h fun v w' hk=>⟨hSS w' hk.1,hk.2 _ _ (ha.put o.dst v hd) hs hp (hSS w' hk.1)⟩)
variable {op:Op} {ty:TypeId} {p:String} {af:Array Edge} {d j e:Nat} {b c:Bool} {v:Value}
theorem abK (hl:l9 ops i=true) (hn:EU ops i=false) (hi:ops[i]?=some ⟨some d,op,ty,p,af,none⟩) (hd:Nat.blt d n=true) (h:∀ w',S0 w'→WO P lF ⟨some d,op,ty,p,af,none⟩ f w' fun v' w''=>v'=v∧w''=w') (hv:gI v=true)
  (hk:WT P ops n S0 S1 K pl (cw f d v) w):WT P ops n S0 S1 K (.q i pl) f w :=
 Qk true (fun _=>hl) hi hd (fun a _=>.inl ⟨by simp [Region.wanted],fun w' hS=>ez hv (h w' (by rcases hS rfl with h|h;exact h;rw [hn] at h;cases h.1))⟩) hk
theorem abL (hl:l9 ops i=true) (h01:∀ w',S0 w'→S1 w') (hi:ops[i]?=some ⟨some d,op,ty,p,af,none⟩) (hd:Nat.blt d n=true) (h:∀ w',S1 w'→WO P lF ⟨some d,op,ty,p,af,none⟩ f w' fun v' w''=>v'=v∧w''=w') (hv:gI v=true)
  (hk:WT P ops n S0 S1 K pl (cw f d v) w):WT P ops n S0 S1 K (.q i pl) f w :=
 Qk true (fun _=>hl) hi hd (fun a _=>.inl ⟨by simp [Region.wanted],fun w' hS=>ez hv (h w' (by rcases hS rfl with h|h;exact h01 _ h;exact h.2))⟩) hk
theorem abM (hi:ops[i]?=some ⟨some d,op,ty,p,af,none⟩) (hd:Nat.blt d n=true) (h:∀ w',True→WO P lF ⟨some d,op,ty,p,af,none⟩ f w' fun v' w''=>v'=v∧w''=w') (hv:gI v=true)
  (hk:WT P ops n S0 S1 K pl (cw f d v) w):WT P ops n S0 S1 K (.q i pl) f w :=
 Qk false (fun h=>by cases h) hi hd (fun a _=>.inl ⟨by simp [Region.wanted],fun w' _=>ez hv (h w' trivial)⟩) hk
theorem abN (hi:ops[i]?=some ⟨some d,op,ty,p,af,none⟩) (hd:Nat.blt d n=true) (h:WO P (bn P) ⟨some d,op,ty,p,af,none⟩ f w fun v w'=>S0 w'∧WT P ops n S0 S1 K pl (cw f d v) w'):WE P ops n S0 S1 K i pl f w :=
 JD hi hd (fun a _=>by simp [Region.wanted]) (jG h fun _ _ hk=>⟨fun _ _ _=>.inl hk.1,hk.2⟩)
theorem abO (hi:ops[i]?=some ⟨some d,op,ty,p,af,none⟩) (hl:ET ops i=true) (hd:Nat.blt d n=true) (h:WO P (bn P) ⟨some d,op,ty,p,af,none⟩ f w fun v w'=>WT P ops n S0 S1 K pl (cw f d v) w'):WE P ops n S0 S1 K i pl f w :=
 JD hi hd (fun a _=>by simp [Region.wanted]) (jG h fun _ _ hk=>⟨uj hl,hk⟩)
theorem Y4 (hi:ops[i]?=some ⟨none,op,ty,p,af,none⟩) (hs:Qd ops i=true) (h:WO P (bn P) ⟨none,op,ty,p,af,none⟩ f w fun _ w'=>S1 w'∧WT P ops n S0 S1 K pl f w'):WE P ops n S0 S1 K i pl f w :=
 JD hi rfl (fun a _=>by simp [Region.wanted]) (jG h fun _ _ hk=>⟨JA hs hk.1,hk.2⟩)
theorem Y5 (hi:ops[i]?=some ⟨none,op,ty,p,af,none⟩) (hl:ET ops i=true) (h:WO P (bn P) ⟨none,op,ty,p,af,none⟩ f w fun _ w'=>WT P ops n S0 S1 K pl f w'):WE P ops n S0 S1 K i pl f w :=
 JD hi rfl (fun a _=>by simp [Region.wanted]) (jG h fun _ _ hk=>⟨uj hl,hk⟩)
theorem Ql (h:WT P ops n S0 S1 K pl f w):WT P ops n S0 S1 K pl f w:=h
theorem Qm (h:WE P ops n S0 S1 K i pl f w):WE P ops n S0 S1 K i pl f w:=h
theorem nN {F:List Nat} {W:World} {L:List bX} {Q:Exit→Fr→World→Prop} {id:Nat} {l:List Oper} (t:PT) (hm:P.follows .mixedOrders=true) (hB:JC l.toArray t=true) (hM:Own F W w L)
  (h:∀ w1,Own F W w1 L→WT P l.toArray n (fun w2=>Own F W w2 L) (fun w2=>Own F W w2 L) (fun f' w'=>Q .normal f' w') t f w1):WC P n Q (.region id l.toArray true) f w:=by
 unfold WC
 intro a ha
 simp only [JC,Bool.and_eq_true,beq_iff_eq] at hB
 have h1:=h _ hM.drew a _ ha hB.1.2 hB.2 fun _ _ _=>.inl hM.drew
 rw [hB.1.1] at h1
 refine wp_mono (wp_region_any (id:=id) (Q:=pZ n fun f' w'=>Q .normal f' w') hm (mN _ _ _ _ h1)) fun e a' w' he=>?_
 obtain ⟨rfl,f',ha',hq⟩:=he
 exact ⟨f',ha',hq⟩
end
end R
section
end
section
structure Sg where
 neg:Bool
 br:Wd
theorem Sg.ext_iff {a b:Sg}:a=b↔a.neg=b.neg∧a.br=b.br:=by
 cases a;cases b;simp
instance:DecidableEq Sg:=fun a b=>decidable_of_iff (a.neg=b.neg∧a.br=b.br) Sg.ext_iff.symm
instance:Inhabited Sg:=⟨⟨false,W 0⟩⟩
structure Rt where
 num:Sg
 den:Wd
def cS (x:Sg):List Value:=.bool x.neg::cW x.br
theorem OC (x:Sg):∀ v∈cS x,v.oneCell'=true:=by simp [cS,cW,ee,Value.oneCell']
theorem OD {a b:Sg} (h:cS a=cS b):a=b:=by
 have h1:Value.bool a.neg=.bool b.neg∧cW a.br=cW b.br:=by simpa [cS] using h
 exact Sg.ext_iff.2 ⟨by injection h1.1,Hd h1.2⟩
section
variable {C:bO} {o:Oper} {f:R.Fr} {F:List Nat} {W0 w:World} {K:Value→World→Prop} {l l':List bX} {t u e:TypeId} {x y i:Operand} {g:Nat} {s:Sg} {r:Rt} {m:Wd} {b:Bool}
theorem GS (hop:o.op=.alloc 111) (hM:R.Own F W0 w l) (hk:∀ g w',R.Own F W0 w' (.blk g 111 (cS ⟨false,W 0⟩)::l)→K (.pointer (some ⟨g,0,none⟩)) w'):WO Tryz.prog C o f w K :=
 dO hop hM (by unfold cS at hk;rw [Bw bK,eZ] at hk;exact hk)
theorem AP (hop:o.op=.build 111 #[(0,x),(1,y)]) (hx:ev f x=.bool b) (hy:ev f y=.agg (cW m).toArray) (hk:K (.agg (cS ⟨b,m⟩).toArray) w):WO Tryz.prog C o f w K :=
 iv hop hx hy rfl rfl Zk (by (simp only [ej,List.getD_cons_zero,List.getD_cons_succ]) <;> rfl) hk
theorem AQ (hop:o.op=.build 111 #[(1,y)]) (hy:ev f y=.agg (cW m).toArray) (hk:K (.agg (cS ⟨false,m⟩).toArray) w):WO Tryz.prog C o f w K :=
 j6 hop hy rfl Zk (by (simp only [ej,List.getD_cons_zero,List.getD_cons_succ]) <;> rfl) hk
theorem AR (hop:o.op=.build 111 #[]) (hk:K (.agg (cS ⟨false,W 0⟩).toArray) w):WO Tryz.prog C o f w K:=by
 unfold cS at hk
 rw [Bw bK,eZ] at hk
 exact mG hop Zk rfl hk
theorem AU (hop:o.op=.load t x) (hx:ev f x=.pointer (some ⟨g,1,none⟩)) [aG Tryz.prog t true] [dP Tryz.prog t 8] (hM:R.Own F W0 w l) (hm:.blk g u (cS s)∈l) (hk:K (.agg (cW s.br).toArray) w):WO Tryz.prog C o f w K :=
 cN (j:=1) (m:=8) (cs:=cS s) hop hx rfl hM hm rfl (by
  have e:List.take 8 (List.drop 1 (cS s))=cW s.br:=rfl
  rw [e];exact hk)
theorem AV (hop:o.op=.load t x) (hx:ev f x=.pointer (some ⟨g,1,none⟩)) [aG Tryz.prog t false] (hM:R.Own F W0 w l) (hm:.blk g u (cS s)∈l) (h:K (.int .u64 (wd s.br.n 0:Nat)) w):WO Tryz.prog C o f w K :=
 dt (j:=1) hop hx rfl hM hm rfl h
end
theorem R.lU {P:Program} {C:bO} {o:Oper} {f:R.Fr} {F:List Nat} {W0 w:World} {K:Value→World→Prop} {l l':List bX} {t u:TypeId} {x y:Operand} {g j m:Nat} {cs ds:List Value} (hop:o.op=.store t x y) (hx:ev f x=.pointer (some ⟨g,j,none⟩)) (hy:ev f y=.agg ds.toArray) [hs:dP P t m] (hM:R.Own F W0 w l) (hu:oM l (.blk g u cs) (.blk g u (cs.take j++ds++cs.drop (j+ds.length))) l') (hm:ds.length=m) (hn:j+ds.length≤cs.length) (h1:∀ v∈ds,v.oneCell'=true) (hk:∀ w',R.Own F W0 w' l'→K undef w'):WO P C o f w K:=by
 have h:=run_storeCells_at P g j u ds 0 cs.toArray w (hM.ok _ hu.old) (by simpa using hn) h1
 have h2:(storeVar t ⟨g,j,none⟩ (.agg ds.toArray)).run P w=.ok () (w.setRow g (cs.take j++ds++cs.drop (j+ds.length)).toArray):=by
  have hi:(P.info? t).map (·.size)=some m:=hs.h
  cases hq:P.info? t with
  | none=>simp [hq] at hi
  | some i =>
   have hs:ds.length=i.size:=by simp [hq] at hi;omega
   simp only [Nat.add_zero] at h
   simp [storeVar,sizeOf,typeInfo,hq,Value.cells,hs]
   simpa [hs] using h
 refine C4 ?_ (hk _ (hM.setRow hu))
 simp [execOp,hop,hx,hy,Instr.storeAt,Instr.sureAddr,h2]
section
variable {C:bO} {o:Oper} {f:R.Fr} {F:List Nat} {W0 w:World} {K:Value→World→Prop} {l l':List bX} {t u:TypeId} {x y:Operand} {g:Nat} {s:Sg} {r:Rt} {m:Wd}
end
end
section
structure Sp where
 x:Sg
 y:Sg
 w:Wd
theorem Sp.ext_iff {a b:Sp}:a=b↔a.x=b.x∧a.y=b.y∧a.w=b.w:=by
 cases a;cases b;simp
instance:DecidableEq Sp:=fun a b=>decidable_of_iff (a.x=b.x∧a.y=b.y∧a.w=b.w) Sp.ext_iff.symm
instance:Inhabited Sp:=⟨⟨default,default,W 0⟩⟩
def bF (s:Sp):List Value:=cS s.x++(cS s.y++cW s.w)
theorem T4 (x:Sp):∀ v∈bF x,v.oneCell'=true:=by simp [bF,cS,cW,ee,Value.oneCell']
instance acR:cA bF 26:=⟨fun _=>by simp [bF,cS,cW,ee],T4,by decide⟩
instance acS:iU Tryz.prog 113 Sp bF 26:={}
theorem Jf {a b:Sp} (h:bF a=bF b):a=b:=by
 have h1:=List.append_inj h rfl
 have h2:=List.append_inj h1.2 rfl
 exact Sp.ext_iff.2 ⟨OD h1.1,OD h2.1,Hd h2.2⟩
instance YA:Tv Tryz.prog 113 Sp bF:=vm (ls:=[none,some .u64,some .u64,some .u64,some .u64,some .u64,some .u64,some .u64,some .u64,none,some .u64,some .u64,some .u64,some .u64,some .u64,some .u64,some .u64,some .u64,some .u64,some .u64,some .u64,some .u64,some .u64,some .u64,some .u64,some .u64]) wq wq wq
 (fun _=>⟨rfl,rfl,rfl,rfl,rfl,rfl,rfl,rfl,rfl,rfl,rfl,rfl,rfl,rfl,rfl,rfl,rfl,rfl,rfl,rfl,rfl,rfl,rfl,rfl,trivial⟩) (fun _ _=>Jf)
section
variable {C:bO} {o:Oper} {f:R.Fr} {F:List Nat} {W0 w:World} {K:Value→World→Prop} {l l':List bX} {t u e:TypeId} {x y z i:Operand} {g:Nat} {s s2:Sg} {p:Sp} {m:Wd} {b:Bool}
theorem AY (hop:o.op=.alloc 113) (hM:R.Own F W0 w l) (hk:∀ g w',R.Own F W0 w' (.blk g 113 (bF ⟨⟨false,W 0⟩,⟨false,W 0⟩,W 0⟩)::l)→K (.pointer (some ⟨g,0,none⟩)) w'):WO Tryz.prog C o f w K :=
 dO hop hM (by unfold bF cS at hk;rw [Bw bK,eZ] at hk;exact hk)
theorem AZ (hop:o.op=.build 111 #[(0,x)]) (hx:ev f x=.bool b) (hk:K (.agg (cS ⟨b,W 0⟩).toArray) w):WO Tryz.prog C o f w K:=by
 unfold cS at hk
 rw [Bw bK,eZ] at hk
 exact j6 hop hx rfl Zk (by (simp only [ej,List.getD_cons_zero]) <;> rfl) hk
theorem vW (hop:o.op=.build 113 #[(0,x),(1,y)]) (hx:ev f x=.agg (cS s).toArray) (hy:ev f y=.agg (cS s2).toArray) (hk:K (.agg (bF ⟨s,s2,W 0⟩).toArray) w):WO Tryz.prog C o f w K:=by
 unfold bF at hk
 rw [Bw bK,eZ] at hk
 exact iv hop hx hy rfl rfl Zk (by (simp only [ej,List.getD_cons_zero,List.getD_cons_succ]) <;> rfl) hk
theorem A9 (hop:o.op=.load t x) (hx:ev f x=.pointer (some ⟨g,0,none⟩)) [aG Tryz.prog t true] [dP Tryz.prog t 9] (hM:R.Own F W0 w l) (hm:.blk g u (bF p)∈l) (hk:K (.agg (cS p.x).toArray) w):WO Tryz.prog C o f w K :=
 cN (j:=0) (m:=9) (cs:=bF p) hop hx rfl hM hm rfl (by
  have e:List.take 9 (List.drop 0 (bF p))=cS p.x:=rfl
  rw [e];exact hk)
theorem Ba (hop:o.op=.load t x) (hx:ev f x=.pointer (some ⟨g,9,none⟩)) [aG Tryz.prog t true] [dP Tryz.prog t 9] (hM:R.Own F W0 w l) (hm:.blk g u (bF p)∈l) (hk:K (.agg (cS p.y).toArray) w):WO Tryz.prog C o f w K :=
 cN (j:=9) (m:=9) (cs:=bF p) hop hx rfl hM hm rfl (by
  have e:List.take 9 (List.drop 9 (bF p))=cS p.y:=rfl
  rw [e];exact hk)
theorem vX (hop:o.op=.load t x) (hx:ev f x=.pointer (some ⟨g,1,none⟩)) [aG Tryz.prog t true] [dP Tryz.prog t 8] (hM:R.Own F W0 w l) (hm:.blk g u (bF p)∈l) (hk:K (.agg (cW p.x.br).toArray) w):WO Tryz.prog C o f w K :=
 cN (j:=1) (m:=8) (cs:=bF p) hop hx rfl hM hm rfl (by
  have e:List.take 8 (List.drop 1 (bF p))=cW p.x.br:=rfl
  rw [e];exact hk)
theorem vY (hop:o.op=.load t x) (hx:ev f x=.pointer (some ⟨g,10,none⟩)) [aG Tryz.prog t true] [dP Tryz.prog t 8] (hM:R.Own F W0 w l) (hm:.blk g u (bF p)∈l) (hk:K (.agg (cW p.y.br).toArray) w):WO Tryz.prog C o f w K :=
 cN (j:=10) (m:=8) (cs:=bF p) hop hx rfl hM hm rfl (by
  have e:List.take 8 (List.drop 10 (bF p))=cW p.y.br:=rfl
  rw [e];exact hk)
theorem Bb (hop:o.op=.load t x) (hx:ev f x=.pointer (some ⟨g,18,none⟩)) [aG Tryz.prog t true] [dP Tryz.prog t 8] (hM:R.Own F W0 w l) (hm:.blk g u (bF p)∈l) (hk:K (.agg (cW p.w).toArray) w):WO Tryz.prog C o f w K :=
 cN (j:=18) (m:=8) (cs:=bF p) hop hx rfl hM hm rfl (by
  have e:List.take 8 (List.drop 18 (bF p))=cW p.w:=rfl
  rw [e];exact hk)
theorem Bc (hop:o.op=.store t x y) (hx:ev f x=.pointer (some ⟨g,0,none⟩)) (hy:ev f y=.agg (cS s).toArray) [dP Tryz.prog t 9] (hM:R.Own F W0 w l) (hu:oM l (.blk g u (bF p)) (.blk g u (bF ⟨s,p.y,p.w⟩)) l') (hk:∀ w',R.Own F W0 w' l'→K undef w'):WO Tryz.prog C o f w K :=
 lU (cs:=bF p) hop hx hy hM hu rfl (by show 9≤26;decide) (OC s) hk
theorem Bd (hop:o.op=.store t x y) (hx:ev f x=.pointer (some ⟨g,9,none⟩)) (hy:ev f y=.agg (cS s).toArray) [dP Tryz.prog t 9] (hM:R.Own F W0 w l) (hu:oM l (.blk g u (bF p)) (.blk g u (bF ⟨p.x,s,p.w⟩)) l') (hk:∀ w',R.Own F W0 w' l'→K undef w'):WO Tryz.prog C o f w K :=
 lU (cs:=bF p) hop hx hy hM hu rfl (by show 18≤26;decide) (OC s) hk
theorem vZ (hop:o.op=.store t x y) (hx:ev f x=.pointer (some ⟨g,1,none⟩)) (hy:ev f y=.agg (cW m).toArray) [dP Tryz.prog t 8] (hM:R.Own F W0 w l) (hu:oM l (.blk g u (bF p)) (.blk g u (bF ⟨⟨p.x.neg,m⟩,p.y,p.w⟩)) l') (hk:∀ w',R.Own F W0 w' l'→K undef w'):WO Tryz.prog C o f w K :=
 lU (cs:=bF p) hop hx hy hM hu rfl (by show 9≤26;decide) (Bz m) hk
theorem v8 (hop:o.op=.store t x y) (hx:ev f x=.pointer (some ⟨g,10,none⟩)) (hy:ev f y=.agg (cW m).toArray) [dP Tryz.prog t 8] (hM:R.Own F W0 w l) (hu:oM l (.blk g u (bF p)) (.blk g u (bF ⟨p.x,⟨p.y.neg,m⟩,p.w⟩)) l') (hk:∀ w',R.Own F W0 w' l'→K undef w'):WO Tryz.prog C o f w K :=
 lU (cs:=bF p) hop hx hy hM hu rfl (by show 18≤26;decide) (Bz m) hk
theorem Be (hop:o.op=.store t x y) (hx:ev f x=.pointer (some ⟨g,18,none⟩)) (hy:ev f y=.agg (cW m).toArray) [dP Tryz.prog t 8] (hM:R.Own F W0 w l) (hu:oM l (.blk g u (bF p)) (.blk g u (bF ⟨p.x,p.y,m⟩)) l') (hk:∀ w',R.Own F W0 w' l'→K undef w'):WO Tryz.prog C o f w K :=
 lU (cs:=bF p) hop hx hy hM hu rfl (by show 26≤26;decide) (Bz m) hk
end
def R.VX {T:Type} (G:World→T→Prop) (W:World) (x:T):Prop:=∀ w,Below W.heap.size W w→G w x
theorem R.Df {T:Type} {G:World→T→Prop} {W w:World} {x:T} {l:List bX} (h:VX G W x) (hM:R.Own [] W w l):G w x:=h w hM.below
theorem R.wa {P:Program} {C:bO} {o:Oper} {f:R.Fr} {w:World} {K:Value→World→Prop} {t e:TypeId} {x i:Operand} {A:Option Addr} {m sz off n q jn:Nat} {k:IntKind} {j:Int} (hop:o.op=.indexAddr t x i) [ht:FU P t n e q] (hx:ev f x=R.ptr A m sz off) (hA:∃ a,A=some a) (hi:ev f i=.int k j) (h0:0≤j) (h1:j<n) [hj:Tu j jn] (hk:K (R.ptr A m sz (off+jn*q)) w):WO P C o f w K:=by
 obtain ⟨a,rfl⟩:=hA
 refine jJ hop (by rw [hx,eX]) hi h0 h1 ?_
 rw [jN,Nat.add_assoc,hj.h]
 rw [eX] at hk
 exact hk
end
section
structure Pt where
 x:Int
 y:Int
 deriving DecidableEq,Inhabited
def cr (x:Pt):List Value:=[.int .i64 x.x,.int .i64 x.y]
instance ac4:cA cr 2:=⟨fun _=>rfl,by simp [cr,Value.oneCell'],by decide⟩
instance ac5:iU Tryz.prog 32 Pt cr 2:={}
instance aeN:Tv Tryz.prog 32 Pt cr:=vm (ls:=[some .i64,some .i64]) wq wq wq (fun _=>⟨rfl,rfl,trivial⟩) (fun a b h=>by cases a;cases b;simpa [cr] using h)
structure bJ where
 a:Pt
 b:Pt
 deriving DecidableEq,Inhabited
def bD (s:bJ):List Value:=cr s.a++cr s.b
instance abP:cA bD 4:=⟨fun _=>rfl,by simp [bD,cr,Value.oneCell'],by decide⟩
instance abQ:iU Tryz.prog 56 bJ bD 4:={}
structure Wy where
 x:Sg
 y:Sg
def EX (v:Wy):List Value:=cS v.x++cS v.y
section
variable {C:bO} {o:Oper} {f:R.Fr} {F:List Nat} {W0 w:World} {K:Value→World→Prop} {l l':List bX} {t u e:TypeId} {x y z i:Operand} {g:Nat} {s s2:Sg} {p:Wy} {m:Wd} {b:Bool}
theorem BJ (hop:o.op=.alloc 653) (hM:R.Own F W0 w l) (hk:∀ g w',R.Own F W0 w' (.blk g 653 (EX ⟨⟨false,W 0⟩,⟨false,W 0⟩⟩)::l)→K (.pointer (some ⟨g,0,none⟩)) w'):WO Tryz.prog C o f w K :=
 dO hop hM (by unfold EX cS at hk;rw [Bw bK,eZ] at hk;exact hk)
theorem BK (hop:o.op=.build 653 #[(0,x),(1,y)]) (hx:ev f x=.agg (cS s).toArray) (hy:ev f y=.agg (cS s2).toArray) (hk:K (.agg (EX ⟨s,s2⟩).toArray) w):WO Tryz.prog C o f w K :=
 iv hop hx hy rfl rfl Zk (by (simp only [ej,List.getD_cons_zero,List.getD_cons_succ]) <;> rfl) hk
theorem BL (hop:o.op=.load t x) (hx:ev f x=.pointer (some ⟨g,0,none⟩)) [aG Tryz.prog t true] [dP Tryz.prog t 9] (hM:R.Own F W0 w l) (hm:.blk g u (EX p)∈l) (hk:K (.agg (cS p.x).toArray) w):WO Tryz.prog C o f w K :=
 cN (j:=0) (m:=9) (cs:=EX p) hop hx rfl hM hm rfl (by
  have e:List.take 9 (List.drop 0 (EX p))=cS p.x:=rfl
  rw [e];exact hk)
theorem BM (hop:o.op=.load t x) (hx:ev f x=.pointer (some ⟨g,9,none⟩)) [aG Tryz.prog t true] [dP Tryz.prog t 9] (hM:R.Own F W0 w l) (hm:.blk g u (EX p)∈l) (hk:K (.agg (cS p.y).toArray) w):WO Tryz.prog C o f w K :=
 cN (j:=9) (m:=9) (cs:=EX p) hop hx rfl hM hm rfl (by
  have e:List.take 9 (List.drop 9 (EX p))=cS p.y:=rfl
  rw [e];exact hk)
theorem BN {p:bJ} (hop:o.op=.load t x) (hx:ev f x=.pointer (some ⟨g,0,none⟩)) [aG Tryz.prog t true] [dP Tryz.prog t 2] (hM:R.Own F W0 w l) (hm:.blk g u (bD p)∈l) (hk:K (.agg (cr p.a).toArray) w):WO Tryz.prog C o f w K :=
 cN (j:=0) (m:=2) (cs:=bD p) hop hx rfl hM hm rfl (by
  have e:List.take 2 (List.drop 0 (bD p))=cr p.a:=rfl
  rw [e];exact hk)
theorem BO {p:bJ} (hop:o.op=.load t x) (hx:ev f x=.pointer (some ⟨g,2,none⟩)) [aG Tryz.prog t true] [dP Tryz.prog t 2] (hM:R.Own F W0 w l) (hm:.blk g u (bD p)∈l) (hk:K (.agg (cr p.b).toArray) w):WO Tryz.prog C o f w K :=
 cN (j:=2) (m:=2) (cs:=bD p) hop hx rfl hM hm rfl (by
  have e:List.take 2 (List.drop 2 (bD p))=cr p.b:=rfl
  rw [e];exact hk)
end
end
end Go.Proofs.YtlmabdegojeheaaGreatDoor
