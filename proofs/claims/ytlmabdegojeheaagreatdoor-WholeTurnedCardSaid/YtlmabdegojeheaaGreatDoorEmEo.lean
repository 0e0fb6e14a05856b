/- WholeTurned: parts of its proof (Em En Eo). -/
import Derived.Test.YtlmabdegojeheaaGreatDoorEjEl
namespace Go.Proofs.YtlmabdegojeheaaGreatDoor
open R Go.RowKit
namespace E
def Z8:Ex→Exit
 | .n=>.normal
 | .x id=>.exit id
 | .r=>.ret
def EP (n:Nat) (ρ:Rn) (h:H) (nx:Nat) (w:World) (e:Ex) (fr':F) (h':H) (aL:Nat):Exit→Act→World→Prop:=fun e' a' w'=>e'=Z8 e∧∃ ρ' f',Is n a' f'∧FD ρ' f' fr'∧dH ρ h nx w ρ' h' aL w'
def yY (P:Program) (n:Nat) (call:dB):Prop:=∀ {ops:Array Oper} {id:Nat} {ρ:Rn} {f:Fr} {fr fr':F} {h h':H} {nx aL:Nat} {w:World} {a:Act},R8 P n call ops.toList fr h nx=some (fr',h',aL)→FD ρ f fr→Sat ρ h w→tD ρ nx→Is n a f →
 (Code.region id ops true).wp P (EP n ρ h nx w .n fr' h' aL) a w
section
variable {P:Program} {call:dB} {n:Nat}
theorem uR {x:XR} {K:Ex→F→H→Nat→XR} {r:Ex×F×H×Nat} (h:WK x K=some r):∃ e fr h nx,x=some (e,fr,h,nx)∧K e fr h nx=some r:=by
 obtain ⟨⟨e,fr,h,nx⟩,h1,h2⟩:=Kr h
 exact ⟨e,fr,h,nx,h1,h2⟩
theorem MU {x:RR} {K:F→H→Nat→XR} {r:Ex×F×H×Nat} (h:onR x K=some r):∃ fr h nx,x=some (fr,h,nx)∧K fr h nx=some r:=by
 obtain ⟨⟨fr,h,nx⟩,h1,h2⟩:=Kr h
 exact ⟨fr,h,nx,h1,h2⟩
theorem EP.on {ρ ρ1:Rn} {h h1:H} {nx nx1:Nat} {w w1:World} {e:Ex} {fr':F} {h':H} {aL:Nat} (s:dH ρ h nx w ρ1 h1 nx1 w1) {e':Exit} {a':Act} {w':World} (k:EP n ρ1 h1 nx1 w1 e fr' h' aL e' a' w'):EP n ρ h nx w e fr' h' aL e' a' w':=by
 obtain ⟨rfl,ρ',f',ha,hd,hs⟩:=k
 exact ⟨rfl,ρ',f',ha,hd,s.trans hs⟩
def MV (P:Program) (n:Nat) (call:dB) (c:Code):Prop:=∀ {ρ:Rn} {f:Fr} {fr fr':F} {h h':H} {nx aL:Nat} {w:World} {a:Act} {e:Ex},exec P n call c fr h nx=some (e,fr',h',aL)→FD ρ f fr→Sat ρ h w→tD ρ nx→Is n a f→c.wp P (EP n ρ h nx w e fr' h' aL) a w
theorem FN (body:F→H→Nat→XR) (m:Nat) (fr:F) (h:H) (nx:Nat):Cx body (m+1) fr h nx=WK (body fr h nx) fun e fr' h' aL=>Ex.rec (motive:=fun _=>XR) (Cx body m fr' h' aL) (fun id=>some (.x id,fr',h',aL)) (some (.r,fr',h',aL)) e:=rfl
theorem pX {c:Code} {Q Q':Exit→Act→World→Prop} (hq:∀ e a w,Q e a w→Q' e a w):∀ {m:Nat} {a:Act} {w:World},Code.rounds P c Q m a w→Code.rounds P c Q' m a w
 | 0,_,_,h=>h
 | m+1,a,w,h=>by
  rw [rounds_succ] at *
  refine wp_mono h fun e a' w' k=>?_
  cases e with
  | normal=>exact pX hq k
  | _=>exact hq _ _ _ k
theorem Ik {c:Code} (ih:MV P n call c):∀ (m:Nat) {ρ:Rn} {f:Fr} {fr fr':F} {h h':H} {nx aL:Nat} {w:World} {a:Act} {e:Ex},Cx (exec P n call c) m fr h nx=some (e,fr',h',aL)→FD ρ f fr→Sat ρ h w→tD ρ nx→Is n a f→Code.rounds P c (EP n ρ h nx w e fr' h' aL) m a w
 | 0,ρ,f,fr,fr',h,h',nx,aL,w,a,e,hr,_,_,_,_=>by cases hr
 | m+1,ρ,f,fr,fr',h,h',nx,aL,w,a,e,hr,hD,hs,hf,ha=>by
  obtain ⟨e1,fr1,h1,nx1,k1,k2⟩:=uR ((FN _ _ _ _ _).symm.trans hr)
  rw [rounds_succ]
  refine wp_mono (ih k1 hD hs hf ha) fun e' a' w' he=>?_
  obtain ⟨rfl,ρ',f',ha',hD',st⟩:=he
  cases e1 with
  | n =>
   have:=Ik ih m k2 hD' st.sat (st.free hf) ha'
   show Code.rounds P c (EP n ρ h nx w e fr' h' aL) m a' w'
   exact pX (fun e2 a2 w2 k=>k.on st) this
  | x id =>
   cases k2
   exact ⟨rfl,ρ',f',ha',hD',st⟩
  | r =>
   cases k2
   exact ⟨rfl,ρ',f',ha',hD',st⟩
section
variable (c x y:Code) (fr:F) (h:H) (nx:Nat)
theorem CT (id:Nat) (ops:Array Oper) (draw:Bool):exec P n call (.region id ops draw) fr h nx=onR (bif draw then R8 P n call ops.toList fr h nx else R7 P n call ops.toList ops.toList fr h nx) fun fr' h' aL=>some (.n,fr',h',aL):=rfl
theorem MW:exec P n call (.seq x y) fr h nx=WK (exec P n call x fr h nx) fun e fr' h' aL=>Ex.rec (motive:=fun _=>XR) (exec P n call y fr' h' aL) (fun id=>some (.x id,fr',h',aL)) (some (.r,fr',h',aL)) e:=rfl
theorem Ks (o:Operand):exec P n call (.cond o x y) fr h nx=Option.rec (motive:=fun _=>XR) none (fun d=>Option.rec (motive:=fun _=>XR) none (fun v=>match v with|.b t=>Bool.rec (motive:=fun _=>XR) (exec P n call y fr h nx) (exec P n call x fr h nx) t|_=>none) (Mq fr d)) (cO o):=rfl
theorem FO (id:Nat):exec P n call (.block id c) fr h nx=WK (exec P n call c fr h nx) fun e fr' h' aL=>Ex.rec (motive:=fun _=>XR) (some (.n,fr',h',aL)) (fun j=>bif Nat.beq j id then some (.n,fr',h',aL) else some (.x j,fr',h',aL)) (some (.r,fr',h',aL)) e:=rfl
theorem Kt:exec P n call (.loop c) fr h nx=Cx (exec P n call c) 100000 fr h nx:=rfl
end
theorem SE (hC:jS P call) (hW:yY P n call):∀ c:Code,MV P n call c:=by
 intro c
 induction c with
 | skip =>
  intro ρ f fr fr' h h' nx aL w a e hr hD hs hf ha
  cases hr
  exact wp_skip ⟨rfl,ρ,f,ha,hD,dH.refl hs _⟩
 | region id ops draw =>
  intro ρ f fr fr' h h' nx aL w a e hr hD hs hf ha
  obtain ⟨fr1,h1,nx1,k1,k2⟩:=MU ((CT _ _ _ _ _ _).symm.trans hr)
  cases k2
  cases draw with
  | true=>exact hW k1 hD hs hf ha
  | false =>
   have:=yX (Q:=fun e' f' w'=>e'=.normal∧∃ ρ',FD ρ' f' fr'∧dH ρ h nx w ρ' h' aL w') hC k1 hD hs hf fun ρ' f' w' st d=>⟨rfl,ρ',d,st⟩
   have h2:=wp_region_lit (id:=id) (MT this ha)
   simp only [Array.toArray_toList] at h2
   refine wp_mono h2 fun e' a' w' k=>?_
   obtain ⟨f',ha',rfl,ρ',d,st⟩:=k
   exact ⟨rfl,ρ',f',ha',d,st⟩
 | seq x y ihx ihy =>
  intro ρ f fr fr' h h' nx aL w a e hr hD hs hf ha
  obtain ⟨e1,fr1,h1,nx1,k1,k2⟩:=uR ((MW _ _ _ _ _).symm.trans hr)
  refine wp_seq (wp_mono (ihx k1 hD hs hf ha) fun e' a' w' he=>?_)
  obtain ⟨rfl,ρ',f',ha',hD',st⟩:=he
  cases e1 with
  | n=>exact wp_mono (ihy k2 hD' st.sat (st.free hf) ha') fun e2 a2 w2 k=>k.on st
  | x id =>
   cases k2
   exact ⟨rfl,ρ',f',ha',hD',st⟩
  | r =>
   cases k2
   exact ⟨rfl,ρ',f',ha',hD',st⟩
 | cond c x y ihx ihy =>
  intro ρ f fr fr' h h' nx aL w a e hr hD hs hf ha
  obtain ⟨d,h1,h2⟩:=Kr ((Ks _ _ _ _ _ _).symm.trans hr)
  obtain ⟨v,h3,h4⟩:=Kr h2
  have hv:=hD.on [c] c (by simp) d v h1 h3
  split at h4
  ·rename_i t
   generalize hx:ev f c=x at hv
   cases hv
   refine wp_cond_split (t:=t) (by rw [ha.eval];exact hx) (fun ht=>?_) (fun ht=>?_)
   ·subst ht
    exact ihx h4 hD hs hf ha
   ·subst ht
    exact ihy h4 hD hs hf ha
  ·cases h4
 | block id c ih =>
  intro ρ f fr fr' h h' nx aL w a e hr hD hs hf ha
  obtain ⟨e1,fr1,h1,nx1,k1,k2⟩:=uR ((FO _ _ _ _ _).symm.trans hr)
  refine wp_block (wp_mono (ih k1 hD hs hf ha) fun e' a' w' he=>?_)
  obtain ⟨rfl,ρ',f',ha',hD',st⟩:=he
  cases e1 with
  | n =>
   cases k2
   exact ⟨rfl,ρ',f',ha',hD',st⟩
  | x j =>
   replace k2:(bif Nat.beq j id then some (Ex.n,fr1,h1,nx1) else some (Ex.x j,fr1,h1,nx1))=some (e,fr',h',aL):=k2
   simp only [Z8,Exit.inBlock]
   cases hb:Nat.beq j id with
   | true =>
    rw [hb] at k2
    cases k2
    rw [if_pos (Nat.eq_of_beq_eq_true hb)]
    exact ⟨rfl,ρ',f',ha',hD',st⟩
   | false =>
    rw [hb] at k2
    cases k2
    rw [if_neg (Nat.ne_of_beq_eq_false hb)]
    exact ⟨rfl,ρ',f',ha',hD',st⟩
  | r =>
   cases k2
   exact ⟨rfl,ρ',f',ha',hD',st⟩
 | loop c ih =>
  intro ρ f fr fr' h h' nx aL w a e hr hD hs hf ha
  rw [Kt] at hr
  generalize 100000=m at hr
  exact wp_loop_rounds m (Ik ih m hr hD hs hf ha)
 | exit id =>
  intro ρ f fr fr' h h' nx aL w a e hr hD hs hf ha
  cases hr
  exact wp_exit ⟨rfl,ρ,f,ha,hD,dH.refl hs _⟩
 | label l =>
  intro ρ f fr fr' h h' nx aL w a e hr hD hs hf ha
  cases hr
  exact wp_label ⟨rfl,ρ,f,ha,hD,dH.refl hs _⟩
 | ret =>
  intro ρ f fr fr' h h' nx aL w a e hr hD hs hf ha
  cases hr
  exact wp_ret ⟨rfl,ρ,f,ha,hD,dH.refl hs _⟩
 | rangeFunc f ps x y _ _=>intro ρ f fr fr' h h' nx aL w a e hr;cases hr
 | scope c _=>intro ρ f fr fr' h h' nx aL w a e hr;cases hr
 | goto l=>intro ρ f fr fr' h h' nx aL w a e hr;cases hr
 | refuse s=>intro ρ f fr fr' h h' nx aL w a e hr;cases hr
end
end E
namespace E
section
variable {P:Program} {ρ:Rn} {f:Fr} {fr:F} {h:H} {w:World}
noncomputable def il:List V→Nat→F→F
 | [],_,fr=>fr
 | v::l,t,fr=>il l (t+1) (dL fr t (some v))
theorem MX {β:Type}:∀ (l:List V) (t:Nat) (fr:F) (K:F→β),frK l t fr K=K (il l t fr)
 | [],_,_,_=>rfl
 | v::l,t,fr,K=>by
  show dE (path t) fr (some v) (fun fr'=>frK l (t+1) fr' K)=_
  rw [jt,MX l]
  rfl
theorem xM:∀ (l:List V) (t:Nat) (fr:F) (k:Nat) (v:V),at_ (il l t fr) k=some v→(k<t∧at_ fr k=some v)∨(t≤k∧(l[k-t]?=some v∨(l.length≤k-t∧at_ fr k=some v)))
 | [],t,fr,k,v,h=>by
  rcases Nat.lt_or_ge k t with hk|hk
  ·exact .inl ⟨hk,h⟩
  ·exact .inr ⟨hk,.inr ⟨by simp,h⟩⟩
 | u::l,t,fr,k,v,h=>by
  rcases xM l (t+1) _ k v h with ⟨hk,h1⟩|⟨hk,h1⟩
  ·rw [cg] at h1
   split at h1
   ·rename_i e
    cases h1
    refine .inr ⟨by omega,.inl ?_⟩
    rw [e,Nat.sub_self]
    rfl
   ·exact .inl ⟨by omega,h1⟩
  ·have e:k-t=(k-(t+1))+1:=by omega
   refine .inr ⟨by omega,?_⟩
   rcases h1 with h1|⟨h1,h2⟩
   ·left
    rw [e]
    exact h1
   ·rw [cg,if_neg (by omega)] at h2
    right
    refine ⟨by rw [List.length_cons];omega,h2⟩
theorem FD.init {vs:List V} {xs:List Value} (hd:aT ρ vs xs) (hg:∀ g,g<1000→∃ sz,ρ g=some (g,sz)):FD ρ (inits xs) (il vs 0 .e):=by
 refine ⟨fun t v hv=>?_,hg⟩
 rcases xM vs 0 .e t v hv with ⟨hk,_⟩|⟨_,h1|⟨_,h1⟩⟩
 ·omega
 ·obtain ⟨x,hx,hx2⟩:=hd.nth h1
  have:=n5 xs t
  rw [Nat.sub_zero] at hx
  rw [← this,List.getD_eq_getElem?_getD,hx]
  exact hx2
 ·rw [FC] at h1
  cases h1
def adn (P:Program) (f:Fr) (w:World) (G:ResultVar→Sem Value):Prop:=(∀ t,(G (.tmp t)).run P w=.ok (f t) w)∧∀ a t,(G (.cell a t)).run P w=(do loadVar t (← asAddr (f a)):Sem Value).run P w
theorem uS (hD:FD ρ f fr) (hs:Sat ρ h w) :
  ∀ {rs:List ResultVar} {l:List V},FB P fr h rs=some l→∃ ys,(∀ G,adn P f w G→(rs.mapM G).run P w=.ok ys w)∧aT ρ l ys
 | [],l,hr=>by
  cases hr
  exact ⟨[],fun G _=>by simp [List.mapM_nil],.nil⟩
 | .tmp t::rs,l,hr=>by
  unfold FB at hr
  split at hr
  ·rename_i v r e1 e2
   cases hr
   obtain ⟨ys,k1,k2⟩:=uS hD hs e2
   refine ⟨f t::ys,fun G hG=>?_,.cons (hD.slot t v e1) k2⟩
   simp only [List.mapM_cons,Sem.run_bind,hG.1,Sem.run_pure,Result.andThen_ok,k1 G hG]
  ·cases hr
 | .cell a t::rs,l,hr=>by
  unfold FB at hr
  split at hr
  ·rename_i v ag sz r e1 e2 e3 e4
   split at hr
   ·rename_i u e5
    cases hr
    obtain ⟨ys,k1,k2⟩:=uS hD hs e4
    have hv:=hD.slot a v e1
    have key:∃ y,(do loadVar t (← asAddr (f a)):Sem Value).run P w=.ok y w∧Den ρ u y:=by
     cases ag with
     | true =>
      replace e5:uw sz h v=some u:=e5
      unfold uw at e5
      split at e5
      ·simp only [Option.map_eq_some_iff] at e5
       obtain ⟨rr,hrr,rfl⟩:=e5
       obtain ⟨b,s,xs,g1,g2,_,g4⟩:=mq hs hrr
       generalize f a=fa at hv
       cases hv with
       | p e =>
        rw [g1] at e
        cases e
        exact ⟨_,by simp [asAddr,loadVar,bS e2,bI e3,g4],.ag g2⟩
      ·cases e5
     | false =>
      replace e5:ux h v=some u:=e5
      unfold ux at e5
      split at e5
      ·split at e5
       ·rename_i hg
        rw [pP] at e5
        obtain ⟨b,s,y,g1,g2,g3⟩:=CG hs hg e5
        generalize f a=fa at hv
        cases hv with
        | p e =>
         rw [g1] at e
         cases e
         exact ⟨y,by simp [asAddr,loadVar,bS e2,run_load,g3],g2⟩
       ·cases e5
      ·cases e5
    obtain ⟨y,k3,k4⟩:=key
    refine ⟨y::ys,fun G hG=>?_,.cons k4 k2⟩
    have k5:=(hG.2 a t).trans k3
    simp only [List.mapM_cons,Sem.run_bind,k5,Result.andThen_ok,k1 G hG,Sem.run_pure]
   ·cases hr
  ·cases hr
theorem Xz {fn:Func} {l:List V} (hr:FB P fr h fn.results.toList=some l) (hD:FD ρ f fr) (hs:Sat ρ h w):∃ x,RV P fn f w x∧Den ρ (one l) x:=by
 obtain ⟨ys,k1,k2⟩:=uS hD hs hr
 refine ⟨if h:ys.toArray.size=1 then ys.toArray[0] else .tuple ys.toArray,fun tmps ht=>?_,?_⟩
 ·unfold results
  rw [Array.mapM_eq_mapM_toList]
  simp only [Sem.run_bind]
  rw [show ∀ {α β:Type} (g:α→β) (x:Sem α),Functor.map g x=x >>= fun a=>pure (g a) from fun g x=>map_eq_pure_bind g x]
  simp only [Sem.run_bind]
  rw [k1 _ ⟨fun t=>by simp only [Sem.run_pure,ht],fun a t=>by simp only [ht]⟩]
  rfl
 ·cases k2 with
  | nil=>exact .t .nil
  | cons a b =>
   cases b with
   | nil=>exact a
   | cons c d=>exact .t (.cons a (.cons c d))
end
def fB (P:Program) (g:Nat) (F:List V→H→Nat→HR):Prop:=∀ {vs h nx v h' aL ρ w xs},F vs h nx=some (v,h',aL)→aT ρ vs xs→Sat ρ h w→tD ρ nx→(∀ g,g<1000→∃ sz,ρ g=some (g,sz)) →
 WU (bn P) (fun x w'=>∃ ρ',Den ρ' v x∧dH ρ h nx w ρ' h' aL w') ((callFunc g xs.toArray).run P w)
section
variable {P:Program}
theorem SF {call:dB} {g:Nat} {fn:Func} (hC:jS P call) (hW:∀ n,yY P n call) (hg:P.funcs[g]?=some fn) (hn:(fn.name == "runtime.NumGoroutine")=false):fB P g (Ib P call fn):=by
 intro vs h nx v h' aL ρ w xs hr hd hs hf hG
 unfold Ib at hr
 split at hr
 ·cases hr
 ·rename_i c hc
  obtain ⟨hle,hr⟩:=nX hr
  have hle:=Nat.le_of_ble_eq_true hle
  rw [MX] at hr
  have hrun:(callFunc g xs.toArray).run P w=.ok (.enter g xs.toArray) w:=aM ⟨fn,hg,hn,by rw [hc];rfl⟩ _ _
  rw [hrun]
  have hlen:=hd.len
  have key:∀ {e:Ex} {fr':F} {h1:H} {nx1:Nat},(e=.n∨e=.r)→exec P fn.ntmps call c (il vs 0 .e) h nx=some (e,fr',h1,nx1)→tB P fn.results.toList fr' h1 nx1=some (v,h',aL) →
    Calls P g xs.toArray w fun e w''=>∃ x,e=.returned x∧∃ ρ',Den ρ' v x∧dH ρ h nx w ρ' h' aL w'':=by
   intro e fr' h1 nx1 he hx hv
   unfold tB at hv
   split at hv
   ·rename_i l hl
    cases hv
    refine aa (n:=fn.ntmps) hg hc rfl xj ?_
    unfold WC
    intro a ha
    refine wp_mono (SE hC (hW _) c hx (FD.init hd hG) hs hf ha) fun e' a' w' k=>?_
    obtain ⟨rfl,ρ',f',ha',hD',st⟩:=k
    obtain ⟨x,k1,k2⟩:=Xz hl hD' st.sat
    refine ⟨f',ha',?_⟩
    rcases he with rfl|rfl
    ·exact xN ⟨x,k1,x,rfl,ρ',k2,st⟩
    ·exact CZ ⟨x,k1,x,rfl,ρ',k2,st⟩
   ·cases hv
  split at hr
  ·rename_i fr' h1 nx1 hx
   exact key (.inr rfl) hx hr
  ·rename_i fr' h1 nx1 hx
   exact key (.inl rfl) hx hr
  ·cases hr
theorem MY {fns:Nat→Option Func} {prim:Nat→Option (List V→H→Nat→HR)} (hW:∀ call n,jS P call→yY P n call) (hfns:∀ g fn,fns g=some fn→P.funcs[g]?=some fn∧(fn.name == "runtime.NumGoroutine")=false) (hp:∀ g F,prim g=some F→fB P g F) :
  ∀ m,jS P (Cy P fns prim m):=by
 intro m
 induction m with
 | zero =>
  intro g vs h nx v h' aL ρ w xs hr
  cases hr
 | succ m ih =>
  intro g vs h nx v h' aL ρ w xs hr hd hs hf hG
  have e:Cy P fns prim (m+1) g vs h nx=Option.rec (motive:=fun _=>HR) (Option.rec (motive:=fun _=>HR) none (fun fn=>Ib P (Cy P fns prim m) fn vs h nx) (fns g)) (fun f=>f vs h nx) (prim g):=rfl
  rw [e] at hr
  cases hpg:prim g with
  | some F =>
   rw [hpg] at hr
   exact hp g F hpg hr hd hs hf hG
  | none =>
   rw [hpg] at hr
   obtain ⟨fn,h1,h2⟩:=Kr hr
   obtain ⟨h3,h4⟩:=hfns g fn h1
   exact SF ih (fun n=>hW _ n ih) h3 h4 h2 hd hs hf hG
end
end E
namespace E
theorem pj (acc:List Nat) (b:Nat):∀ l:List Edge,(df acc l).testBit b=true↔∃ e∈l,Region.binds .any e=true∧(b=e.on∨(acc.getD e.on 0).testBit b=true)
 | []=>by simp [df]
 | e::l=>by
  have ih:=pj acc b l
  unfold df
  cases hb:Region.binds .any e with
  | true =>
   rw [cond_true,Nat.testBit_or,Nat.testBit_or,Bool.or_eq_true,Bool.or_eq_true,ih]
   constructor
   ·rintro (h|h|h)
    ·refine ⟨e,by simp,hb,.inl ?_⟩
     rw [Nat.testBit_two_pow] at h
     exact (of_decide_eq_true h).symm
    ·exact ⟨e,by simp,hb,.inr h⟩
    ·obtain ⟨e',h1,h2⟩:=h
     exact ⟨e',by simp [h1],h2⟩
   ·rintro ⟨e',h1,h2,h3⟩
    rcases List.mem_cons.1 h1 with rfl|h1
    ·rcases h3 with rfl|h3
     ·left
      simp
     ·exact .inr (.inl h3)
    ·exact .inr (.inr ⟨e',h1,h2,h3⟩)
  | false =>
   rw [cond_false,ih]
   constructor
   ·rintro ⟨e',h1,h2⟩
    exact ⟨e',by simp [h1],h2⟩
   ·rintro ⟨e',h1,h2,h3⟩
    rcases List.mem_cons.1 h1 with rfl|h1
    ·rw [hb] at h2;cases h2
    ·exact ⟨e',h1,h2,h3⟩
theorem qm:∀ (l:List Oper) (acc:List Nat),(dT l acc).take acc.length=acc
 | [],acc=>by simp [dT]
 | o::l,acc=>by
  show (dT l (acc++[df acc o.after.toList])).take acc.length=acc
  have:=qm l (acc++[df acc o.after.toList])
  have h2:=congrArg (List.take acc.length) this
  rw [List.take_take,List.length_append] at h2
  simpa using h2
theorem sV:∀ (l:List Oper) (acc:List Nat) (i:Nat) (o:Oper),l[i]?=some o→(dT l acc)[acc.length+i]?=some (df ((dT l acc).take (acc.length+i)) o.after.toList)
 | [],acc,i,o,h=>by simp at h
 | p::l,acc,0,o,h=>by
  cases h
  show (dT l (acc++[df acc p.after.toList]))[acc.length+0]?=some (df ((dT l (acc++[df acc p.after.toList])).take (acc.length+0)) p.after.toList)
  have h1:=qm l (acc++[df acc p.after.toList])
  have h2:=congrArg (List.take acc.length) h1
  rw [List.take_take,List.length_append] at h2
  have h3:(dT l (acc++[df acc p.after.toList])).take acc.length=acc:=by simpa using h2
  have h4:=congrArg (·[acc.length]?) h1
  rw [Nat.add_zero,h3]
  simpa using h4
 | p::l,acc,i+1,o,h=>by
  show (dT l (acc++[df acc p.after.toList]))[acc.length+(i+1)]?=some (df ((dT l (acc++[df acc p.after.toList])).take (acc.length+(i+1))) o.after.toList)
  have:=sV l (acc++[df acc p.after.toList]) i o (by simpa using h)
  rw [List.length_append,List.length_singleton,show acc.length+1+i=acc.length+(i+1) by omega] at this
  exact this
theorem xR {ops:List Oper} {i:Nat} {o:Oper} (h:ops[i]?=some o):(fZ ops).getD i 0=df ((fZ ops).take i) o.after.toList:=by
 have:=sV ops [] i o h
 simp only [List.length_nil,Nat.zero_add] at this
 rw [List.getD_eq_getElem?_getD]
 unfold fZ
 rw [this]
 rfl
theorem SL {ops:List Oper} {i b:Nat} {o:Oper} (h:ops[i]?=some o) (hb:((fZ ops).getD i 0).testBit b=true):∃ e∈o.after.toList,Region.binds .any e=true∧(b=e.on∨((fZ ops).getD e.on 0).testBit b=true):=by
 rw [xR h,pj] at hb
 obtain ⟨e,h1,h2,h3⟩:=hb
 refine ⟨e,h1,h2,h3.imp id fun h3=>?_⟩
 rw [List.getD_eq_getElem?_getD,List.getElem?_take] at h3
 rw [List.getD_eq_getElem?_getD]
 split at h3
 ·exact h3
 ·simp at h3
theorem SM {ops:List Oper} {i:Nat} {o:Oper} {e:Edge} (h:ops[i]?=some o) (he:e∈o.after.toList) (hb:Region.binds .any e=true):((fZ ops).getD i 0).testBit e.on=true:=by
 rw [xR h,pj]
 exact ⟨e,he,hb,.inl rfl⟩
theorem rP {ops:List Oper} {listed:Array Bool} {i:Nat}:i∈Region.ready .any ops.toArray listed↔∃ o,ops[i]?=some o∧listed.getD i true=false∧∀ e∈o.after.toList,Region.binds .any e=true→listed.getD e.on false=true:=by
 unfold Region.ready
 rw [List.mem_filter,List.mem_range,Bool.and_eq_true]
 simp only [List.size_toArray,List.getElem?_toArray]
 constructor
 ·rintro ⟨h1,h2,h3⟩
  have h4:=List.getElem?_eq_getElem h1
  rw [h4] at h3
  refine ⟨ops[i],h4,by simpa using h2,fun e he hb=>?_⟩
  simp only [Option.map_some,Option.getD_some,Array.all_eq_true',Array.mem_toList_iff.symm] at h3
  have:=h3 e he
  simpa [hb] using this
 ·rintro ⟨o,h1,h2,h3⟩
  have hlt:=(List.getElem?_eq_some_iff.1 h1).1
  refine ⟨hlt,by simpa using h2,?_⟩
  rw [h1]
  simp only [Option.map_some,Option.getD_some,Array.all_eq_true',Array.mem_toList_iff.symm]
  intro e he
  cases hb:Region.binds .any e with
  | true=>simpa using h3 e he hb
  | false=>rfl
structure Rc where
 i:Nat
 mask:Nat
 ins:I
 dst:Option (List Dg)
 g:Option (List Dg×Bool)
 b:Bool
 v:V
 x:O
 done:Nat
 fr:F
 cur:H
 past:List (Nat×H)
 nx:Nat
 k9:H
 oS:List (Nat×H)
 aL:Nat
def xS (h0:H) (past:List (Nat×H)):H:=match past with|[]=>h0|(_,h)::_=>h
structure Ku (call:dB) (base:Nat) (h0:H) (r:Rc):Prop where
 new:r.done.testBit r.i=false
 sub:r.mask&&& r.done=r.mask
 want:Ia r.fr r.g=some r.b
 off:r.b=false→r.v=undef
 q:gz r.ins=.q→r.k9=r.cur∧r.oS=r.past∧r.aL=r.nx∧(r.b=true→look r.ins r.fr (xS h0 r.past)=some r.v∧(isL r.ins=false∨o5 (look r.ins r.fr) r.v r.mask r.past h0=true))
 a:gz r.ins=.a→r.oS=r.past∧r.aL=r.nx∧(r.b=false→r.k9=r.cur)∧(r.b=true→news r.ins r.fr (base+r.i)=some (r.v,r.x)∧r.k9=dL r.cur (base+r.i) (some r.x))
 e:gz r.ins=.e→r.done=r.mask∧r.oS=(r.i,r.k9)::r.past∧(r.b=false→r.k9=r.cur∧r.aL=r.nx)∧(r.b=true→J6 call r.ins r.fr r.cur r.nx=some (r.v,r.k9,r.aL))
inductive Cb (call:dB) (base:Nat) (h0:H):List (Nat×Nat×CI)→Nat→F→H→List (Nat×H)→Nat→List Rc→F→H→Nat→Prop
 | nil {done fr cur past nx}:Cb call base h0 [] done fr cur past nx [] fr cur nx
 | cons {l T fr' h' aL} {r:Rc}:Ku call base h0 r→Cb call base h0 l (r.done||| 2 ^ r.i) (FM r.dst r.fr r.v) r.k9 r.oS r.aL T fr' h' aL→Cb call base h0 ((r.i,r.mask,.mk r.ins r.dst r.g)::l) r.done r.fr r.cur r.past r.nx (r::T) fr' h' aL
theorem aai {b:Bool} {β:Type} {x:Option β} {r:β} (h:Bool.rec (motive:=fun _=>Option β) x none b=some r):b=false∧x=some r:=by
 cases b with
 | false=>exact ⟨rfl,h⟩
 | true=>cases h
theorem Vx {b:Bool} {β:Type} {x:Option β} {r:β} (h:Bool.rec (motive:=fun _=>Option β) none x b=some r):b=true∧x=some r:=by
 cases b with
 | false=>cases h
 | true=>exact ⟨rfl,h⟩
theorem M6 (m n:Nat):tb m n=m.testBit n:=by
 unfold tb
 rw [bE]
 show decide ((m >>> n)&&& 1=1)=_
 rw [Nat.and_one_is_mod,Nat.testBit_eq_decide_div_mod_eq,Nat.shiftRight_eq_div_pow]
theorem jZ {call:dB} {base:Nat} {h0:H}:∀ {l:List (Nat×Nat×CI)} {done:Nat} {fr fr':F} {cur h':H} {past:List (Nat×H)} {nx aL:Nat},FA call base h0 l done fr cur past nx=some (fr',h',aL)→∃ T,Cb call base h0 l done fr cur past nx T fr' h' aL
 | [],done,fr,fr',cur,h',past,nx,aL,hr=>by
  cases hr
  exact ⟨[],.nil⟩
 | (i,mask,.mk ins dst g)::l,done,fr,fr',cur,h',past,nx,aL,hr=>by
  obtain ⟨hc,h1⟩:=aai hr
  rw [Bool.or_eq_false_iff,M6] at hc
  have hsub:mask&&& done=mask:=by
   have:=hc.2
   rw [bE] at this
   simpa using this
  obtain ⟨b,hb,h2⟩:=iM h1
  clear hr h1
  cases hcl:gz ins with
  | q =>
   rw [hcl] at h2
   cases b with
   | false =>
    replace h2:(mj dst fr undef fun fr'=>FA call base h0 l (done||| 2 ^ i) fr' cur past nx)=some (fr',h',aL):=h2
    rw [iC] at h2
    obtain ⟨T,hT⟩:=jZ h2
    exact ⟨_,.cons (r:=⟨i,mask,ins,dst,g,false,undef,default,done,fr,cur,past,nx,cur,past,nx⟩) ⟨hc.1,hsub,hb,fun _=>rfl,fun _=>⟨rfl,rfl,rfl,(fun h=>by cases h)⟩,(fun h=>by cases (hcl.symm.trans h)),(fun h=>by cases (hcl.symm.trans h))⟩ hT⟩
   | true =>
    obtain ⟨v,h3,h4⟩:=iM h2
    obtain ⟨h5,h6⟩:=Vx h4
    rw [iC] at h6
    obtain ⟨T,hT⟩:=jZ h6
    refine ⟨_,.cons (r:=⟨i,mask,ins,dst,g,true,v,default,done,fr,cur,past,nx,cur,past,nx⟩) ⟨hc.1,hsub,hb,(fun h=>by cases h),fun _=>⟨rfl,rfl,rfl,fun _=>⟨h3,?_⟩⟩,(fun h=>by cases (hcl.symm.trans h)),(fun h=>by cases (hcl.symm.trans h))⟩ hT⟩
    rw [Bool.or_eq_true] at h5
    exact h5.imp (fun h=>by simpa using h) id
  | a =>
   rw [hcl] at h2
   cases b with
   | false =>
    replace h2:(mj dst fr undef fun fr'=>FA call base h0 l (done||| 2 ^ i) fr' cur past nx)=some (fr',h',aL):=h2
    rw [iC] at h2
    obtain ⟨T,hT⟩:=jZ h2
    exact ⟨_,.cons (r:=⟨i,mask,ins,dst,g,false,undef,default,done,fr,cur,past,nx,cur,past,nx⟩) ⟨hc.1,hsub,hb,fun _=>rfl,(fun h=>by cases (hcl.symm.trans h)),fun _=>⟨rfl,rfl,fun _=>rfl,(fun h=>by cases h)⟩,(fun h=>by cases (hcl.symm.trans h))⟩ hT⟩
   | true =>
    obtain ⟨⟨v,x⟩,h3,h4⟩:=iM h2
    replace h4:(cur.dE (base+i) x fun k9=>mj dst fr v fun fr'=>FA call base h0 l (done||| 2 ^ i) fr' k9 past nx)=some (fr',h',aL):=h4
    rw [dh,iC] at h4
    obtain ⟨T,hT⟩:=jZ h4
    exact ⟨_,.cons (r:=⟨i,mask,ins,dst,g,true,v,x,done,fr,cur,past,nx,dL cur (base+i) (some x),past,nx⟩) ⟨hc.1,hsub,hb,(fun h=>by cases h),(fun h=>by cases (hcl.symm.trans h)),fun _=>⟨rfl,rfl,(fun h=>by cases h),fun _=>⟨h3,rfl⟩⟩,(fun h=>by cases (hcl.symm.trans h))⟩ hT⟩
  | e =>
   rw [hcl] at h2
   obtain ⟨hm,h2⟩:=Vx h2
   have hm:=Nat.eq_of_beq_eq_true hm
   cases b with
   | false =>
    replace h2:(mj dst fr undef fun fr'=>FA call base h0 l (done||| 2 ^ i) fr' cur ((i,cur)::past) nx)=some (fr',h',aL):=h2
    rw [iC] at h2
    obtain ⟨T,hT⟩:=jZ h2
    exact ⟨_,.cons (r:=⟨i,mask,ins,dst,g,false,undef,default,done,fr,cur,past,nx,cur,(i,cur)::past,nx⟩) ⟨hc.1,hsub,hb,fun _=>rfl,(fun h=>by cases (hcl.symm.trans h)),(fun h=>by cases (hcl.symm.trans h)),fun _=>⟨hm,rfl,fun _=>⟨rfl,rfl⟩,(fun h=>by cases h)⟩⟩ hT⟩
   | true =>
    obtain ⟨⟨v,h1,nx1⟩,h3,h4⟩:=iM h2
    replace h4:(mj dst fr v fun fr'=>FA call base h0 l (done||| 2 ^ i) fr' h1 ((i,h1)::past) nx1)=some (fr',h',aL):=h4
    rw [iC] at h4
    obtain ⟨T,hT⟩:=jZ h4
    exact ⟨_,.cons (r:=⟨i,mask,ins,dst,g,true,v,default,done,fr,cur,past,nx,h1,(i,h1)::past,nx1⟩) ⟨hc.1,hsub,hb,(fun h=>by cases h),(fun h=>by cases (hcl.symm.trans h)),(fun h=>by cases (hcl.symm.trans h)),fun _=>⟨hm,rfl,(fun h=>by cases h),fun _=>h3⟩⟩ hT⟩
noncomputable def sW (done:Nat) (T:List Rc):Nat:=T.foldl (fun d r=>d||| 2 ^ r.i) done
noncomputable def Vy (fr:F) (T:List Rc):F:=T.foldl (fun fr r=>FM r.dst fr r.v) fr
theorem jM {call:dB} {base:Nat} {h0:H}:∀ {T1:List Rc} {l:List (Nat×Nat×CI)} {done:Nat} {fr fr':F} {cur h':H} {past:List (Nat×H)} {nx aL:Nat} {r:Rc} {T2:List Rc},Cb call base h0 l done fr cur past nx (T1++r::T2) fr' h' aL →
  Ku call base h0 r∧r.done=sW done T1∧r.fr=Vy fr T1∧∃ l2,Cb call base h0 l2 r.done r.fr r.cur r.past r.nx (r::T2) fr' h' aL
 | [],l,done,fr,fr',cur,h',past,nx,aL,r,T2,h=>by
  cases h with
  | cons a b=>exact ⟨a,rfl,rfl,_,.cons a b⟩
 | t::T1,l,done,fr,fr',cur,h',past,nx,aL,r,T2,h=>by
  cases h with
  | cons a b =>
   obtain ⟨k1,k2,k3,k4⟩:=jM b
   exact ⟨k1,k2,k3,k4⟩
theorem lN (j:Nat):∀ (T:List Rc) (done:Nat),(sW done T).testBit j=true↔done.testBit j=true∨∃ r∈T,r.i=j
 | [],done=>by simp [sW]
 | t::T,done=>by
  show (sW (done||| 2 ^ t.i) T).testBit j=true↔_
  rw [lN j T,Nat.testBit_or,Bool.or_eq_true,Nat.testBit_two_pow,decide_eq_true_iff]
  constructor
  ·rintro ((h|h)|⟨r,h1,h2⟩)
   ·exact .inl h
   ·exact .inr ⟨t,by simp,h⟩
   ·exact .inr ⟨r,by simp [h1],h2⟩
  ·rintro (h|⟨r,h1,h2⟩)
   ·exact .inl (.inl h)
   ·rcases List.mem_cons.1 h1 with rfl|h1
    ·exact .inl (.inr h2)
    ·exact .inr ⟨r,h1,h2⟩
theorem zR (t:Nat) (v:V):∀ (T:List Rc) (fr:F),(∀ r∈T,∀ p,r.dst=some p→∃ d,p=path d)→at_ (Vy fr T) t=some v→(∃ r∈T,r.dst=some (path t)∧r.v=v)∨((∀ r∈T,r.dst≠some (path t))∧at_ fr t=some v)
 | [],fr,_,h=>.inr ⟨by simp,h⟩
 | u::T,fr,hp,h=>by
  rcases zR t v T (FM u.dst fr u.v) (fun r hr=>hp r (by simp [hr])) h with ⟨r,h1,h2⟩|⟨h1,h2⟩
  ·exact .inl ⟨r,by simp [h1],h2⟩
  ·by_cases hd:u.dst=some (path t)
   ·rw [hd] at h2
    replace h2:at_ (dL fr t (some u.v)) t=some v:=h2
    rw [cg,if_pos rfl] at h2
    cases h2
    exact .inl ⟨u,by simp,hd,rfl⟩
   ·refine .inr ⟨fun r hr=>?_,?_⟩
    ·rcases List.mem_cons.1 hr with rfl|hr
     ·exact hd
     ·exact h1 r hr
    ·cases hu:u.dst with
     | none =>
      rw [hu] at h2
      exact h2
     | some p =>
      obtain ⟨d,rfl⟩:=hp u (by simp) p hu
      rw [hu] at h2
      replace h2:at_ (dL fr d (some u.v)) t=some v:=h2
      rw [cg] at h2
      split at h2
      ·rename_i e
       rw [hu,e] at hd
       exact absurd rfl hd
      ·exact h2
mutual
theorem zT:∀ (u v:V),oZ u v=true→u=v
 | .b x,v,h=>by
  cases v <;> first|(unfold oZ at h;rw [beq_iff_eq.1 h])|cases h
 | .i k n,v,h=>by
  cases v <;> first|(unfold oZ at h;rw [Bool.and_eq_true] at h;rw [dC h.1];have h2:=h.2;rw [k7] at h2;rw [of_decide_eq_true h2])|cases h
 | .s x,v,h=>by
  cases v <;> first|(unfold oZ at h;rw [beq_iff_eq.1 h])|cases h
 | .p x,v,h=>by
  cases v <;> first|(unfold oZ at h;rw [of_decide_eq_true h])|cases h
 | .sl x n (.k c),v,h=>by
  cases v <;> try (cases h;done)
  rename_i y n' c'
  cases c' <;> try (cases h;done)
  unfold oZ at h
  rw [Bool.and_eq_true,Bool.and_eq_true] at h
  rw [of_decide_eq_true h.1,Nat.eq_of_beq_eq_true h.2.1,Nat.eq_of_beq_eq_true h.2.2]
 | .sl x n (.u c),v,h=>by
  cases v <;> try (cases h;done)
  rename_i y n' c'
  cases c' <;> try (cases h;done)
  unfold oZ at h
  rw [Bool.and_eq_true,Bool.and_eq_true] at h
  rw [of_decide_eq_true h.1,Nat.eq_of_beq_eq_true h.2.1,Nat.eq_of_beq_eq_true h.2.2]
 | .sl x n .x,v,h=>by
  cases v <;> try (cases h;done)
  rename_i y n' c'
  cases c' <;> try (cases h;done)
  unfold oZ at h
  rw [Bool.and_eq_true] at h
  rw [of_decide_eq_true h.1,Nat.eq_of_beq_eq_true h.2]
 | .m x,v,h=>by
  cases v <;> first|(unfold oZ at h;rw [of_decide_eq_true h])|cases h
 | .f fn x y,v,h=>by
  cases v <;> try (cases h;done)
  rename_i fn' x' y'
  unfold oZ at h
  rw [Bool.and_eq_true,Bool.and_eq_true] at h
  rw [of_decide_eq_true h.1,nA x x' h.2.1,nA y y' h.2.2]
 | .f0,v,h=>by
  cases v <;> first|rfl|cases h
 | .ni,v,h=>by
  cases v <;> first|rfl|cases h
 | .ag x,v,h=>by
  cases v <;> try (cases h;done)
  rename_i y
  unfold oZ at h
  rw [nA x y h]
 | .t x,v,h=>by
  cases v <;> try (cases h;done)
  rename_i y
  unfold oZ at h
  rw [nA x y h]
theorem nA:∀ (l r:List V),uz l r=true→l=r
 | [],r,h=>by cases r with|nil=>rfl|cons=>cases h
 | u::l,r,h=>by
  cases r with
  | nil=>cases h
  | cons v r =>
   unfold uz at h
   rw [Bool.and_eq_true] at h
   rw [zT u v h.1,nA l r h.2]
end
theorem xT {f:H→Option V} {v:V} {mask:Nat} {h0:H}:∀ {A B:List (Nat×H)},o5 f v mask (A++B) h0=true→(∀ e∈A,mask.testBit e.1=false)→f (xS h0 B)=some v
 | [],[],h,_=>by
  unfold o5 at h
  simp only [List.append_nil] at h
  split at h
  ·rename_i u hu
   rw [show xS h0 []=h0 from rfl,hu,zT u v h]
  ·cases h
 | [],(e,hh)::B,h,_=>by
  simp only [List.nil_append] at h
  unfold o5 at h
  rw [Bool.and_eq_true] at h
  have h1:=h.1
  split at h1
  ·rename_i u hu
   rw [show xS h0 ((e,hh)::B)=hh from rfl,hu,zT u v h1]
  ·cases h1
 | (e,hh)::A,B,h,hm=>by
  rw [List.cons_append] at h
  unfold o5 at h
  rw [Bool.and_eq_true,Bool.or_eq_true,M6] at h
  refine xT (h.2.resolve_left ?_) fun x hx=>hm x (by simp [hx])
  rw [hm (e,hh) (by simp)]
  simp
theorem M7 {ins:I} {fr:F} (h:isL ins=false) (h1 h2:H):look ins fr h1=look ins fr h2:=by
 cases ins <;> first|rfl|cases h
theorem xU {P:Program} {n:Nat} {ops:List Oper}:∀ {is:List Nat} {l:List (Nat×Nat×CI)},(is.foldr (fun i r=>match r,ops[i]? with
  | some l,some o=>(match R5 P n ops o with|some c=>some ((i,(fZ ops).getD i 0,c)::l)|none=>none)
  | _,_=>none) (some []))=some l→∀ c∈l,∃ o,ops[c.1]?=some o∧c.2.1=(fZ ops).getD c.1 0∧R5 P n ops o=some c.2.2
 | [],l,h=>by
  cases h
  simp
 | i::is,l,h=>by
  rw [List.foldr_cons] at h
  split at h
  ·rename_i l' o h1 h2
   split at h
   ·rename_i c hc
    cases h
    intro x hx
    rcases List.mem_cons.1 hx with rfl|hx
    ·exact ⟨o,h2,rfl,hc⟩
    ·exact xU h1 x hx
   ·cases h
  ·cases h
theorem zU {call:dB} {base:Nat} {h0:H}:∀ {l:List (Nat×Nat×CI)} {done:Nat} {fr fr':F} {cur h':H} {past:List (Nat×H)} {nx aL:Nat} {T:List Rc},Cb call base h0 l done fr cur past nx T fr' h' aL→T.map (fun r=>(r.i,r.mask,CI.mk r.ins r.dst r.g))=l∧(∀ r∈T,Ku call base h0 r∧done.testBit r.i=false)∧(T.map (·.i)).Nodup:=by
 intro l done fr fr' cur h' past nx aL T ht
 induction ht with
 | nil=>simp
 | @cons l T fr' h' aL r a b ih =>
  obtain ⟨h1,h2,h3⟩:=ih
  refine ⟨by rw [List.map_cons,h1],fun x hx=>?_,?_⟩
  ·rcases List.mem_cons.1 hx with rfl|hx
   ·exact ⟨a,a.new⟩
   ·obtain ⟨k1,k2⟩:=h2 x hx
    refine ⟨k1,?_⟩
    rw [Nat.testBit_or,Bool.or_eq_false_iff] at k2
    exact k2.1
  ·rw [List.map_cons,List.nodup_cons]
   refine ⟨fun hm=>?_,h3⟩
   obtain ⟨x,hx,he⟩:=List.mem_map.1 hm
   have:=(h2 x hx).2
   rw [Nat.testBit_or,Bool.or_eq_false_iff,Nat.testBit_two_pow,decide_eq_false_iff_not] at this
   exact this.2 he.symm
theorem M8:∀ (n:Nat) (l:List Nat),l.Nodup→(∀ x∈l,x<n)→l.length≤n
 | 0,l,_,h=>by
  cases l with
  | nil=>exact Nat.le_refl _
  | cons x l=>exact absurd (h x (by simp)) (Nat.not_lt_zero _)
 | n+1,l,hn,h=>by
  have h1:=M8 n (l.erase n) (hn.erase n) fun x hx=>by
   rw [hn.mem_erase_iff] at hx
   have:=h x hx.2
   have:=hx.1
   omega
  rw [List.length_erase] at h1
  split at h1 <;> omega
theorem Kv {n:Nat} {l:List Nat} (hn:l.Nodup) (h:∀ x∈l,x<n) (hl:l.length=n):∀ i,i<n→i∈l:=fun i hi=>by
 refine Classical.byContradiction fun hm=>?_
 have:=M8 n (i::l) (List.nodup_cons.2 ⟨hm,hn⟩) fun x hx=>by
  rcases List.mem_cons.1 hx with rfl|hx
  ·exact hi
  ·exact h x hx
 rw [List.length_cons] at this
 omega
theorem vg {ops:List Oper} (h:kL ops=true) {i j d:Nat} {oi oj:Oper} (hi:ops[i]?=some oi) (hj:ops[j]?=some oj) (hne:i≠j) (hd:oj.dst=some d) :
  oi.dst≠some d∧(d∈slotsOf oi ops→((fZ ops).getD i 0).testBit j=true∨((fZ ops).getD j 0).testBit i=true):=by
 unfold kL at h
 rw [List.all_eq_true] at h
 have h1:=h i (List.mem_range.2 (List.getElem?_eq_some_iff.1 hi).1)
 rw [List.all_eq_true] at h1
 have h2:=h1 j (List.mem_range.2 (List.getElem?_eq_some_iff.1 hj).1)
 rw [Bool.or_eq_true] at h2
 have h3:=h2.resolve_left fun hb=>hne (Nat.eq_of_beq_eq_true hb)
 rw [hi,hj] at h3
 simp only [hd] at h3
 rw [Bool.and_eq_true] at h3
 obtain ⟨h4,h5⟩:=h3
 refine ⟨fun he=>?_,fun hm=>?_⟩
 ·rw [he] at h4
  simp at h4
 ·rw [Bool.or_eq_true,Bool.or_eq_true] at h5
  rcases h5 with (h5|h5)|h5
  ·rw [Bool.not_eq_true',← Bool.not_eq_true] at h5
   exact absurd (by simpa using hm) h5
  ·exact .inl h5
  ·exact .inr h5
theorem vh {m n:Nat} (h:path m=path n):m=n:=by
 refine Classical.byContradiction fun hne=>?_
 have h1:at_ (dL (Tr.e:F) m (some V.ni)) n=none:=by
  rw [cg,if_neg (Ne.symm hne),FC]
 have h2:at_ (dL (Tr.e:F) m (some V.ni)) m=some V.ni:=nh _ _ _
 unfold at_ at h1 h2
 rw [← h,h2] at h1
 cases h1
structure sX (ρ:Rn) (D:Nat→Prop) (fr0:F) (T:List Rc) (f:Fr):Prop where
 wrote:∀ r∈T,D r.i→∀ t,r.dst=some (path t)→Den ρ r.v (f t)
 old:∀ t v,(∀ r∈T,D r.i→r.dst≠some (path t))→at_ fr0 t=some v→Den ρ v (f t)
 uQ:∀ g,g<1000→∃ sz,ρ g=some (g,sz)
theorem sX.ext {ρ ρ':Rn} {D:Nat→Prop} {fr0:F} {T:List Rc} {f:Fr} (h:sX ρ D fr0 T f) (e:Ext ρ ρ'):sX ρ' D fr0 T f :=
 ⟨fun r hr hD t ht=>(h.wrote r hr hD t ht).ext e,fun t v hn hv=>(h.old t v hn hv).ext e,fun g hg=>(h.uQ g hg).imp fun _ k=>e _ _ k⟩
theorem sX.put {ρ:Rn} {D:Nat→Prop} {fr0:F} {T:List Rc} {f:Fr} (h:sX ρ D fr0 T f) {r:Rc} (hr:r∈T) {d:Option Nat} (hd:r.dst=d.map path) {x:Value} (hx:Den ρ r.v x)
  (hidx:∀ r'∈T,r'.i=r.i→r'=r) (hone:∀ r'∈T,∀ t,r'.dst=some (path t)→r.dst=some (path t)→r'=r):sX ρ (fun i=>D i∨i=r.i) fr0 T (cH f d x):=by
 have hne:∀ t,r.dst≠some (path t)→cH f d x t=f t:=fun t ht=>by
  cases d with
  | none=>rfl
  | some d =>
   show cw f d x t=f t
   unfold cw
   have:t≠d:=by
    rintro rfl
    exact ht hd
   rw [show Nat.beq t d=false from by rw [bE];exact decide_eq_false this]
   rfl
 have heq:∀ t,r.dst=some (path t)→cH f d x t=x:=fun t ht=>by
  cases d with
  | none=>rw [hd] at ht;cases ht
  | some d =>
   rw [hd] at ht
   have:t=d:=vh (by simpa using ht.symm)
   subst this
   show cw f t x t=x
   unfold cw
   rw [show Nat.beq t t=true from Nat.beq_refl t]
   rfl
 refine ⟨fun r' hr' hD t ht=>?_,fun t v hn hv=>?_,h.uQ⟩
 ·by_cases hrt:r.dst=some (path t)
  ·rw [hone r' hr' t ht hrt,heq t hrt]
   exact hx
  ·rw [hne t hrt]
   exact h.wrote r' hr' (hD.resolve_right fun e=>hrt (by rw [← hidx r' hr' e];exact ht)) t ht
 ·have hrt:=hn r hr (.inr rfl)
  rw [hne t hrt]
  exact h.old t v (fun r' hr' hD=>hn r' hr' (.inl hD)) hv
theorem SN {call:dB} {base:Nat} {h0:H} {l:List (Nat×Nat×CI)} {fr0 fr':F} {cur h':H} {past:List (Nat×H)} {nx aL:Nat} {A B:List Rc} {r:Rc} {ops:List Oper} {o:Oper} {ρ:Rn} {D:Nat→Prop} {f:Fr}
  (hT:Cb call base h0 l 0 fr0 cur past nx (A++r::B) fr' h' aL) (hops:∀ x∈A++r::B,∃ o,ops[x.i]?=some o∧x.mask=(fZ ops).getD x.i 0∧x.dst=o.dst.map path) (ho:ops[r.i]?=some o) (hsl:kL ops=true)
  (hS:sX ρ D fr0 (A++r::B) f) (hD:¬ D r.i) (hcl:∀ x∈A++r::B,D x.i→∀ j,x.mask.testBit j=true→D j) (hmk:∀ j,r.mask.testBit j=true→D j) {t:Nat} {u:V} (ht:t∈slotsOf o ops) (hu:at_ r.fr t=some u):Den ρ u (f t):=by
 obtain ⟨hall,hok,hnd⟩:=zU hT
 obtain ⟨k1,k2,k3,_⟩:=jM hT
 have hbit:∀ (m d j:Nat),m&&& d=m→m.testBit j=true→d.testBit j=true:=fun m d j h hb=>by
  rw [← h,Nat.testBit_and,Bool.and_eq_true] at hb
  exact hb.2
 have hdst:∀ x∈A++r::B,∀ p,x.dst=some p→∃ d,p=path d:=fun x hx p hp=>by
  obtain ⟨ox,_,_,h3⟩:=hops x hx
  rw [h3] at hp
  obtain ⟨d,_,rfl⟩:=Option.map_eq_some_iff.1 hp
  exact ⟨d,rfl⟩
 have hod:∀ x∈A++r::B,∀ ox,ops[x.i]?=some ox→x.dst=some (path t)→ox.dst=some t:=fun x hx ox hox hp=>by
  obtain ⟨ox',h1,_,h3⟩:=hops x hx
  rw [hox] at h1
  cases h1
  rw [h3] at hp
  obtain ⟨d,hd,he⟩:=Option.map_eq_some_iff.1 hp
  rw [hd,vh he]
 obtain ⟨or',hor,hmr,_⟩:=hops r (by simp)
 rw [List.map_append,List.map_cons,List.nodup_append] at hnd
 rw [k3] at hu
 rcases zR t u A fr0 (fun x hx=>hdst x (by simp [hx])) hu with ⟨x,hx,hxd,rfl⟩|⟨hno,hu0⟩
 ·obtain ⟨ox,hox,hmx,_⟩:=hops x (by simp [hx])
  have hne:r.i≠x.i:=fun e=>hnd.2.2 x.i (List.mem_map_of_mem hx) r.i (by simp) e.symm
  rcases (vg hsl ho hox hne (hod x (by simp [hx]) ox hox hxd)).2 ht with hm|hm
  ·rw [← hmr] at hm
   exact hS.wrote x (by simp [hx]) (hmk _ hm) t hxd
  ·exfalso
   obtain ⟨A1,A2,rfl⟩:=List.append_of_mem hx
   rw [List.append_assoc,List.cons_append] at hT
   obtain ⟨j1,j2,_,_⟩:=jM hT
   rw [← hmx] at hm
   have hb:=hbit _ _ _ j1.sub hm
   rw [j2,lN] at hb
   rcases hb with hb|⟨y,hy,he⟩
   ·simp at hb
   ·exact hnd.2.2 y.i (List.mem_map_of_mem (by simp [hy])) r.i (by simp) he
 ·refine hS.old t u (fun x hx hDx hxd=>?_) hu0
  have hne:r.i≠x.i:=fun e=>hD (by rw [e];exact hDx)
  obtain ⟨ox,hox,hmx,_⟩:=hops x hx
  rcases (vg hsl ho hox hne (hod x hx ox hox hxd)).2 ht with hm|hm
  ·rw [← hmr] at hm
   have hb:=hbit _ _ _ k1.sub hm
   rw [k2,lN] at hb
   rcases hb with hb|⟨y,hy,he⟩
   ·simp at hb
   ·rcases List.mem_append.1 hx with hx|hx
    ·exact hno x hx hxd
    ·rcases List.mem_cons.1 hx with rfl|hx
     ·exact hne rfl
     ·exact hnd.2.2 y.i (List.mem_map_of_mem hy) x.i (List.mem_cons_of_mem _ (List.mem_map_of_mem hx)) he
  ·rw [← hmx] at hm
   exact hD (hcl x hx hDx _ hm)
theorem Sat.add {ρ:Rn} {h:H} {w:World} (hs:Sat ρ h w) {nm b sz:Nat} {x:O} {ob:Obj} (hr:ρ nm=some (b,sz)) (hb:w.heap[b]?=some ob) (ho:iL ρ x ob sz) (hi:¬ Im ρ h b):Sat ρ (dL h nm (some x)) w where
 has:=fun m o hm=>by
  rw [cg] at hm
  split at hm
  ·rename_i e
   cases hm
   rw [e]
   exact ⟨b,sz,ob,hr,hb,ho⟩
  ·exact hs.has m o hm
 inj:=fun m1 m2 b' s1 s2 h1 h2 r1 r2=>by
  rw [cg] at h1 h2
  by_cases e1:m1=nm <;> by_cases e2:m2=nm
  ·rw [e1,e2]
  ·rw [if_neg e2] at h2
   rw [e1,hr] at r1
   cases r1
   exact absurd ⟨m2,s2,h2,r2⟩ hi
  ·rw [if_neg e1] at h1
   rw [e2,hr] at r2
   cases r2
   exact absurd ⟨m1,s1,h1,r1⟩ hi
  ·rw [if_neg e1] at h1
   rw [if_neg e2] at h2
   exact hs.inj m1 m2 b' s1 s2 h1 h2 r1 r2
theorem F3 {ρ:Rn} {h:H} {nm b sz k:Nat} {x:O} (hr:ρ nm=some (b,sz)) (hi:Im ρ (dL h nm (some x)) k):k=b∨Im ρ h k:=by
 obtain ⟨m,s,hm,h2⟩:=hi
 rw [cg] at hm
 split at hm
 ·rename_i e
  rw [e,hr] at h2
  cases h2
  exact .inl rfl
 ·exact .inr ⟨m,s,hm,h2⟩
end E
end Go.Proofs.YtlmabdegojeheaaGreatDoor
