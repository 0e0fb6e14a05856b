/- WholeTurned: parts of its proof (Zi Dr Sk). -/
import Derived.Test.YtlmabdegojeheaaGreatDoorZbZh
import Derived.Test.YtlmabdegojeheaaGreatDoorAa
import Derived.Lone
import Derived.Calls
import Derived.Test.YtlmabdegojeheaaGreatDoorOwn2Shelf
import Derived.Shelf.SlSortCmp.NoneTotal
namespace Go.Proofs.YtlmabdegojeheaaGreatDoor
open R
section
section
variable {T:Type} [Inhabited T] [DecidableEq T]
def ry (L:List T):Nat→List T
 | 0=>[]
 | i+1=>if 0<i∧nth L i=nth L (i-1) then ry L i else ry L i++[nth L i]
def dd (L:List T):List T:=ry L L.length
theorem HM (L:List T):∀ i,(ry L i).length≤i
 | 0=>Nat.le_refl _
 | i+1=>by
  have:=HM L i
  unfold ry
  split
  ·omega
  ·rw [List.length_append]
   simp only [List.length_cons,List.length_nil]
   omega
theorem B5 {L:List T} {x:T}:∀ {i},i≤L.length→(x∈ry L i↔∃ j,j<i∧nth L j=x)
 | 0,_=>⟨fun h=>(List.not_mem_nil h).elim,fun ⟨_,h,_⟩=>(Nat.not_lt_zero _ h).elim⟩
 | i+1,h=>by
  have ih:=B5 (L:=L) (x:=x) (i:=i) xj
  unfold ry
  split
  ·rename_i hc
   rw [ih]
   constructor
   ·rintro ⟨j,h1,h2⟩
    exact ⟨j,by omega,h2⟩
   ·rintro ⟨j,h1,h2⟩
    by_cases e:j=i
    ·subst e
     exact ⟨j-1,by omega,by rw [← hc.2];exact h2⟩
    ·exact ⟨j,by omega,h2⟩
  ·rw [List.mem_append,ih,List.mem_singleton]
   constructor
   ·rintro (⟨j,h1,h2⟩|rfl)
    ·exact ⟨j,by omega,h2⟩
    ·exact ⟨i,by omega,rfl⟩
   ·rintro ⟨j,h1,h2⟩
    by_cases e:j=i
    ·subst e
     exact .inr h2.symm
    ·exact .inl ⟨j,by omega,h2⟩
theorem sI {L:List T} {x:T}:x∈dd L↔x∈L:=by
 unfold dd
 rw [B5 (Nat.le_refl _)]
 constructor
 ·rintro ⟨j,h1,rfl⟩
  exact R.aB h1
 ·intro h
  obtain ⟨j,h1,h2⟩:=List.getElem_of_mem h
  exact ⟨j,h1,by rw [av h1];exact h2⟩
theorem yA {le:T→T→Prop} {L:List T} (hs:L.Pairwise le) (anti:∀ a∈L,∀ b∈L,le a b→le b a→a=b):(dd L).Pairwise fun a b=>le a b∧a≠b:=by
 have key:∀ i,i≤L.length→(ry L i).Pairwise fun a b=>le a b∧a≠b:=by
  intro i
  induction i with
  | zero=>exact fun _=>.nil
  | succ i ih =>
   intro hi
   unfold ry
   split
   ·exact ih xj
   ·rename_i hc
    refine List.pairwise_append.2 ⟨ih xj,List.pairwise_singleton _ _,fun x hx y hy=>?_⟩
    rw [List.mem_singleton] at hy
    subst hy
    obtain ⟨j,h1,rfl⟩:=(B5 (L:=L) (i:=i) xj).1 hx
    have le_of:∀ p q,p<q→q<L.length→le (nth L p) (nth L q):=fun p q h2 h3=>by
     rw [av (by omega:p<L.length),av h3]
     exact List.pairwise_iff_getElem.1 hs p q xj h3 h2
    refine ⟨le_of j i h1 xj,fun e=>?_⟩
    rcases Nat.lt_or_ge j (i-1) with c|c
    ·have h2:=le_of j (i-1) c xj
     have h3:=le_of (i-1) i xj xj
     rw [e] at h2
     have:=anti _ (R.aB (by omega:i<L.length)) _ (R.aB (by omega:i-1<L.length)) h2 h3
     exact hc ⟨by omega,this⟩
    ·obtain rfl:j=i-1:=by omega
     exact hc ⟨by omega,e.symm⟩
 exact key _ (Nat.le_refl _)
end
theorem Fh {s:bJ} {a b:Ct} (ha:oY s a) (hb:oY s b) (e:a.n*b.d=b.n*a.d):a=b:=by
 obtain ⟨a1,a2,a3,a4,a5,a6⟩:=ha
 obtain ⟨b1,b2,b3,b4,b5,b6⟩:=hb
 have h1:a.d ∣ b.d:=by
  have h:a.d ∣ a.n*b.d:=⟨b.n,by rw [e,Int.mul_comm]⟩
  have h:=Int.dvd_gcd_mul_iff_dvd_mul.2 h
  rw [Int.gcd_comm,a6] at h
  simpa using h
 have h2:b.d ∣ a.d:=by
  have h:b.d ∣ b.n*a.d:=⟨a.n,by rw [← e,Int.mul_comm]⟩
  have h:=Int.dvd_gcd_mul_iff_dvd_mul.2 h
  rw [Int.gcd_comm,b6] at h
  simpa using h
 have hd:a.d=b.d:=Int.dvd_antisymm xj xj h1 h2
 have hn:a.n=b.n:=by
  rw [hd] at e
  exact Int.eq_of_mul_eq_mul_right xj e
 exact Ct.gW.2 ⟨hn,hd,by rw [a5,b5,hn,hd]⟩
def LR (a b:Ct):Int:=aR (a.n*b.d) (b.n*a.d)
def HP (S:List bJ) (Ps:List P2) (m i:Nat) (c:Ct):Prop:=c=bT (nth S i) 0 1∨c=bT (nth S i) 1 1∨∃ t,t<m∧∃ j:Nat,j<S.length∧(nth Ps t=⟨i,j⟩∨nth Ps t=⟨j,i⟩)∧∃ x,fK (nth S i) (nth S j) x∧c∈xG (nth S i) x
theorem Vm {S:List bJ} {Ps:List P2} (hP:B4 S Ps) {i:Nat} (hi:i<S.length) {c:Ct}:HP S Ps Ps.length i c↔tI S i c:=by
 unfold HP tI
 refine or_congr Iff.rfl (or_congr Iff.rfl ?_)
 constructor
 ·rintro ⟨t,ht,j,hj,hp,hx⟩
  obtain ⟨p,q,h1,h2,h3,h4⟩:=(hP _).1 (R.aB ht)
  have e:(p=i∧q=j)∨(p=j∧q=i):=by
   rcases hp with hp|hp
   ·rw [h4] at hp
    injection hp with e1 e2
    omega
   ·rw [h4] at hp
    injection hp with e1 e2
    omega
  refine ⟨j,hj,by omega,?_,hx⟩
  rcases e with ⟨rfl,rfl⟩|⟨rfl,rfl⟩
  ·exact h3
  ·exact mP.1 h3
 ·rintro ⟨j,hj,hne,hn,hx⟩
  have hm:(⟨(i:Int),(j:Int)⟩:P2)∈Ps∨(⟨(j:Int),(i:Int)⟩:P2)∈Ps:=by
   rcases Nat.lt_or_ge i j with c|c
   ·exact .inl ((hP _).2 ⟨i,j,c,hj,hn,rfl⟩)
   ·exact .inr ((hP _).2 ⟨j,i,by omega,hi,mP.1 hn,rfl⟩)
  rcases hm with hm|hm
  ·obtain ⟨t,ht,e⟩:=List.getElem_of_mem hm
   exact ⟨t,ht,j,hj,.inl (by rw [av ht];exact e),hx⟩
  ·obtain ⟨t,ht,e⟩:=List.getElem_of_mem hm
   exact ⟨t,ht,j,hj,.inr (by rw [av ht];exact e),hx⟩
theorem Zv {S:List bJ} (hS:∀ s∈S,aK s) {i:Nat} (hi:i<S.length) {L D:List Ct} (hm:∀ c,c∈L↔tI S i c) (hp:D.Perm L) (hs:D.Pairwise fun a b=>¬ LR b a<0):kW S i (dd D) where
 mem:=fun c=>by
  rw [sI,hp.mem_iff,hm]
 QS:=by
  have ok:∀ c∈D,oY (nth S i) c:=fun c hc=>oL hS hi ((hm c).1 (hp.subset hc))
  have h:=yA (le:=fun a b=>a.n*b.d≤b.n*a.d) (hs.imp fun {a b} hab=>by
   unfold LR at hab
   rw [cC] at hab
   omega) (fun a ha b hb h1 h2=>Fh (ok a ha) (ok b hb) xj)
  refine h.imp_of_mem fun {a b} ha hb hab=>?_
  have h1:=ok a (sI.1 ha)
  have h2:=ok b (sI.1 hb)
  unfold V7
  have h3:a.n*b.d≠b.n*a.d:=fun e=>hab.2 (Fh h1 h2 e)
  have:=hab.1
  omega
end
section
open Go
def Vp {α:Type}:Result α→World
 | .ok _ w=>w
 | .halt _ w=>w
def dJ:GStep→World
 | .go _ w _=>w
 | .comm _ _ _ _ w _=>w
 | .spawn _ _ w _=>w
 | .count _ w _=>w
 | .timer _ _ w _=>w
 | .alone _ _ w _=>w
 | .newcoro _ _ _ w _=>w
 | .coroswitch _ _ _ w _=>w
 | .collect _ w _=>w
 | .watch _ w _=>w
 | .ended _ w _=>w
theorem Fm {α:Type}:∀ (a:Ask α) (w:World),w.drawn≤(w.ask a).2.drawn
 | .done _,w=>Nat.le_refl _
 | .ask what range k,w=>by
  unfold World.ask
  simp only []
  split
  ·exact Fm (k 0) w
  ·exact Nat.le_trans (Nat.le_succ _) (Fm (k _) { w with drawn:=w.drawn+1 })
theorem L5 (w:World) (c:Sys):w.drawn≤(w.sys c).2.drawn:=by
 have h:=Fm (Kernel.perform c w.os) w
 unfold World.sys
 split
 ·exact Nat.le_refl _
 ·rename_i h2
  rw [h2] at h
  exact h
theorem yF {P:Program} {w w':World} {a k:Addr} {u:TypeId} {v:Value} {b:Bool} {l:List Addr} (h:w.viewStore P a u k v b=.ok (w',l)):w'.drawn=w.drawn:=by
 unfold World.viewStore at h
 simp only [bind,Except.bind,pure,Except.pure] at h
 repeat' first
  | (simp at h;done)
  | (simp only [Except.ok.injEq,Prod.mk.injEq] at h;obtain ⟨rfl,_⟩:=h;rfl)
  | split at h
theorem Ce {P:Program} {w w':World} {a:Addr} {v:Value} {b:Bool} {l:List Addr} (h:w.farStore P a v b=.ok (w',l)):w'.drawn=w.drawn:=by
 unfold World.farStore at h
 repeat' first
  | (simp at h;done)
  | (rename_i hv;simp only [Except.ok.injEq] at h;subst h;exact yF hv)
  | split at h
theorem fA {α:Type} (P:Program):∀ (x:Sem α) (w:World),w.drawn≤(Vp (x.run P w)).drawn
 | .pure a,w=>Nat.le_refl _
 | .load m a k,w=>by
  unfold Sem.run
  split
  ·exact fA P (k _) w
  ·split
   ·exact fA P (k _) w
   ·exact Nat.le_refl _
 | .store m a v k,w=>by
  have h1:=fA P k
  have key:w.drawn≤(Vp (match w.cell? a with
   | some _=>if w.frozen? a then .halt (.unsupported (.unsafePointer "a write to bytes that a string shares")) w else k.run P (w.setCell a v)
   | none=>match w.farStore P a v (m == .atomic) with
    | .ok (w,_)=>k.run P w
    | .error h=>.halt h w)).drawn:=by
   split
   ·split
    ·exact Nat.le_refl _
    ·exact h1 (w.setCell a v)
   ·split
    ·rename_i h
     have:=h1 ‹World›
     rw [Ce h] at this
     exact this
    ·exact Nat.le_refl _
  cases v
  all_goals first
   | exact key
   | exact Nat.le_refl _
 | .new o k,w=>fA P (k _) { w with heap:=w.heap.push o }
 | .shape r k,w=>fA P (k _) w
 | .freeze a n k,w=>by
  have:(w.freeze a n).drawn=w.drawn:=by
   unfold World.freeze
   split <;> rfl
  exact Nat.le_trans (Nat.le_of_eq this.symm) (fA P k (w.freeze a n))
 | .frozen a k,w=>fA P (k _) w
 | .getObj r k,w=>by
  unfold Sem.run
  split
  ·exact Nat.le_refl _
  ·exact fA P (k _) w
  ·exact Nat.le_refl _
 | .setObj r o k,w=>by
  unfold Sem.run
  split
  ·exact Nat.le_refl _
  ·exact fA P k { w with heap:=w.heap.setIfInBounds r o }
  ·exact Nat.le_refl _
 | .choose q k,w=>by
  unfold Sem.run
  split
  ·exact fA P (k 0) w
  ·exact Nat.le_trans (Nat.le_succ _) (fA P (k _) { w with drawn:=w.drawn+1 })
 | .sys c k,w=>Nat.le_trans (L5 w c) (fA P (k _) (w.sys c).2)
 | .program k,w=>fA P (k P) w
 | .mark m k,w=>fA P k w
 | .halt h,w=>Nat.le_refl _
theorem eG {α:Type} {P:Program} {x:Sem α} {w w':World} {a:α} (h:x.run P w=.ok a w'):w.drawn≤w'.drawn:=by
 have:=fA P x w
 rw [h] at this
 exact this
theorem dS {α:Type} {P:Program} {x:Sem α} {w w':World} {a:Halt} (h:x.run P w=.halt a w'):w.drawn≤w'.drawn:=by
 have:=fA P x w
 rw [h] at this
 exact this
theorem mi (es:Array Event) (s:GStep):dJ (s.after es)=dJ s:=by cases s <;> rfl
theorem Fo (w:World) (fd:Nat) (text:ByteArray) (o:Outcome):w.drawn≤(dJ (endWith w fd text o)).drawn:=by
 have h:=L5 w (.write fd text)
 unfold endWith
 simp only []
 repeat' split
 all_goals (rename_i hs;first|(rw [hs] at h;exact h)|(rename_i hs2 _;rw [hs2] at h;exact h)|skip)
 all_goals simp_all [dJ]
theorem sK (P:Program) (fr:Frame) (cs:List Frame) (d:Option Dying) (m:String) (w:World):w.drawn≤(dJ (endFatal P fr cs d m w)).drawn:=by
 unfold endFatal
 simp only []
 split
 ·rename_i h
  exact eG h
 ·rename_i h
  exact dS h
 ·rename_i h
  exact dS h
theorem m8 (P:Program) (fr:Frame) (v:Value) (w:World):w.drawn≤(dJ (endPrinting P fr v w)).drawn:=by
 unfold endPrinting
 simp only []
 split <;> exact Nat.le_refl _
theorem Fp (P:Program) (fr:Frame) (d:Dying) (f:Fatal) (w:World):w.drawn≤(dJ (writeOn P fr d f w)).drawn:=by
 unfold writeOn
 simp only []
 split
 ·exact Nat.le_refl _
 ·simp only [Sem.runT_eq]
  split
  all_goals
   rename_i h
   simp only [Prod.mk.injEq] at h
   first|exact eG h.1|exact dS h.1
theorem Wc (P:Program) (fr:Frame) (d:Dying) (w:World):w.drawn≤(dJ (die P fr d w)).drawn:=by
 unfold die
 simp only [Sem.runT_eq]
 repeat' first
  | exact Nat.le_refl _
  | exact Fp _ _ _ _ _
  | exact Fo _ _ _ _
  | (rw [mi];split)
  | exact eG ww
  | exact dS ww
  | exact Nat.le_trans (dS ww) (m8 _ _ _ _)
  | split
theorem kK (P:Program) (main:Bool) (fr:Frame) (cs:List Frame) (d:Option Dying) (v:Value) (w:World):(dJ (doReturn P main fr cs d v w)).drawn=w.drawn:=by
 unfold doReturn
 simp only []
 repeat' split
 all_goals rfl
theorem L6 (P:Program) (fr:Frame) (cs:List Frame) (d:Option Dying) (g:Nat) (w:World):w.drawn≤(dJ (early P fr cs d g w)).drawn:=by
 unfold early
 simp only []
 repeat' first
  | exact Nat.le_refl _
  | exact eG ww
  | exact dS ww
  | (refine Nat.le_trans (eG ww) ?_;exact Nat.le_refl _)
  | split
theorem tx (P:Program) (fr:Frame) (cs:List Frame) (d:Option Dying) (x:Deferred) (w:World):w.drawn≤(dJ (callDeferred P fr cs d x w)).drawn:=by
 unfold callDeferred
 simp only [Sem.runT_eq]
 repeat' first
  | exact Nat.le_refl _
  | (rw [mi];split)
  | exact eG ww
  | exact dS ww
  | exact Nat.le_trans (dS ww) (sK _ _ _ _ _ _)
  | split
theorem JX (P:Program) (main:Bool) (fr:Frame) (cs:List Frame) (d:Option Dying) (w:World):w.drawn≤(dJ (unwind P main fr cs d w)).drawn:=by
 unfold unwind
 simp only [Sem.runT_eq]
 repeat' first
  | exact Nat.le_refl _
  | exact tx _ _ _ _ _ _
  | exact m8 _ _ _ _
  | (rw [kK];exact Nat.le_refl _)
  | (rw [mi];split)
  | exact eG ww
  | exact dS ww
  | (rw [kK];exact eG ww)
  | split
theorem ur (P:Program) (l:Bool) (fr:Frame) (cs:List Frame) (d:Option Dying) (s:Sem Next) (w:World):w.drawn≤(dJ (stepG.apply P l fr cs d s w)).drawn:=by
 have e:∃ es,(if l then s.runT P w #[] else (s.run P w,#[]))=(s.run P w,es):=by
  split
  ·exact ⟨_,Sem.runT_eq _ _ _ _⟩
  ·exact ⟨_,rfl⟩
 obtain ⟨es,e⟩:=e
 unfold stepG.apply
 simp only [e,mi]
 repeat' first
  | exact Nat.le_refl _
  | exact eG ww
  | exact dS ww
  | exact Nat.le_trans (dS ww) (sK _ _ _ _ _ _)
  | exact Nat.le_trans (dS ww) (L6 _ _ _ _ _ _)
  | split
theorem QT (P:Program) (l:Bool) (fr:Frame) (cs:List Frame) (d:Option Dying) (w:World):w.drawn≤(dJ (stepG.oper P l fr cs d w)).drawn:=by
 unfold stepG.oper
 repeat' first
  | exact Nat.le_refl _
  | exact ur _ _ _ _ _ _ _
  | split
theorem QU {α:Type} {w:World} {a:GStep} {f:α→GStep}:∀ o:Option α,w.drawn≤(dJ a).drawn→(∀ k,w.drawn≤(dJ (f k)).drawn)→w.drawn≤(dJ (o.elim a f)).drawn
 | none,h,_=>h
 | some k,_,h=>h k
set_option maxHeartbeats 2000000 in
theorem QV (P:Program) (main l:Bool) (fr:Frame) (cs:List Frame) (d:Option Dying) (w:World):w.drawn≤(dJ (stepG.exec P main l fr cs d w)).drawn:=by
 unfold stepG.exec
 simp only [Sem.runT_eq]
 split
 all_goals repeat' first
  | exact QT _ _ _ _ _ _
  | exact ur _ _ _ _ _ _ _
  | refine QU _ ?_ (fun k=>?_)
  | (rw [mi];split)
  | (rw [mi,kK];exact eG ww)
  | (rw [mi];exact dS ww)
  | (rw [kK];exact eG ww)
  | exact eG ww
  | exact dS ww
  | exact Nat.le_trans (eG ww) (ur _ _ _ _ _ _ _)
  | split
  | exact Nat.le_refl _
theorem L7 (P:Program) (main:Bool) (g:Goroutine) (w:World) (l:Bool):w.drawn≤(dJ (stepG P main g w l)).drawn:=by
 unfold stepG
 repeat' first
  | exact Wc _ _ _ _
  | exact QV _ _ _ _ _ _ _
  | exact JX _ _ _ _ _ _
  | split
theorem HW (P:Program) (gs:Array Goroutine) (rest:Rest) (w:World) (m':Machine) (h:look P gs rest w=.next m'):w.drawn≤m'.world.drawn:=by
 unfold look at h
 simp only [] at h
 repeat' first
  | (simp at h;done)
  | (simp only [Stepped.next.injEq] at h;subst h;exact eG ww)
  | (simp only [Stepped.next.injEq] at h;subst h;(refine Nat.le_trans (eG ww) ?_;exact Nat.le_refl _))
  | split at h
theorem uu (P:Program) (rest:Rest) (gs:Array Goroutine) (i:Nat) (g:Goroutine) (cases:Array CommCase) (blocking:Bool) (shape:CommShape) (w:World) (m':Machine) (h:(communicate P rest gs i g cases blocking shape w).1=.next m'):w.drawn≤m'.world.drawn:=by
 have hw:∀ {w'},waitingAt rest cases w=some w'→w.drawn≤w'.drawn:=fun {w'} k=>by
  unfold waitingAt at k
  repeat' first
   | (simp at k;done)
   | (simp only [Option.some.injEq] at k;subst k;exact Nat.le_refl _)
   | split at k
 unfold communicate at h
 simp only [] at h
 repeat' first
  | (simp at h;done)
  | (simp only [Stepped.next.injEq] at h;subst h;exact Nat.le_refl _)
  | (simp only [Stepped.next.injEq] at h;subst h;exact hw ww)
  | (simp only [Stepped.next.injEq] at h;subst h;(refine Nat.le_trans (eG ww) ?_;exact Nat.le_refl _))
  | (simp only [Stepped.next.injEq] at h;subst h;refine Nat.le_trans (eG ww) ?_;exact eG ww)
  | (simp only [Stepped.next.injEq] at h;subst h;refine Nat.le_trans (eG ww) ?_;exact dS ww)
  | (simp only [Stepped.next.injEq] at h;subst h;refine Nat.le_trans (eG ww) ?_;refine Nat.le_trans (eG ww) ?_;exact Nat.le_refl _)
  | split at h
theorem Fq (m:Machine) (op:TimerOp) (v:Value) (m':Machine) (h:timerOp m op=.ok (v,m')):m.world.drawn≤m'.world.drawn:=by
 have hd:∀ (w:World) (c:Nat),(drain w c).2.drawn=w.drawn:=fun w c=>by
  unfold drain
  split <;> rfl
 have hr:∀ (m:Machine) (k:Nat) (t:Timer) (a b:Nat),(retime m k t a b).2.world.drawn=m.world.drawn:=fun m k t a b=>by
  unfold retime
  cases t.chan
  ·rfl
  ·exact hd _ _
 have ho:∀ {var m'},timerOp.opened m var=some m'→m'.world.drawn=m.world.drawn:=fun {var m'} k=>by
  unfold timerOp.opened at k
  repeat' first
   | (simp at k;done)
   | (simp only [Option.some.injEq] at k;subst k;rfl)
   | split at k
 have hn:∀ {var f},timerOp.named m var f=.ok (v,m')→∃ k t,f k t=(v,m'):=fun {var f} k=>by
  unfold timerOp.named at k
  split at k
  ·simp only [Except.ok.injEq] at k
   exact ⟨_,_,k⟩
  ·simp at k
 cases op with
 | new t =>
  simp only [timerOp] at h
  repeat' first
   | (simp at h;done)
   | (simp only [Except.ok.injEq,Prod.mk.injEq] at h;obtain ⟨_,rfl⟩:=h;exact Nat.le_refl _)
   | split at h
 | stop var =>
  simp only [timerOp] at h
  obtain ⟨k,t,e⟩:=hn h
  have:=hr m k t 0 t.period
  rw [e] at this
  exact Nat.le_of_eq this.symm
 | reset var a b =>
  simp only [timerOp] at h
  split at h
  ·rename_i m2 h2
   obtain ⟨k,t,e⟩:=hn h
   have:=hr m2 k t a b
   rw [e] at this
   exact Nat.le_of_eq ((this.trans (ho h2)).symm)
  ·simp at h
 | deadline =>
  simp only [timerOp] at h
  simp only [Except.ok.injEq,Prod.mk.injEq] at h
  obtain ⟨_,rfl⟩:=h
  exact Nat.le_refl _
theorem QW (P:Program) (m m':Machine) (i:Nat) (b:Bool) (h:(runT P m i b).1=.next m'):m.world.drawn≤m'.world.drawn:=by
 simp only [runT] at h
 revert h
 generalize m.gs.swapAt! _ _=gg
 have hs:=L7 P (i == 0) gg.1 m.world b
 revert hs
 generalize stepG P _ gg.1 m.world b=s
 intro hs h
 cases s <;> simp only [] at h
 all_goals first
  | (simp at h;done)
  | exact Nat.le_trans hs (uu _ _ _ _ _ _ _ _ _ _ h)
  | exact Nat.le_trans hs (HW _ _ _ _ _ h)
  | (simp only [Stepped.next.injEq] at h;subst h;exact hs)
  | (repeat' first
    | (simp at h;done)
    | (simp only [Stepped.next.injEq] at h;subst h;exact hs)
    | (simp only [Stepped.next.injEq] at h;subst h;refine Nat.le_trans hs ?_;exact Fq _ _ _ _ ww)
    | (simp only [Stepped.next.injEq] at h;subst h;rename_i hk;have e:=congrArg (fun s=>(dJ s).drawn) hk;exact Nat.le_trans hs (Nat.le_of_eq e))
    | split at h)
theorem L8 (P:Program) (m m':Machine) (k:Nat) (h:serve P m k=.next m'):m.world.drawn≤m'.world.drawn:=by
 unfold serve at h
 simp only [] at h
 repeat' first
  | (simp at h;done)
  | (simp only [Stepped.next.injEq] at h;subst h;exact Nat.le_refl _)
  | split at h
theorem L9 {α:Type} {P:Program} {x:Sem α} {d:Nat} {w w':World} {a:α} (k:d≤w.drawn) (h:x.run P w=.ok a w'):d≤w'.drawn:=Nat.le_trans k (eG h)
theorem Cg (P:Program) (m:Machine):(∀ m' i,askOn P m=.goroutine m' i→m.world.drawn≤m'.world.drawn)∧∀ m' ops,askOn P m=.machine (.next m') ops→m.world.drawn≤m'.world.drawn:=by
 constructor
 ·intro m' i h
  unfold askOn at h
  simp only [Machine.advanceTo] at h
  repeat' first
   | (simp at h;done)
   | (simp only [Move.goroutine.injEq] at h;obtain ⟨rfl,_⟩:=h;dsimp only;repeat (first|exact Nat.le_refl _|(refine L9 ?_ ww;try dsimp only)))
   | split at h
 ·intro m' ops h
  unfold askOn at h
  simp only [Machine.advanceTo] at h
  repeat' first
   | (simp at h;done)
   | (simp only [Move.machine.injEq] at h;refine Nat.le_trans (eG ww) ?_;exact L8 _ _ _ _ h.1)
   | (simp only [Move.machine.injEq,Stepped.next.injEq] at h;obtain ⟨rfl,_⟩:=h;dsimp only;repeat (first|exact Nat.le_refl _|(refine L9 ?_ ww;try dsimp only)))
   | split at h
theorem yG (P:Program) (m:Machine):(∃ m₂,m.world.drawn≤m₂.world.drawn∧ask P m=askOn P m₂)∨(∃ o w,ask P m=.machine (.ended o w) #[]):=by
 unfold ask
 by_cases hw:m.rest.watch=true
 ·rw [if_pos hw]
  cases hr:(choose (.extern "collector.look" 2)).run P m.world with
  | halt h w=>exact .inr ⟨_,_,rfl⟩
  | ok k world =>
   have hd:=eG hr
   rcases k with _|_|k
   ·exact .inl ⟨{ m with world },hd,rfl⟩
   ·show (∃ m₂,m.world.drawn≤m₂.world.drawn∧(match look P m.gs m.rest world with|.next m=>askOn P m|e=>Move.machine e)=askOn P m₂) ∨
     (∃ o w,(match look P m.gs m.rest world with|.next m=>askOn P m|e=>Move.machine e)=.machine (.ended o w) #[])
    cases hl:look P m.gs m.rest world with
    | next m₂=>exact .inl ⟨m₂,Nat.le_trans hd (HW _ _ _ _ _ hl),rfl⟩
    | ended o w=>exact .inr ⟨o,w,rfl⟩
   ·exact .inl ⟨{ m with world },hd,rfl⟩
 ·simp only [hw,Bool.false_eq_true,if_false]
  exact .inl ⟨m,Nat.le_refl _,rfl⟩
theorem HX (P:Program) (m:Machine):(∀ m' i,ask P m=.goroutine m' i→m.world.drawn≤m'.world.drawn)∧∀ m' ops,ask P m=.machine (.next m') ops→m.world.drawn≤m'.world.drawn:=by
 rcases yG P m with ⟨m₂,hs,he⟩|⟨o,w,he⟩
 ·rw [he]
  exact ⟨fun m' i h=>Nat.le_trans hs ((Cg P m₂).1 m' i h),fun m' ops h=>Nat.le_trans hs ((Cg P m₂).2 m' ops h)⟩
 ·rw [he]
  exact ⟨fun m' i h=>by simp at h,fun m' ops h=>by simp at h⟩
theorem HY (P:Program) (m:Machine):(∀ m' i,move P m=.goroutine m' i→m.world.drawn≤m'.world.drawn)∧∀ m' ops,move P m=.machine (.next m') ops→m.world.drawn≤m'.world.drawn:=by
 unfold move
 repeat' split
 all_goals first
  | exact HX P m
  | exact HX P { m with rest:={ m.rest with slice:=none } }
  | exact ⟨fun m' i h=>by simp only [Move.goroutine.injEq] at h;obtain ⟨rfl,_⟩:=h;exact Nat.le_refl _,fun m' ops h=>by simp at h⟩
  | exact ⟨fun m' i h=>by simp at h,fun m' ops h=>by simp at h⟩
theorem QX (P:Program) (m m':Machine) (h:step P m=.next m'):m.world.drawn≤m'.world.drawn:=by
 simp only [step,stepT] at h
 split at h
 ·rename_i m₁ i hm
  exact Nat.le_trans ((HY P m).1 _ _ hm) (QW P m₁ m' i true h)
 ·rename_i s ops hm
  simp only [] at h
  subst h
  exact (HY P m).2 _ _ hm
theorem Ch {P:Program} {m m':Machine} (h:Steps P m m'):m.world.drawn≤m'.world.drawn:=by
 obtain ⟨n,h⟩:=h
 induction n generalizing m with
 | zero =>
  simp only [runN,Stepped.next.injEq] at h
  rw [h]
  exact Nat.le_refl _
 | succ n ih =>
  simp only [runN] at h
  cases hs:step P m with
  | next m₁ =>
   rw [hs] at h
   exact Nat.le_trans (QX P m m₁ hs) (ih h)
  | ended o w =>
   rw [hs] at h
   simp at h
theorem Ci {P:Program} {f:FuncId} {args:Array Value} {w:World} {R:Ending→World→Prop} (h:Calls P f args w R):Calls P f args w fun e w'=>R e w'∧(e≠.outgrown→w.drawn≤w'.drawn):=fun cs=>by
 obtain ⟨e,w',fr,hR,hC,hf,hl⟩:=h cs
 refine ⟨e,w',fr,⟨hR,fun hne=>?_⟩,hC,hf,hl⟩
 cases e with
 | outgrown=>exact absurd rfl hne
 | returned v=>exact Ch (m:=lone (Frame.enter P f args .normal) cs w) (m':=lone fr cs w') hC
 | panicked c=>exact Ch (m:=lone (Frame.enter P f args .normal) cs w) (m':=lone fr cs w') hC
#print axioms Ci
end
section
open Go Go.Shelf Go.RowKit Go.Lib Go.Sort
theorem xA {w w':World} (h:Go.RowKit.Below w.heap.size w w') (hd:w.drawn≤w'.drawn):∃ q os,w'=grow (w.drewN q) os:=by
 refine ⟨w'.drawn-w.drawn,w'.heap.extract w.heap.size w'.heap.size,?_⟩
 have e1:w.heap++w'.heap.extract w.heap.size w'.heap.size=w'.heap:=by
  refine Array.ext_getElem? fun k=>?_
  rw [Array.getElem?_append]
  split
  ·rename_i hk
   exact (h.block k hk).symm
  ·rename_i hk
   rw [Array.getElem?_extract]
   have:=h.size
   split
   ·congr 1
    omega
   ·rw [Array.getElem?_eq_none (by omega)]
 have e2:w.drawn+(w'.drawn-w.drawn)=w'.drawn:=by omega
 obtain ⟨hp,tp,dr,os,out⟩:=w'
 obtain ⟨h1,h2,h3,_,_⟩:=h
 simp only at h1 h2 h3 e1 e2
 show _=({ heap:=w.heap++_,tape:=w.tape,drawn:=w.drawn+_,os:=w.os,output:=w.output }:World)
 rw [e1,e2,h1,h2,h3]
theorem DO {α:Type} [Inhabited α] {enc:α→List Value} {k:Nat} (hk:∀ x,(enc x).length=k) (D:List α):flatK enc k D.toArray=(D.flatMap enc).toArray:=by
 refine ext_get! (by rw [size_flatK];simp [ef hk D]) fun t ht=>?_
 have ht':t<D.toArray.size*k:=by simpa using ht
 have k0:0<k:=by
  rcases Nat.eq_zero_or_pos k with h|h
  ·subst h;simp at ht'
  ·exact h
 rw [get_flatK _ _ _ t ht']
 have hi:t / k<D.length:=Nat.div_lt_of_lt_mul (by rw [Nat.mul_comm];simpa using ht')
 have h1:=qC hk D (t / k) (t % k) D[t / k] (by rw [List.getElem?_eq_getElem hi]) (Nat.mod_lt _ k0)
 rw [Nat.mul_comm,Nat.div_add_mod] at h1
 have e1:(D.flatMap enc).toArray[t]! = ((D.flatMap enc)[t]?).getD default:=by
  simp [Array.getElem!_eq_getD,Array.getD_eq_getD_getElem?]
 have e2:D.toArray[t / k]! = D[t / k]:=by simp [hi]
 rw [e1,h1,e2,List.getElem!_eq_getElem?_getD]
theorem Lh {α:Type} [Inhabited α] {enc:α→List Value} {k g e:Nat} {cur:Array Value} {D:List α} {w:World} (hk:∀ x,(enc x).length=k) (hh:w.heap[g]?=some (.cells cur e (0,0))) (ht:cur.toList.take (D.length*k)=D.flatMap enc):HoldsK enc k w g 0 D.toArray:=by
 intro j hj
 rw [DO hk] at hj ⊢
 have hj':j<(D.flatMap enc).length:=by simpa using hj
 have e1:(D.flatMap enc).toArray[j]! = (D.flatMap enc)[j]:=by rw [getElem!_pos _ j hj];simp
 refine ⟨?_,by simp [World.frozen?,hh]⟩
 rw [e1]
 have h2:(D.flatMap enc)[j]?=cur[j]?:=by
  rw [← ht,List.getElem?_take]
  rw [if_pos (by rw [ef hk] at hj';exact hj')]
  simp
 simp only [World.cell?,hh,Nat.zero_add,id_eq]
 rw [← h2,List.getElem?_eq_getElem hj']
 simp
theorem lV {α:Type} [Inhabited α] (enc:α→List Value) (k:Nat) (w:World) (g off n:Nat) (d:Array α) (os:Array Obj):w.grownBy (sortWorldK enc k w g off n d os) (some g):=by
 refine ⟨rfl,rfl,rfl,?_,fun i hi hne=>?_⟩
 ·show _≤(w.heap.modify g _++os).size
  simp
 ·show (w.heap.modify g _++os)[i]?=_
  rw [Array.getElem?_append,if_pos (by simpa using hi),Array.getElem?_modify,if_neg (fun e=>hne (by rw [e]))]
theorem vT {α:Type} [Inhabited α] {enc:α→List Value} {k:Nat} (hk:∀ x,(enc x).length=k) {w:World} {g cap m e:Nat} {D D':List α} {os:Array Obj} {cur:Array Value} (hh:w.heap[g]?=some (.cells cur e (0,0))) (hn:D.length≤cap) (hc:cap≤maxLen) (hs:cur.size=cap*k) (hl:D'.length=D.length):(sortWorldK enc k w g 0 m D'.toArray os).ownsRow 0 e k (.slice (some ⟨g,0,none⟩) D'.length cap) D'.length (D'.flatMap enc):=by
 have hg:=(Array.getElem?_eq_some_iff.1 hh).1
 refine ⟨ef hk D',.inr ⟨g,cap,putCells id 0 (flatK enc k D'.toArray) cur,rfl,Nat.zero_le _,?_,by omega,hc,?_,?_⟩⟩
 ·show (w.heap.modify g (onCells (putCells id 0 (flatK enc k D'.toArray)))++os)[g]?=_
  rw [Array.getElem?_append,if_pos (by simpa using hg),Array.getElem?_modify,if_pos rfl,hh]
  rfl
 ·simp [putCells,hs]
 ·have hle:D'.length*k≤cap*k:=Nat.mul_le_mul_right _ xj
  refine List.ext_getElem? fun j=>?_
  rw [List.getElem?_take]
  split
  ·rename_i hj
   rw [DO hk]
   have hj':j<(D'.flatMap enc).length:=by rw [ef hk];exact hj
   have hj2:j<cur.size:=by omega
   simp only [putCells,Array.toList_mapIdx,List.getElem?_mapIdx,Nat.zero_le,true_and,Nat.zero_add,List.size_toArray,Nat.sub_zero,id_eq]
   rw [List.getElem?_eq_getElem hj',List.getElem?_eq_getElem (by simpa using hj2),Option.map_some,if_pos hj',getElem!_pos _ j (by simpa using hj')]
   simp
  ·rename_i hj
   rw [List.getElem?_eq_none (by rw [ef hk];omega)]
theorem GU {α:Type} [Inhabited α] {P:Program} {g0:Nat} {cb:Array Value} {enc:α→List Value} {k:Nat} {cf:α→α→Int} {g off n:Nat} {w:World} (h:∀ w',w.grownBy w' (some g)→∀ x y,Calls P g0 (#[.agg (enc x).toArray,.agg (enc y).toArray]++cb) w' fun r w''=>r=.returned (.int .i64 (cf x y))∧Go.RowKit.Below w'.heap.size w' w''):CmpLays P g0 cb enc k cf g off n w:=fun m os dk _ x y =>
 (Ci (h _ (lV enc k w g off m dk os) x y)).mono fun e w' hh=>by
  obtain ⟨⟨rfl,h2⟩,h3⟩:=hh
  exact ⟨rfl,xA h2 (h3 (by simp))⟩
def TT {α:Type} (cf:α→α→Int) (D D':List α):Prop:=D'.Perm D∧D'.Pairwise fun x y=>¬ cf y x<0
section
variable {P:Program} {ρ:Ren} {α:Type} [Inhabited α]
theorem OE (L:SlLaysF0.n6 P ρ) (k:Nat) (aE:∀ w,(isAgg (ρ.t 24)).run P w=.ok true w) (zE:∀ w,(Go.sizeOf (ρ.t 24)).run P w=.ok k w) (enc:α→List Value) (hk:∀ x,(enc x).length=k) (h1:∀ x,∀ v∈enc x,v.oneCell'=true) (cf:α→α→Int) (hO:SWO (ltOf cf)) (g:Nat) (cb:Array Value) (eg:∀ args w,(callFunc g args).run P w=.ok (.enter g args) w)
  {w:World} {A:Option Addr} {c e:Nat} (D:List α) (hr:w.ownsRow 0 e k (.slice A D.length c) D.length (D.flatMap enc)) (hn:D.length<4611686018427387904)
  (hcmp:∀ w',w.grownBy w' (Value.slice A D.length c).ownBlock→∀ x y,Calls P g (#[.agg (enc x).toArray,.agg (enc y).toArray]++cb) w' fun r w''=>r=.returned (.int .i64 (cf x y))∧Go.RowKit.Below w'.heap.size w' w'') :
  Calls P (ρ.f 6) #[.slice A D.length c,.func (.func g) #[] cb] w fun r w'=>r=.returned (.tuple #[])∧∃ D',TT cf D D'∧w.grownBy w' (Value.slice A D.length c).ownBlock∧w'.ownsRow 0 e k (.slice A D'.length c) D'.length (D'.flatMap enc):=by
 rcases hr.2 with ⟨hv,h0⟩|⟨g1,cap,cur,hv,_,hh,hcap,hmax,hsz,ht⟩
 ·obtain rfl:D=[]:=List.eq_nil_of_length_eq_zero h0
  refine (AnyF.slices_SortFunc_none L A c _ w).mono fun r w' hx=>?_
  obtain ⟨rfl,rfl⟩:=hx
  exact ⟨rfl,[],⟨.refl _,.nil⟩,⟨rfl,rfl,rfl,Nat.le_refl _,fun _ _ _=>rfl⟩,hr⟩
 ·obtain ⟨rfl,rfl⟩:A=some ⟨g1,0,none⟩∧c=cap:=by
   injection hv with a b c'
   exact ⟨a,c'⟩
  have hH:=Lh (e:=e) hk hh ht
  have hg:=(Array.getElem?_eq_some_iff.1 hh).1
  have h:=AnyQ.slices_SortFunc L k aE zE enc hk h1 cf hO g cb g1 0 c D.toArray w eg (GU fun w' hw x y=>hcmp w' hw x y) hH hg (by simpa using hn)
  simp only [List.size_toArray] at h
  refine h.mono fun r w' hx=>?_
  obtain ⟨rfl,d',n,os,hp,hs,rfl⟩:=hx
  have hl:d'.toList.length=D.length:=by simpa using hp.1
  refine ⟨rfl,d'.toList,⟨?_,?_⟩,?_,?_⟩
  ·have:=hp.2.2
   rw [show d'.extract 0 D.length=d' from by have:=hp.1;simp only [List.size_toArray] at this;rw [← this];simp] at this
   simpa using this
  ·refine List.pairwise_iff_getElem.2 fun i j hi hj hij=>?_
   have h3:=hs i j (Nat.zero_le _) hij (by rw [← hl];exact hj)
   unfold ltOf at h3
   have e1:d'[i]! = d'.toList[i]:=by simp [show i<d'.size from by simpa using hi]
   have e2:d'[j]! = d'.toList[j]:=by simp [show j<d'.size from by simpa using hj]
   rw [e1,e2] at h3
   exact of_decide_eq_false h3
  ·exact lV _ _ _ _ _ _ _ _
  ·exact vT hk (w:=w) (D:=D) (D':=d'.toList) hh hcap hmax hsz hl
end
section
theorem OG {F:List Nat} {W w w':World} {r:bX} {l:List bX} (h:Own F W w (r::l)) (hg:w.grownBy w' r.key):Own F W w' l:=by
 refine ⟨hg.os.trans h.os,hg.tape.trans h.tape,hg.output.trans h.output,Nat.le_trans h.size hg.size,h.ir hg (fun k e=>h.own r (.head _) k e),fun x hx=>?_,fun x hx=>h.own x (.tail _ hx),h.tl.nodup⟩
 refine (h.ok x (.tail _ hx)).kC hg fun k e e2=>?_
 have hn:=h.nodup
 rw [List.filterMap_cons,e2] at hn
 exact (List.nodup_cons.1 hn).1 (List.mem_filterMap.2 ⟨x,hx,e⟩)
variable {P:Program} {ρ:Ren} {T:Type}
theorem lW (p:T→Prop) (L:SlLaysF0.n6 P ρ) (k:Nat) (aE:∀ w,(isAgg (ρ.t 24)).run P w=.ok true w) (zE:∀ w,(Go.sizeOf (ρ.t 24)).run P w=.ok k w) (enc:T→List Value) (hk:∀ x,(enc x).length=k) (h1:∀ x,∀ v∈enc x,v.oneCell'=true) (cf:T→T→Int)
  (irr:∀ x,p x→¬ cf x x<0) (tr:∀ x y z,p x→p y→p z→cf x y<0→cf y z<0→cf x z<0) (ntr:∀ x y z,p x→p y→p z→¬ cf x y<0→¬ cf y z<0→¬ cf x z<0)
  (g:Nat) (cb:Array Value) (eg:∀ args w,(callFunc g args).run P w=.ok (.enter g args) w)
  {F:List Nat} {W w:World} {l:List bX} {A:Option Addr} {c e:Nat} (D:List T) (hp:∀ x∈D,p x) (hM:Own F W w (.row A D.length c e k (D.flatMap enc)::l)) (hn:D.length<4611686018427387904)
  (hcmp:∀ w',Own F W w' l→∀ x y,p x→p y→Calls P g (#[.agg (enc x).toArray,.agg (enc y).toArray]++cb) w' fun r w''=>r=.returned (.int .i64 (cf x y))∧Go.RowKit.Below w'.heap.size w' w'') :
  Calls P (ρ.f 6) #[.slice A D.length c,.func (.func g) #[] cb] w fun r w'=>r=.returned (.tuple #[])∧∃ D':List T,D'.Perm D∧(D'.Pairwise fun x y=>¬ cf y x<0)∧Own F W w' (.row A D'.length c e k (D'.flatMap enc)::l):=by
 by_cases hD:D=[]
 ·subst hD
  refine (AnyF.slices_SortFunc_none L A c _ w).mono fun r w' hx=>?_
  obtain ⟨rfl,rfl⟩:=hx
  exact ⟨rfl,[],.refl _,.nil,hM⟩
 ·obtain ⟨x0,hx0⟩:∃ x,x∈D:=by
   cases D with
   | nil=>exact absurd rfl hD
   | cons x _=>exact ⟨x,by simp⟩
  have:Inhabited {x:T // p x}:=⟨⟨x0,hp x0 hx0⟩⟩
  obtain ⟨D1,hD1⟩:∃ D1:List {x:T // p x},D1.map (·.1)=D:=⟨D.attach.map fun x=>⟨x.1,hp x.1 x.2⟩,by rw [List.map_map];exact (List.attach_map_val (l:=D) (f:=id)).trans (List.map_id _)⟩
  have fl:∀ M:List {x:T // p x},M.flatMap (fun x=>enc x.1)=(M.map (·.1)).flatMap enc:=fun M=>by rw [List.flatMap_map]
  have hr:w.ownsRow 0 e k (.slice A D1.length c) D1.length (D1.flatMap fun x=>enc x.1):=by
   have:=hM.ok _ (.head _)
   rw [fl,hD1,show D1.length=D.length by rw [← hD1,List.length_map]]
   exact this
  have hkey:(Value.slice A D1.length c).ownBlock=iG A:=cX A _ c
  have h:=OE L k aE zE (fun x:{x:T // p x}=>enc x.1) (fun x=>hk x.1) (fun x=>h1 x.1) (fun x y=>cf x.1 y.1)
   ⟨fun x=>decide_eq_false (irr x.1 x.2),fun x y z h1 h2=>decide_eq_true (tr x.1 y.1 z.1 x.2 y.2 z.2 (of_decide_eq_true h1) (of_decide_eq_true h2)),fun x y z h1 h2=>decide_eq_false (ntr x.1 y.1 z.1 x.2 y.2 z.2 (of_decide_eq_false h1) (of_decide_eq_false h2))⟩
   g cb eg (c:=c) (e:=e) D1 hr (by rw [← hD1,List.length_map] at hn;exact hn) (fun w' hw x y=>hcmp w' (OG hM (by rw [hkey] at hw;exact hw)) x.1 y.1 x.2 y.2)
  rw [show D1.length=D.length by rw [← hD1,List.length_map]] at h
  refine h.mono fun r w' hx=>?_
  obtain ⟨rfl,D',⟨h2,h3⟩,h4,h5⟩:=hx
  refine ⟨rfl,D'.map (·.1),by rw [← hD1];exact h2.map _,List.pairwise_map.2 h3,?_⟩
  rw [fl] at h5
  refine hM.cw .head (by rw [cX] at h4;exact h4) ?_ (.inl rfl)
  rw [List.length_map]
  exact h5
end
end
end Go.Proofs.YtlmabdegojeheaaGreatDoor
