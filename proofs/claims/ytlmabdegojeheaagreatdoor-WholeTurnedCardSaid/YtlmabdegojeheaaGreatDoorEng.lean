/- WholeTurned: parts of its proof (Eng). -/
import Derived.Test.YtlmabdegojeheaaGreatDoorAa
import Derived.WalkKit
import Derived.WalkLawsBesides
import Derived.WalkSpells
import Derived.StillTail
import Derived.OrdersHeld
import Derived.Laws.MakeOwn
import Derived.Laws.OwnMore
namespace Go.Proofs.YtlmabdegojeheaaGreatDoor
open R
namespace R
open Go.RowKit
abbrev Fr:=Nat→Value
def cw (f:Fr) (d:Nat) (v:Value):Fr:=fun t=>bif Nat.beq t d then v else f t
def cH (f:Fr):Option Nat→Value→Fr
 | some d,v=>cw f d v
 | none,_=>f
def ev (f:Fr):Operand→Value
 | .tmp t=>f t
 | .const v=>v
 | .global g=>.pointer (some ⟨g,0,none⟩)
 | .func g=>.func (.func g) #[] #[]
def inits:List Value→Fr
 | [],_=>undef
 | v::_,0=>v
 | _::l,t+1=>inits l t
def over:List (Nat×Value)→Fr→Fr
 | [],f=>f
 | (d,v)::l,f=>fun t=>bif Nat.beq t d then v else over l f t
def rJ (f:Fr):List (Nat×Value)→Prop
 | []=>True
 | (d,v)::l=>f d=v∧rJ f l
theorem iQ {f:Fr}:∀ {l:List (Nat×Value)},rJ f l→over l f=f
 | [],_=>rfl
 | (d,v)::l,h=>by
  funext t
  simp only [over,iQ h.2]
  cases hb:Nat.beq t d with
  | false=>rfl
  | true =>
   have:=Nat.eq_of_beq_eq_true hb
   subst this
   exact h.1.symm
structure Is (n:Nat) (a:Act) (f:Fr):Prop where
 size:a.tmps.size=n
 get:∀ t,a.tmps.getD t undef=f t
 Iy:a.defers=[]
theorem Is.eval {n:Nat} {a:Act} {f:Fr} (h:Is n a f):a.eval=ev f:=by
 funext x
 cases x with
 | tmp t=>exact h.get t
 | const v=>rfl
 | global g=>rfl
 | func g=>rfl
def fx (n:Nat):Option Nat→Bool
 | some d=>Nat.blt d n
 | none=>true
theorem Is.put {n:Nat} {a:Act} {f:Fr} (h:Is n a f) (d:Option Nat) (v:Value) (hd:fx n d=true):Is n (a.put d v) (cH f d v):=by
 cases d with
 | none=>exact h
 | some d =>
  have hlt:d<n:=by simpa [fx,Nat.blt_eq] using hd
  refine ⟨by simp [Act.put,h.size],fun t=>?_,h.Iy⟩
  simp only [Act.put,cH,cw]
  cases hb:Nat.beq t d with
  | true =>
   have:=Nat.eq_of_beq_eq_true hb
   subst this
   simp [h.size,hlt]
  | false =>
   have hne:d≠t:=fun e=>by
    subst e
    have:=Nat.ne_of_beq_eq_false hb
    exact this rfl
   have:=h.get t
   simp only [cond_false]
   rw [← this]
   simp [hne]
def RQ (n:Nat) (Q:Exit→Fr→World→Prop):Exit→Act→World→Prop:=fun e a w=>∃ f,Is n a f∧Q e f w
def WC (P:Program) (n:Nat) (Q:Exit→Fr→World→Prop) (c:Code) (f:Fr) (w:World):Prop:=∀ a,Is n a f→c.wp P (RQ n Q) a w
def WL (P:Program) (ops:Array Oper) (n:Nat) (Q:Exit→Fr→World→Prop) (rest:List Oper) (f:Fr) (w:World):Prop:=∀ a,Is n a f→wpList P ops (RQ n Q) rest a w
abbrev bO:=FuncId→Array Value→World→(Value→World→Prop)→Prop
def WU (C:bO) (K:Value→World→Prop):Result Next→Prop
 | .ok (.value v) w'=>K v w'
 | .ok .skip w'=>K undef w'
 | .ok (.enter g args) w'=>C g args w' K
 | _=>False
def WO (P:Program) (C:bO) (o:Oper) (f:Fr) (w:World) (K:Value→World→Prop):Prop:=WU C K ((execOp (ev f) o).run P w)
abbrev bn (P:Program):bO:=fun g args w' K=>Calls P g args w' fun e w''=>∃ v,e=.returned v∧K v w''
abbrev CU (P:Program) (w:World):bO:=fun g args w' K=>w'=w∧∃ v,Calls P g args w (fun e w''=>e=.returned v∧w''=w)∧K v w
section
variable {P:Program} {n:Nat} {Q:Exit→Fr→World→Prop} {f:Fr} {w:World} {ops:Array Oper} {o:Oper} {rest:List Oper}
theorem gF {a:Act} {K:Value→World→Prop} {K':Act→World→Prop} {Q':Exit→Act→World→Prop} (ha:Is n a f) (h:WO P (bn P) o f w K) (hK:∀ v w',K v w'→K' (a.put o.dst v) w'):o.wp P a w K' Q':=by
 unfold WO at h
 unfold Oper.wp
 rw [ha.eval]
 generalize (execOp (ev f) o).run P w=r at *
 cases r with
 | halt x w'=>exact h.elim
 | ok x w' =>
  cases x <;> simp only [WU] at h
  case value v=>exact hK _ _ h
  case skip=>exact hK _ _ h
  case enter g args =>
   refine Calls.mono h fun e w'' he=>?_
   obtain ⟨v,rfl,hk⟩:=he
   exact hK _ _ hk
theorem cm (h:Q .normal f w):WL P ops n Q [] f w:=fun _ ha=>⟨f,ha,h⟩
theorem bf (hg:o.guard=none) (hd:fx n o.dst=true) (h:WO P (bn P) o f w fun v w'=>WL P ops n Q rest (cH f o.dst v) w'):WL P ops n Q (o::rest) f w:=fun _ ha =>
 wpList_plain hg fun _ hK=>gF ha h fun v _ hk=>hK _ _ (hk _ (ha.put o.dst v hd))
theorem rK {d:Nat} (hg:o.guard=none) (h0:o.dst=some d) (hd:Nat.blt d n=true) (h:WO P (bn P) o f w fun v w'=>WL P ops n Q rest (cw f d v) w'):WL P ops n Q (o::rest) f w :=
 bf hg (by rw [h0];exact hd) (by rw [h0];exact h)
theorem rL (hg:o.guard=none) (h0:o.dst=none) (h:WO P (bn P) o f w fun _ w'=>WL P ops n Q rest f w'):WL P ops n Q (o::rest) f w :=
 bf hg (by rw [h0];rfl) (by rw [h0];exact h)
theorem cL {a:Act} {j d:Nat} {b c:Bool} (ha:Is n a f) (hg:o.guard=some (j,b)) (hj:(ops[j]?).bind (·.dst)=some d) (hv:f d=.bool c):Region.wanted o (yielded ops a.tmps)=(c == b):=by
 have h1:=ha.get d
 rw [hv] at h1
 have h2:a.tmps[d]?=some (.bool c):=by
  cases hx:a.tmps[d]? with
  | none=>simp [hx,undef] at h1
  | some u=>simp [hx] at h1;rw [h1]
 simp only [Region.wanted,hg,yielded,hj,Option.bind_some,h2]
 cases c <;> cases b <;> rfl
theorem iD {j d:Nat} {b:Bool} (hg:o.guard=some (j,b)) (hj:(ops[j]?).bind (·.dst)=some d) (hv:f d=.bool b) (hd:fx n o.dst=true)
  (h:WO P (bn P) o f w fun v w'=>WL P ops n Q rest (cH f o.dst v) w'):WL P ops n Q (o::rest) f w:=fun a ha =>
 wpList_step fun K hK=>by
  rw [cL ha hg hj hv]
  simp only [BEq.rfl,if_true]
  exact gF ha h fun v _ hk=>hK _ _ (hk _ (ha.put o.dst v hd))
theorem Il {j d:Nat} {b c:Bool} (hg:o.guard=some (j,b)) (hj:(ops[j]?).bind (·.dst)=some d) (hv:f d=.bool c) (hc:(c == b)=false) (hd:fx n o.dst=true)
  (h:WL P ops n Q rest (cH f o.dst undef) w):WL P ops n Q (o::rest) f w:=fun a ha =>
 wpList_step fun K hK=>by
  rw [cL ha hg hj hv,hc]
  simp only [Bool.false_eq_true,if_false]
  exact hK _ _ (h _ (ha.put o.dst undef hd))
theorem uT {j d e:Nat} {b:Bool} (hg:o.guard=some (j,b)) (hj:(ops[j]?).bind (·.dst)=some d) (hv:f d=.bool b) (h0:o.dst=some e) (hd:Nat.blt e n=true)
  (h:WO P (bn P) o f w fun v w'=>WL P ops n Q rest (cw f e v) w'):WL P ops n Q (o::rest) f w :=
 iD hg hj hv (by rw [h0];exact hd) (by rw [h0];exact h)
theorem uU {j d e:Nat} {b c:Bool} (hg:o.guard=some (j,b)) (hj:(ops[j]?).bind (·.dst)=some d) (hv:f d=.bool c) (hc:(c == b)=false) (h0:o.dst=some e) (hd:Nat.blt e n=true)
  (h:WL P ops n Q rest (cw f e undef) w):WL P ops n Q (o::rest) f w :=
 Il hg hj hv hc (by rw [h0];exact hd) (by rw [h0];exact h)
theorem iR {d:Nat} {v:Value} (h:f d=v):cw f d v=f:=by
 funext t
 simp only [cw]
 cases hb:Nat.beq t d with
 | false=>rfl
 | true =>
  have:=Nat.eq_of_beq_eq_true hb
  subst this
  exact h.symm
theorem CV {j d:Nat} {b c:Bool} (_hg:o.guard=some (j,b)) (_hj:(ops[j]?).bind (·.dst)=some d) (hv:f d=.bool c)
  (h1:c=true→WL P ops n Q (o::rest) (cw f d (.bool true)) w) (h2:c=false→WL P ops n Q (o::rest) (cw f d (.bool false)) w):WL P ops n Q (o::rest) f w:=by
 cases hc:c with
 | true=>subst hc;have:=h1 rfl;rwa [iR hv] at this
 | false=>subst hc;have:=h2 rfl;rwa [iR hv] at this
theorem mz {j d:Nat} {b:Bool} {p:Prop} [Decidable p] (hg:o.guard=some (j,b)) (hj:(ops[j]?).bind (·.dst)=some d) (hv:f d=.bool (decide p))
  (h1:p→WL P ops n Q (o::rest) (cw f d (.bool true)) w) (h2:¬p→WL P ops n Q (o::rest) (cw f d (.bool false)) w):WL P ops n Q (o::rest) f w :=
 CV hg hj hv (fun h=>h1 (of_decide_eq_true h)) (fun h=>h2 (of_decide_eq_false h))
theorem nv {j d:Nat} {b:Bool} {p:Prop} [Decidable p] (hg:o.guard=some (j,b)) (hj:(ops[j]?).bind (·.dst)=some d) (hv:f d=.bool (decide p)) (hp:p)
  (h1:WL P ops n Q (o::rest) (cw f d (.bool true)) w):WL P ops n Q (o::rest) f w:=mz hg hj hv (fun _=>h1) (fun h=>absurd hp h)
theorem nw {j d:Nat} {b:Bool} {p:Prop} [Decidable p] (hg:o.guard=some (j,b)) (hj:(ops[j]?).bind (·.dst)=some d) (hv:f d=.bool (decide p)) (hp:¬p)
  (h1:WL P ops n Q (o::rest) (cw f d (.bool false)) w):WL P ops n Q (o::rest) f w:=mz hg hj hv (fun h=>absurd h hp) (fun _=>h1)
def pY (K:Fr→World→Prop) (Q:Exit→Fr→World→Prop):Exit→Fr→World→Prop
 | .normal,f,w=>K f w
 | e,f,w=>Q e f w
def jT (id:Nat) (Q:Exit→Fr→World→Prop):Exit→Fr→World→Prop
 | .exit id',f,w=>bif Nat.beq id' id then Q .normal f w else Q (.exit id') f w
 | e,f,w=>Q e f w
section
variable {K:Fr→World→Prop} {id id':Nat}
theorem aI (h:K f w):pY K Q .normal f w:=h
theorem jU (h:Q .ret f w):pY K Q .ret f w:=h
theorem fC (h:Q (.exit id) f w):pY K Q (.exit id) f w:=h
theorem iE (h:Q .normal f w):jT id Q .normal f w:=h
theorem fN (h:Q .ret f w):jT id Q .ret f w:=h
theorem gG (hb:Nat.beq id' id=true) (h:Q .normal f w):jT id Q (.exit id') f w:=by simp only [jT,hb];exact h
theorem nY (hb:Nat.beq id' id=false) (h:Q (.exit id') f w):jT id Q (.exit id') f w:=by simp only [jT,hb];exact h
end
theorem aU {x y:Code} (h:WC P n (pY (WC P n Q y) Q) x f w):WC P n Q (.seq x y) f w:=fun a ha=>by
 refine wp_seq (wp_mono (h a ha) fun e a' w' he=>?_)
 obtain ⟨f',ha',hq⟩:=he
 cases e with
 | normal=>exact hq a' ha'
 | exit id=>exact ⟨f',ha',hq⟩
 | goto l=>exact ⟨f',ha',hq⟩
 | ret=>exact ⟨f',ha',hq⟩
 | panic ch=>exact ⟨f',ha',hq⟩
 | outgrown=>exact ⟨f',ha',hq⟩
theorem a7 {id:Nat} {l:List Oper} (h:WL P l.toArray n Q l f w):WC P n Q (.region id l.toArray false) f w:=fun a ha=>wp_region_lit (h a ha)
theorem kN {c:Operand} {x y:Code} {t:Bool} (hc:ev f c=.bool t) (h1:t=true→WC P n Q x f w) (h2:t=false→WC P n Q y f w):WC P n Q (.cond c x y) f w:=fun a ha =>
 wp_cond_split (t:=t) (by rw [ha.eval];exact hc) (fun h=>h1 h a ha) (fun h=>h2 h a ha)
theorem dN {c:Operand} {x y:Code} (hc:ev f c=.bool true) (h1:WC P n Q x f w):WC P n Q (.cond c x y) f w:=kN hc (fun _=>h1) (fun h=>by cases h)
theorem cM {c:Operand} {x y:Code} (hc:ev f c=.bool false) (h2:WC P n Q y f w):WC P n Q (.cond c x y) f w:=kN hc (fun h=>by cases h) (fun _=>h2)
theorem dq {c:Operand} {x y:Code} {p:Prop} [Decidable p] (hc:ev f c=.bool (decide p)) (h1:p→WC P n Q x f w) (h2:¬p→WC P n Q y f w):WC P n Q (.cond c x y) f w :=
 kN hc (fun h=>h1 (of_decide_eq_true h)) (fun h=>h2 (of_decide_eq_false h))
theorem im {c:Operand} {x y:Code} {p:Prop} [Decidable p] (hc:ev f c=.bool (decide p)) (hp:p) (h1:WC P n Q x f w):WC P n Q (.cond c x y) f w:=dq hc (fun _=>h1) (fun h=>absurd hp h)
theorem iq {c:Operand} {x y:Code} {p:Prop} [Decidable p] (hc:ev f c=.bool (decide p)) (hp:¬p) (h1:WC P n Q y f w):WC P n Q (.cond c x y) f w:=dq hc (fun h=>absurd h hp) (fun _=>h1)
theorem cU {id:Nat} {c:Code} (h:WC P n (jT id Q) c f w):WC P n Q (.block id c) f w:=fun a ha=>by
 refine wp_block (wp_mono (h a ha) fun e a' w' he=>?_)
 obtain ⟨f',ha',hq⟩:=he
 cases e with
 | exit id' =>
  simp only [Exit.inBlock]
  simp only [jT] at hq
  cases hb:Nat.beq id' id with
  | true =>
   rw [hb] at hq
   rw [if_pos (Nat.eq_of_beq_eq_true hb)]
   exact ⟨f',ha',hq⟩
  | false =>
   rw [hb] at hq
   rw [if_neg (Nat.ne_of_beq_eq_false hb)]
   exact ⟨f',ha',hq⟩
 | normal=>exact ⟨f',ha',hq⟩
 | goto l=>exact ⟨f',ha',hq⟩
 | ret=>exact ⟨f',ha',hq⟩
 | panic ch=>exact ⟨f',ha',hq⟩
 | outgrown=>exact ⟨f',ha',hq⟩
theorem d5 (h:Q .normal f w):WC P n Q .skip f w:=fun _ ha=>wp_skip ⟨f,ha,h⟩
theorem gH {id:Nat} (h:Q (.exit id) f w):WC P n Q (.exit id) f w:=fun _ ha=>wp_exit ⟨f,ha,h⟩
theorem jV (h:Q .ret f w):WC P n Q .ret f w:=fun _ ha=>wp_ret ⟨f,ha,h⟩
theorem au {c:Code} {ι:Type} (L:ι→List (Nat×Value)) (J:ι→World→Prop) (μ:ι→Nat) (h0:∃ i,rJ f (L i)∧J i w)
  (h:∀ i f w,J i w→WC P n (pY (fun f' w'=>∃ i',rJ f' (L i')∧J i' w'∧μ i'<μ i) Q) c (over (L i) f) w):WC P n Q (.loop c) f w:=by
 have key:∀ m i f w a,μ i<m→J i w→Is n a (over (L i) f)→Code.rounds P c (RQ n Q) m a w:=by
  intro m
  induction m with
  | zero=>intro i f w a hm;omega
  | succ m ih =>
   intro i f w a hm hJ ha
   rw [rounds_succ]
   refine wp_mono (h i f w hJ a ha) fun e a' w' he=>?_
   obtain ⟨f',ha',hq⟩:=he
   cases e with
   | normal =>
    obtain ⟨i',hag,hJ',hlt⟩:=hq
    refine ih i' f' w' a' xj hJ' ?_
    rwa [iQ hag]
   | exit id=>exact ⟨f',ha',hq⟩
   | goto l=>exact ⟨f',ha',hq⟩
   | ret=>exact ⟨f',ha',hq⟩
   | panic ch=>exact ⟨f',ha',hq⟩
   | outgrown=>exact ⟨f',ha',hq⟩
 obtain ⟨i,hag,hJ⟩:=h0
 intro a ha
 refine wp_loop_rounds (μ i+1) (key (μ i+1) i f w a xj hJ ?_)
 rwa [iQ hag]
theorem XA {x y:Code} {ι:Type} (L:ι→List (Nat×Value)) (J:ι→World→Prop)
  (h1:WC P n (pY (fun f' w'=>∃ i,rJ f' (L i)∧J i w') Q) x f w) (h2:∀ i f w,J i w→WC P n Q y (over (L i) f) w):WC P n Q (.seq x y) f w:=fun a ha=>by
 refine wp_seq (wp_mono (h1 a ha) fun e a' w' he=>?_)
 obtain ⟨f',ha',hq⟩:=he
 cases e with
 | normal =>
  obtain ⟨i,hag,hJ⟩:=hq
  have:=h2 i f' w' hJ
  rw [iQ hag] at this
  exact this a' ha'
 | exit id=>exact ⟨f',ha',hq⟩
 | goto l=>exact ⟨f',ha',hq⟩
 | ret=>exact ⟨f',ha',hq⟩
 | panic ch=>exact ⟨f',ha',hq⟩
 | outgrown=>exact ⟨f',ha',hq⟩
def WS (P:Program) (ops:Array Oper) (n:Nat) (w:World) (K:Fr→Prop) (rest:List Oper) (f:Fr):Prop:=∀ a,Is n a f→wpStill P ops w (fun a'=>∃ f',Is n a' f'∧K f') rest a
theorem sT {a:Act} {K:Value→World→Prop} {K':Act→Prop} (ha:Is n a f) (h:WO P (CU P w) o f w K) (hK:∀ v w',K v w'→w'=w∧K' (a.put o.dst v)):o.still P a w K':=by
 unfold WO at h
 unfold Oper.still
 rw [ha.eval]
 generalize (execOp (ev f) o).run P w=r at *
 cases r with
 | halt x w'=>exact h.elim
 | ok x w' =>
  cases x <;> simp only [WU] at h
  case value v =>
   obtain ⟨h1,h2⟩:=hK _ _ h
   exact ⟨h1,h2⟩
  case skip =>
   obtain ⟨h1,h2⟩:=hK _ _ h
   exact ⟨h1,h2⟩
  case enter g args =>
   obtain ⟨h1,v,h2,h3⟩:=h
   exact ⟨h1,v,h2,(hK _ _ h3).2⟩
theorem FP {K:Fr→Prop} (h:K f):WS P ops n w K [] f:=fun _ ha=>⟨f,ha,h⟩
theorem Z9 {K:Fr→Prop} (hg:o.guard=none) (hd:fx n o.dst=true) (h:WO P (CU P w) o f w fun v w'=>w'=w∧WS P ops n w K rest (cH f o.dst v)):WS P ops n w K (o::rest) f:=fun _ ha=>by
 refine wpStill_step fun K' hK=>?_
 simp only [Region.wanted,hg,if_true]
 exact sT ha h fun v _ hk=>⟨hk.1,hK _ (hk.2 _ (ha.put o.dst v hd))⟩
theorem SG {K:Fr→Prop} {j d:Nat} {b:Bool} (hg:o.guard=some (j,b)) (hj:(ops[j]?).bind (·.dst)=some d) (hv:f d=.bool b) (hd:fx n o.dst=true)
  (h:WO P (CU P w) o f w fun v w'=>w'=w∧WS P ops n w K rest (cH f o.dst v)):WS P ops n w K (o::rest) f:=fun a ha=>by
 refine wpStill_step fun K' hK=>?_
 rw [cL ha hg hj hv]
 simp only [BEq.rfl,if_true]
 exact sT ha h fun v _ hk=>⟨hk.1,hK _ (hk.2 _ (ha.put o.dst v hd))⟩
theorem SH {K:Fr→Prop} {j d:Nat} {b c:Bool} (hg:o.guard=some (j,b)) (hj:(ops[j]?).bind (·.dst)=some d) (hv:f d=.bool c) (hc:(c == b)=false) (hd:fx n o.dst=true)
  (h:WS P ops n w K rest (cH f o.dst undef)):WS P ops n w K (o::rest) f:=fun a ha=>by
 refine wpStill_step fun K' hK=>?_
 rw [cL ha hg hj hv,hc]
 simp only [Bool.false_eq_true,if_false]
 exact hK _ (h _ (ha.put o.dst undef hd))
theorem CW {K:Fr→Prop} {j d:Nat} {b c:Bool} (_hg:o.guard=some (j,b)) (_hj:(ops[j]?).bind (·.dst)=some d) (hv:f d=.bool c)
  (h1:c=true→WS P ops n w K (o::rest) (cw f d (.bool true))) (h2:c=false→WS P ops n w K (o::rest) (cw f d (.bool false))):WS P ops n w K (o::rest) f:=by
 cases hc:c with
 | true=>subst hc;have:=h1 rfl;rwa [iR hv] at this
 | false=>subst hc;have:=h2 rfl;rwa [iR hv] at this
theorem yZ {K:Fr→Prop} {j d:Nat} {b:Bool} {p:Prop} [Decidable p] (hg:o.guard=some (j,b)) (hj:(ops[j]?).bind (·.dst)=some d) (hv:f d=.bool (decide p))
  (h1:p→WS P ops n w K (o::rest) (cw f d (.bool true))) (h2:¬p→WS P ops n w K (o::rest) (cw f d (.bool false))):WS P ops n w K (o::rest) f :=
 CW hg hj hv (fun h=>h1 (of_decide_eq_true h)) (fun h=>h2 (of_decide_eq_false h))
theorem nz {K K':Act→Prop} (hk:∀ a,K a→K' a):∀ (l:List Oper) (a:Act),wpStill P ops w K l a→wpStill P ops w K' l a
 | [],a,h=>hk a h
 | o::l,a,h=>by
  unfold wpStill at h ⊢
  split
  ·rename_i hw
   rw [if_pos hw] at h
   exact Oper.still_mono (nz hk l) h
  ·rename_i hw
   rw [if_neg hw] at h
   exact nz hk l _ h
theorem FQ {K:Fr→Prop} {d:Nat} (hg:o.guard=none) (h0:o.dst=some d) (hd:Nat.blt d n=true) (h:WO P (CU P w) o f w fun v w'=>w'=w∧WS P ops n w K rest (cw f d v)):WS P ops n w K (o::rest) f :=
 Z9 hg (by rw [h0];exact hd) (by rw [h0];exact h)
theorem uV {K:Fr→Prop} {j d e:Nat} {b:Bool} (hg:o.guard=some (j,b)) (hj:(ops[j]?).bind (·.dst)=some d) (hv:f d=.bool b) (h0:o.dst=some e) (hd:Nat.blt e n=true)
  (h:WO P (CU P w) o f w fun v w'=>w'=w∧WS P ops n w K rest (cw f e v)):WS P ops n w K (o::rest) f :=
 SG hg hj hv (by rw [h0];exact hd) (by rw [h0];exact h)
theorem uW {K:Fr→Prop} {j d e:Nat} {b c:Bool} (hg:o.guard=some (j,b)) (hj:(ops[j]?).bind (·.dst)=some d) (hv:f d=.bool c) (hc:(c == b)=false) (h0:o.dst=some e) (hd:Nat.blt e n=true)
  (h:WS P ops n w K rest (cw f e undef)):WS P ops n w K (o::rest) f :=
 SH hg hj hv hc (by rw [h0];exact hd) (by rw [h0];exact h)
def y5:Op→Bool
 | .store ..|.alloc _|.box ..|.buildSlice ..|.makeSlice ..|.makeMap ..|.mapUpdate ..|.insert ..|.mapEntry ..|.entryStore ..|.convert ..=>false
 | .call { callee:=.builtin .append,.. }|.call { callee:=.builtin .copy,.. }|.call { callee:=.builtin .delete,.. }|.call { callee:=.builtin .clear,.. }=>false
 | _=>true
theorem MZ {id:Nat} {l:List Oper} (hm:P.follows .mixedOrders=true) (_hq:(l.all fun o=>y5 o.op)=true) (hB:Region.lexB .any l.toArray=true)
  (h:WS P l.toArray n w.drew (fun f'=>Q .normal f' w.drew) l f):WC P n Q (.region id l.toArray true) f w:=fun a ha=>by
 refine wp_region_still hm hB ?_
 exact h a ha
theorem SI {id:Nat} {l:List Oper} (m:Nat) (hm:P.follows .mixedOrders=true) (hB:Region.lexTailB .any l.toArray m=true)
  (h:WS P l.toArray n w.drew (fun f'=>WL P l.toArray n Q (l.drop m) f' w.drew) (l.take m) f):WC P n Q (.region id l.toArray true) f w:=fun a ha=>by
 refine wp_region_still_tail m hm hB ?_
 have:=h a ha
 refine nz (fun a' hq=>?_) _ _ this
 obtain ⟨f',ha',hq⟩:=hq
 exact hq a' ha'
def sU (ops:Array Oper):List (Nat×Bool)→Array Bool→Bool
 | [],listed=>(Region.ready .any ops listed).isEmpty
 | (i,e)::pl,listed=>(if e then Region.ready .any ops listed == [i] else Region.free .any ops listed i&&(Region.ready .any ops listed).contains i)&&sU ops pl (listed.setIfInBounds i true)
def y6 (ops:Array Oper) (pl:List (Nat×Bool)):Bool:=pl.length == ops.size&&Region.noSelect ops&&sU ops pl (Array.replicate ops.size false)
def pZ (n:Nat) (K:Fr→World→Prop):Exit→Act→World→Prop:=fun e a w=>e=.normal∧∃ f,Is n a f∧K f w
def WH (P:Program) (ops:Array Oper) (n:Nat) (S:World→Prop) (K:Fr→World→Prop) (pl:List (Nat×Bool)) (f:Fr) (w:World):Prop :=
 ∀ a listed,Is n a f→Region.noSelect ops=true→sU ops pl listed=true→S w→wpAnyH P .any ops (pZ n K) S pl.length listed a w
abbrev lF:bO:=fun _ _ _ _=>False
def gI:Value→Bool
 | .tuple a=>a.size != 0
 | _=>true
section
variable {S:World→Prop} {K:Fr→World→Prop} {pl:List (Nat×Bool)} {i:Nat}
theorem ez {v:Value} (hv:gI v=true) (h:WO P lF o f w fun v' w''=>v'=v∧w''=w):(execOp (ev f) o).run P w=.ok (.value v) w:=by
 unfold WO at h
 generalize (execOp (ev f) o).run P w=r at *
 cases r with
 | halt x w'=>exact h.elim
 | ok x w' =>
  cases x <;> simp only [WU] at h
  case value u=>obtain ⟨rfl,rfl⟩:=h;rfl
  case skip=>obtain ⟨rfl,_⟩:=h;cases hv
  case enter=>exact h.elim
theorem FR (h:K f w):WH P ops n S K [] f w:=fun a listed ha _ hp _ =>
 ⟨by simpa [sU] using hp,rfl,f,ha,h⟩
theorem Io {v:Value} (hi:ops[i]?=some o) (hd:fx n o.dst=true) (hw:∀ a,Is n a f→(Region.wanted o (yielded ops a.tmps)=true∧∀ w,S w→(execOp (ev f) o).run P w=.ok (.value v) w)∨(Region.wanted o (yielded ops a.tmps)=false∧v=undef))
  (hk:S w→WH P ops n S K pl (cH f o.dst v) w):WH P ops n S K ((i,false)::pl) f w:=fun a listed ha hs hp hS=>by
 simp only [sU,Bool.and_eq_true,Bool.false_eq_true,if_false] at hp
 refine wpAnyH_take hi hs hp.1.1 hp.1.2 (fun _ _ _ h=>by cases h.1) ?_ hS (hk hS _ _ (ha.put o.dst v hd) hs hp.2 hS)
 unfold YieldsIf
 rw [ha.eval]
 exact hw a ha
theorem FT {v:Value} {d:Nat} {op:Op} {ty:TypeId} {p:String} {af:Array Edge} (hi:ops[i]?=some ⟨some d,op,ty,p,af,none⟩) (hd:Nat.blt d n=true) (h:∀ w',S w'→WO P lF ⟨some d,op,ty,p,af,none⟩ f w' fun v' w''=>v'=v∧w''=w') (hv:gI v=true)
  (hk:S w→WH P ops n S K pl (cw f d v) w):WH P ops n S K ((i,false)::pl) f w :=
 Io hi hd (fun a _=>.inl ⟨by simp [Region.wanted],fun w' hS=>ez hv (h w' hS)⟩) hk
theorem CX {v:Value} {d j e:Nat} {b:Bool} {op:Op} {ty:TypeId} {p:String} {af:Array Edge} (hi:ops[i]?=some ⟨some d,op,ty,p,af,some (j,b)⟩) (hj:(ops[j]?).bind (·.dst)=some e) (hc:f e=.bool b) (hd:Nat.blt d n=true) (h:∀ w',S w'→WO P lF ⟨some d,op,ty,p,af,some (j,b)⟩ f w' fun v' w''=>v'=v∧w''=w') (hv:gI v=true)
  (hk:S w→WH P ops n S K pl (cw f d v) w):WH P ops n S K ((i,false)::pl) f w :=
 Io hi hd (fun a ha=>.inl ⟨by rw [cL ha rfl hj hc];simp,fun w' hS=>ez hv (h w' hS)⟩) hk
theorem aaa {d j e:Nat} {b c:Bool} {op:Op} {ty:TypeId} {p:String} {af:Array Edge} (hi:ops[i]?=some ⟨some d,op,ty,p,af,some (j,b)⟩) (hj:(ops[j]?).bind (·.dst)=some e) (hv:f e=.bool c) (hc:(c == b)=false) (hd:Nat.blt d n=true)
  (hk:S w→WH P ops n S K pl (cw f d undef) w):WH P ops n S K ((i,false)::pl) f w :=
 Io hi hd (fun a ha=>.inr ⟨by rw [cL ha rfl hj hv];exact hc,rfl⟩) hk
theorem M0 (hi:ops[i]?=some o) (hd:fx n o.dst=true) (hw:∀ a,Is n a f→Region.wanted o (yielded ops a.tmps)=true) (h:S w→WO P (bn P) o f w fun v w'=>S w'∧WH P ops n S K pl (cH f o.dst v) w'):WH P ops n S K ((i,true)::pl) f w:=fun a listed ha hs hp hS=>by
 simp only [sU,Bool.and_eq_true,if_true,beq_iff_eq] at hp
 refine wpAnyH_all hp.1 (by simp) fun j hj=>?_
 obtain rfl:j=i:=by simpa using hj
 unfold wpOp
 simp only [hi,hw a ha,if_true]
 exact .inl (gF ha (h hS) fun v w' hk=>⟨hk.1,hk.2 _ _ (ha.put o.dst v hd) hs hp.2 hk.1⟩)
theorem ado {d:Nat} {op:Op} {ty:TypeId} {p:String} {af:Array Edge} (hi:ops[i]?=some ⟨some d,op,ty,p,af,none⟩) (hd:Nat.blt d n=true) (h:S w→WO P (bn P) ⟨some d,op,ty,p,af,none⟩ f w fun v w'=>S w'∧WH P ops n S K pl (cw f d v) w'):WH P ops n S K ((i,true)::pl) f w :=
 M0 hi hd (fun a _=>by simp [Region.wanted]) h
theorem aab {op:Op} {ty:TypeId} {p:String} {af:Array Edge} (hi:ops[i]?=some ⟨none,op,ty,p,af,none⟩) (h:S w→WO P (bn P) ⟨none,op,ty,p,af,none⟩ f w fun _ w'=>S w'∧WH P ops n S K pl f w'):WH P ops n S K ((i,true)::pl) f w :=
 M0 hi rfl (fun a _=>by simp [Region.wanted]) h
theorem aac {d j e:Nat} {b:Bool} {op:Op} {ty:TypeId} {p:String} {af:Array Edge} (hi:ops[i]?=some ⟨some d,op,ty,p,af,some (j,b)⟩) (hj:(ops[j]?).bind (·.dst)=some e) (hc:f e=.bool b) (hd:Nat.blt d n=true) (h:S w→WO P (bn P) ⟨some d,op,ty,p,af,some (j,b)⟩ f w fun v w'=>S w'∧WH P ops n S K pl (cw f d v) w'):WH P ops n S K ((i,true)::pl) f w :=
 M0 hi hd (fun a ha=>by rw [cL ha rfl hj hc];simp) h
theorem aad {d j e:Nat} {b c:Bool} {op:Op} {ty:TypeId} {p:String} {af:Array Edge} (hi:ops[i]?=some ⟨some d,op,ty,p,af,some (j,b)⟩) (hj:(ops[j]?).bind (·.dst)=some e) (hv:f e=.bool c) (hc:(c == b)=false) (hd:Nat.blt d n=true)
  (hk:S w→WH P ops n S K pl (cw f d undef) w):WH P ops n S K ((i,true)::pl) f w:=fun a listed ha hs hp hS=>by
 simp only [sU,Bool.and_eq_true,if_true,beq_iff_eq] at hp
 refine wpAnyH_all hp.1 (by simp) fun x hx=>?_
 obtain rfl:x=i:=by simpa using hx
 have hw:Region.wanted (⟨some d,op,ty,p,af,some (j,b)⟩:Oper) (yielded ops a.tmps)=false:=by rw [cL ha rfl hj hv];exact hc
 unfold wpOp
 simp only [hi,hw,Bool.false_eq_true,if_false]
 exact ⟨hS,hk hS _ _ (ha.put (some d) undef hd) hs hp.2 hS⟩
theorem CY {j d:Nat} {b c:Bool} {q:Bool} {o':Option Nat} {op:Op} {ty:TypeId} {p:String} {af:Array Edge} (_hi:ops[i]?=some ⟨o',op,ty,p,af,some (j,b)⟩) (_hj:(ops[j]?).bind (·.dst)=some d) (hv:f d=.bool c)
  (h1:c=true→WH P ops n S K ((i,q)::pl) (cw f d (.bool true)) w) (h2:c=false→WH P ops n S K ((i,q)::pl) (cw f d (.bool false)) w):WH P ops n S K ((i,q)::pl) f w:=by
 cases hc:c with
 | true=>subst hc;have:=h1 rfl;rwa [iR hv] at this
 | false=>subst hc;have:=h2 rfl;rwa [iR hv] at this
theorem y7 {j d:Nat} {b:Bool} {q:Bool} {pr:Prop} [Decidable pr] {o':Option Nat} {op:Op} {ty:TypeId} {p:String} {af:Array Edge} (hi:ops[i]?=some ⟨o',op,ty,p,af,some (j,b)⟩) (hj:(ops[j]?).bind (·.dst)=some d) (hv:f d=.bool (decide pr))
  (h1:pr→WH P ops n S K ((i,q)::pl) (cw f d (.bool true)) w) (h2:¬pr→WH P ops n S K ((i,q)::pl) (cw f d (.bool false)) w):WH P ops n S K ((i,q)::pl) f w :=
 CY hi hj hv (fun h=>h1 (of_decide_eq_true h)) (fun h=>h2 (of_decide_eq_false h))
theorem nZ {id:Nat} {l:List Oper} (S:World→Prop) (p:List (Nat×Bool)) (hm:P.follows .mixedOrders=true) (hB:y6 l.toArray p=true) (hS:S w.drew)
  (h:WH P l.toArray n S (fun f' w'=>Q .normal f' w') p f w.drew):WC P n Q (.region id l.toArray true) f w:=fun a ha=>by
 simp only [y6,Bool.and_eq_true,beq_iff_eq] at hB
 have h1:=h a _ ha hB.1.2 hB.2 hS
 rw [hB.1.1] at h1
 refine wp_mono (wp_region_held (Q:=pZ n fun f' w'=>Q .normal f' w') hm h1) fun e a' w' he=>?_
 obtain ⟨rfl,f',ha',hq⟩:=he
 exact ⟨f',ha',hq⟩
theorem gJ (h:WH P ops n S K pl f w):WH P ops n S K pl f w:=h
end
def RV (P:Program) (fn:Func) (f:Fr) (w:World) (v:Value):Prop:=∀ tmps:Array Value,(∀ t,tmps.getD t undef=f t)→(results fn tmps).run P w=.ok v w
def kD (P:Program) (fn:Func) (R:Ending→World→Prop):Exit→Fr→World→Prop
 | .normal,f,w|.ret,f,w=>∃ v,RV P fn f w v∧R (.returned v) w
 | _,_,_=>False
theorem CZ {fn:Func} {R:Ending→World→Prop} (h:∃ v,RV P fn f w v∧R (.returned v) w):kD P fn R .ret f w:=h
theorem xN {fn:Func} {R:Ending→World→Prop} (h:∃ v,RV P fn f w v∧R (.returned v) w):kD P fn R .normal f w:=h
theorem aN {C:bO} {K:Value→World→Prop} (h:WO P C o f w K):WO P C o f w K:=h
theorem lG (h:WL P ops n Q rest f w):WL P ops n Q rest f w:=h
theorem lH {c:Code} (h:WC P n Q c f w):WC P n Q c f w:=h
theorem uX {K:Fr→Prop} (h:WS P ops n w K rest f):WS P ops n w K rest f:=h
theorem lI {K:Fr→World→Prop} {e:Exit} (h:pY K Q e f w):pY K Q e f w:=h
theorem lJ {id:Nat} {e:Exit} (h:jT id Q e f w):jT id Q e f w:=h
theorem uY {fn:Func} {R:Ending→World→Prop} {e:Exit} (h:kD P fn R e f w):kD P fn R e f w:=h
theorem uZ {p:Prop} {w':World} (h:w'=w∧p):w'=w∧p:=h
theorem n5:∀ (l:List Value) (t:Nat),l.getD t undef=inits l t
 | [],t=>by cases t <;> rfl
 | v::l,0=>rfl
 | v::l,t+1=>by simpa [inits] using n5 l t
theorem aa {F:FuncId} {fn:Func} {c:Code} {R:Ending→World→Prop} {l:List Value} (hf:P.funcs[F]?=some fn) (hb:fn.body=some c) (hn:fn.ntmps=n) (hl:l.length≤n)
  (h:WC P n (kD P fn R) c (inits l) w):Calls P F l.toArray w R:=by
 refine calls_of_wp hf hb ?_
 refine wp_mono (h _ ?_) fun e a' w' he=>?_
 ·refine ⟨by simp [hn];omega,fun t=>?_,rfl⟩
  rw [← n5]
  have e1:l.toArray++Array.replicate (fn.ntmps-l.toArray.size) undef=(l++List.replicate (n-l.length) undef).toArray:=by simp [hn]
  rw [e1]
  simp only [List.getD_eq_getElem?_getD,Array.getD_eq_getD_getElem?,List.getElem?_toArray,List.getElem?_append]
  split
  ·rfl
  ·rename_i hlt
   rw [show l[t]?=none from List.getElem?_eq_none xj,List.getElem?_replicate]
   split <;> rfl
 ·obtain ⟨f',ha',hq⟩:=he
  cases e with
  | normal=>obtain ⟨v,hv,hr⟩:=hq;exact ⟨ha'.Iy,v,hv _ ha'.get,hr⟩
  | ret=>obtain ⟨v,hv,hr⟩:=hq;exact ⟨ha'.Iy,v,hv _ ha'.get,hr⟩
  | exit id=>exact hq.elim
  | goto l=>exact hq.elim
  | panic ch=>exact hq.elim
  | outgrown=>exact hq.elim
theorem aae {fn:Func} {R:Ending→World→Prop} (h:fn.results=#[]) (hr:R (.returned (.tuple #[])) w):∃ v,RV P fn f w v∧R (.returned v) w :=
 ⟨_,fun tmps _=>results_none h tmps P w,hr⟩
theorem Vw {fn:Func} {R:Ending→World→Prop} {t:Nat} {v:Value} (h:fn.results=#[.tmp t]) (hv:f t=v) (hr:R (.returned v) w):∃ v,RV P fn f w v∧R (.returned v) w :=
 ⟨v,fun tmps ht=>by rw [results_tmp h,ht,hv],hr⟩
theorem aaf {fn:Func} {R:Ending→World→Prop} {t u:Nat} {v x:Value} (h:fn.results=#[.tmp t,.tmp u]) (hv:f t=v) (hx:f u=x) (hr:R (.returned (.tuple #[v,x])) w):∃ v,RV P fn f w v∧R (.returned v) w :=
 ⟨_,fun tmps ht=>by rw [results_tmp2 h,ht,hv,ht,hx],hr⟩
theorem aag {fn:Func} {R:Ending→World→Prop} {t u s:Nat} {v x y:Value} (h:fn.results=#[.tmp t,.tmp u,.tmp s]) (hv:f t=v) (hx:f u=x) (hy:f s=y) (hr:R (.returned (.tuple #[v,x,y])) w):∃ v,RV P fn f w v∧R (.returned v) w :=
 ⟨_,fun tmps ht=>by
  have:(results fn tmps).run P w=.ok (.tuple #[tmps.getD t undef,tmps.getD u undef,tmps.getD s undef]) w:=by simp [results,h]
  rw [this,ht,hv,ht,hx,ht,hy],hr⟩
theorem M3 {fn:Func} {R:Ending→World→Prop} (h:fn.results=#[]) (hr:R (.returned (.tuple #[])) w):kD P fn R .normal f w :=
 aae h hr
theorem XB {fn:Func} {R:Ending→World→Prop} {t:Nat} {v:Value} (h:fn.results=#[.tmp t]) (hv:f t=v) (hr:R (.returned (v)) w):kD P fn R .ret f w :=
 Vw h hv hr
theorem XC {fn:Func} {R:Ending→World→Prop} {t u:Nat} {v x:Value} (h:fn.results=#[.tmp t,.tmp u]) (hv:f t=v) (hx:f u=x) (hr:R (.returned (.tuple #[v,x])) w):kD P fn R .ret f w :=
 aaf h hv hx hr
theorem XD {fn:Func} {R:Ending→World→Prop} {t u s:Nat} {v x y:Value} (h:fn.results=#[.tmp t,.tmp u,.tmp s]) (hv:f t=v) (hx:f u=x) (hy:f s=y) (hr:R (.returned (.tuple #[v,x,y])) w):kD P fn R .ret f w :=
 aag h hv hx hy hr
end
section
variable {P:Program} {C:bO} {o:Oper} {f:Fr} {w:World} {K:Value→World→Prop}
def aY (P:Program) (t:TypeId):Option Bool:=(P.underlying t).map fun d=>match d with|.struct _|.array _ _=>true|_=>false
def ct (P:Program) (t:TypeId):Option Nat:=(P.info? t).map (·.size)
theorem bS {t:TypeId} {b:Bool} (h:aY P t=some b) (w:World):(isAgg t).run P w=.ok b w:=by
 unfold aY at h
 cases hu:P.underlying t with
 | none=>simp [hu] at h
 | some d =>
  simp only [hu,Option.map_some,Option.some.injEq] at h
  unfold isAgg
  simp only [Sem.run_bind,run_underlying hu,Result.andThen_ok]
  subst h
  cases d <;> rfl
theorem bI {t:TypeId} {n:Nat} (h:ct P t=some n) (w:World):(sizeOf t).run P w=.ok n w:=by
 unfold ct at h
 cases hi:P.info? t with
 | none=>simp [hi] at h
 | some i =>
  simp [hi] at h
  simp [sizeOf,typeInfo,hi,h]
class aG (P:Program) (t:TypeId) (b:outParam Bool):Prop where h:aY P t=some b
class dP (P:Program) (t:TypeId) (n:outParam Nat):Prop where h:ct P t=some n
class gK (P:Program) (t:TypeId) (d:outParam TypeDesc):Prop where h:P.underlying t=some d
class bq (P:Program) (t:TypeId) (e:outParam TypeId) (n:outParam Nat):Prop where
 h:P.underlying t=some (.slice e)
 s:ct P e=some n
class FU (P:Program) (t:TypeId) (m:outParam Nat) (e:outParam TypeId) (n:outParam Nat):Prop where
 h:P.underlying t=some (.array m e)
 s:ct P e=some n
class bY (P:Program) (t:TypeId) (z:outParam Value):Prop where h:∀ w,(zeroValue t).run P w=.ok z w
class aV (P:Program) (t:TypeId) (i:Nat) (off:outParam Nat):Prop where h:∀ (a:Addr) (w:World),(Instr.fieldAt t (.pointer (some a)) i).run P w=.ok (.pointer (some (a.add off))) w
theorem aO {v:Value} (h:(execOp (ev f) o).run P w=.ok (.value v) w) (hk:K v w):WO P C o f w K:=by
 unfold WO;rw [h];exact hk
theorem pf {v:Value} {w':World} (h:(execOp (ev f) o).run P w=.ok (.value v) w') (hk:K v w'):WO P C o f w K:=by
 unfold WO;rw [h];exact hk
theorem C4 {w':World} (h:(execOp (ev f) o).run P w=.ok .skip w') (hk:K undef w'):WO P C o f w K:=by
 unfold WO;rw [h];exact hk
def mv:Op→Option Operand
 | .move x=>some x
 | .assign x=>some x
 | _=>none
theorem aH {x:Operand} {v:Value} (hop:mv o.op=some x) (hx:ev f x=v) (hk:K v w):WO P C o f w K:=by
 refine aO (v:=v) ?_ hk
 unfold execOp
 cases ho:o.op <;> rw [ho] at hop <;> simp only [mv,Option.some.injEq,reduceCtorEq] at hop
 all_goals (subst hop;simp [hx])
theorem lK {c a b:Operand} {v:Value} (hop:o.op=.pick c a b) (hc:ev f c=.bool true) (hx:ev f a=v) (hk:K v w):WO P C o f w K :=
 aO (v:=v) (by simp [execOp,hop,hc,hx,asBool]) hk
theorem lL {c a b:Operand} {v:Value} (hop:o.op=.pick c a b) (hc:ev f c=.bool false) (hx:ev f b=v) (hk:K v w):WO P C o f w K :=
 aO (v:=v) (by simp [execOp,hop,hc,hx,asBool]) hk
section
variable {u:Value}
theorem eI {k:IntKind} {n:Int} (h:u=.int k n):u=.int k n:=h
theorem eB {b:Bool} (h:u=.bool b):u=.bool b:=h
theorem eP {a:Addr} (h:u=.pointer (some a)):u=.pointer (some a):=h
theorem eS {A:Option Addr} {n c:Nat} (h:u=.slice A n c):u=.slice A n c:=h
theorem eA {cs:Array Value} (h:u=.agg cs):u=.agg cs:=h
theorem eM {r:Option Nat} (h:u=.map r):u=.map r:=h
theorem eF {g:Fn} {a c:Array Value} (h:u=.func g a c):u=.func g a c:=h
theorem aF {k:IntKind} {a b:Int} (hu:u=.int k a) (h:a=b):u=.int k b:=h▸hu
theorem p6 {g g' o:Nat} (hu:u=.pointer (some ⟨g,o,none⟩)) (h:g=g'):u=.pointer (some ⟨g',o,none⟩):=h▸hu
theorem xo {a b:Bool} (hu:u=.bool a) (h:a=b):u=.bool b:=h▸hu
variable {q:Option Value}
end
def ao (n:Int):Prop:=-9223372036854775808≤n∧n≤9223372036854775807
def ai (n:Int):Prop:=0≤n∧n<18446744073709551616
def aw (n:Int):Int:=n % 18446744073709551616
theorem wrap_i64 {n:Int} (h:ao n):IntKind.i64.wrap n=n:=by
 unfold ao at h
 rw [IntKind.wrap_i64]
 omega
theorem wrap_u64 (n:Int):IntKind.u64.wrap n=aw n:=by
 rw [IntKind.wrap_u64]
 rfl
theorem eL {n:Int} (h:ai n):aw n=n:=by unfold ai at h;unfold aw;omega
theorem d6 (n:Int):ai (aw n):=by unfold ai aw;omega
section
variable {x y:Operand} {t t':TypeId} {k:IntKind} {a b:Int}
theorem y8 (hop:o.op=.binOp .add t x y t') (hx:ev f x=.int k a) (hy:ev f y=.int k b) (hk:K (.int k (k.wrap (a+b))) w):WO P C o f w K :=
 aO (by simp [execOp,hop,hx,hy,eqGuard_add,binOp_add,Op.intArith]) hk
theorem FV (hop:o.op=.binOp .sub t x y t') (hx:ev f x=.int k a) (hy:ev f y=.int k b) (hk:K (.int k (k.wrap (a-b))) w):WO P C o f w K :=
 aO (by simp [execOp,hop,hx,hy,eqGuard_sub,binOp_sub,Op.intArith]) hk
theorem FW (hop:o.op=.binOp .mul t x y t') (hx:ev f x=.int k a) (hy:ev f y=.int k b) (hk:K (.int k (k.wrap (a*b))) w):WO P C o f w K :=
 aO (by simp [execOp,hop,hx,hy,eqGuard_mul,binOp_mul,Op.intArith]) hk
theorem jW (hop:o.op=.binOp .add t x y t') (hx:ev f x=.int .i64 a) (hy:ev f y=.int .i64 b) (h:ao (a+b)) (hk:K (.int .i64 (a+b)) w):WO P C o f w K :=
 y8 hop hx hy (by rw [wrap_i64 h];exact hk)
theorem lM (hop:o.op=.binOp .sub t x y t') (hx:ev f x=.int .i64 a) (hy:ev f y=.int .i64 b) (h:ao (a-b)) (hk:K (.int .i64 (a-b)) w):WO P C o f w K :=
 FV hop hx hy (by rw [wrap_i64 h];exact hk)
theorem p7 (hop:o.op=.binOp .mul t x y t') (hx:ev f x=.int .i64 a) (hy:ev f y=.int .i64 b) (h:ao (a*b)) (hk:K (.int .i64 (a*b)) w):WO P C o f w K :=
 FW hop hx hy (by rw [wrap_i64 h];exact hk)
theorem p8 (hop:o.op=.binOp .add t x y t') (hx:ev f x=.int .u64 a) (hy:ev f y=.int .u64 b) (h:ai (a+b)) (hk:K (.int .u64 (a+b)) w):WO P C o f w K :=
 y8 hop hx hy (by rw [wrap_u64,eL h];exact hk)
theorem p9 (hop:o.op=.binOp .sub t x y t') (hx:ev f x=.int .u64 a) (hy:ev f y=.int .u64 b) (h:ai (a-b)) (hk:K (.int .u64 (a-b)) w):WO P C o f w K :=
 FV hop hx hy (by rw [wrap_u64,eL h];exact hk)
theorem qa (hop:o.op=.binOp .mul t x y t') (hx:ev f x=.int .u64 a) (hy:ev f y=.int .u64 b) (h:ai (a*b)) (hk:K (.int .u64 (a*b)) w):WO P C o f w K :=
 FW hop hx hy (by rw [wrap_u64,eL h];exact hk)
theorem n7 (hop:o.op=.binOp .add t x y t') (hx:ev f x=.int .u64 a) (hy:ev f y=.int .u64 b) (hk:K (.int .u64 (aw (a+b))) w):WO P C o f w K :=
 y8 hop hx hy (by rw [wrap_u64];exact hk)
theorem n8 (hop:o.op=.binOp .sub t x y t') (hx:ev f x=.int .u64 a) (hy:ev f y=.int .u64 b) (hk:K (.int .u64 (aw (a-b))) w):WO P C o f w K :=
 FV hop hx hy (by rw [wrap_u64];exact hk)
theorem n9 (hop:o.op=.binOp .mul t x y t') (hx:ev f x=.int .u64 a) (hy:ev f y=.int .u64 b) (hk:K (.int .u64 (aw (a*b))) w):WO P C o f w K :=
 FW hop hx hy (by rw [wrap_u64];exact hk)
theorem u6 (hop:o.op=.binOp .lss t x y t') (hx:ev f x=.int k a) (hy:ev f y=.int k b) (hk:K (.bool (decide (a<b))) w):WO P C o f w K :=
 aO (by simp [execOp,hop,hx,hy,eqGuard_lss,binOp_lss]) hk
theorem y9 (hop:o.op=.binOp .leq t x y t') (hx:ev f x=.int k a) (hy:ev f y=.int k b) (hk:K (.bool (decide (a≤b))) w):WO P C o f w K :=
 aO (by simp [execOp,hop,hx,hy,eqGuard_leq,binOp_leq]) hk
theorem u7 (hop:o.op=.binOp .gtr t x y t') (hx:ev f x=.int k a) (hy:ev f y=.int k b) (hk:K (.bool (decide (b<a))) w):WO P C o f w K :=
 aO (by simp [execOp,hop,hx,hy,eqGuard_gtr,binOp_gtr]) hk
theorem rM (hop:o.op=.binOp .geq t x y t') (hx:ev f x=.int k a) (hy:ev f y=.int k b) (hk:K (.bool (decide (b≤a))) w):WO P C o f w K :=
 aO (by simp [execOp,hop,hx,hy,eqGuard_geq,binOp_geq]) hk
theorem zd (a b:Int):(a == b)=decide (a=b):=by cases h:a == b <;> simp_all
theorem Ip (a b:Int):(a != b)=decide (a≠b):=by cases h:a != b <;> simp_all
theorem ze (hop:o.op=.binOp .eql t x y t') (hx:ev f x=.int k a) (hy:ev f y=.int k b) (hk:K (.bool (decide (a=b))) w):WO P C o f w K :=
 aO (by simp only [execOp,hop,hx,hy,Sem.run_bind,eqGuard_at_int,Sem.run_pure,Result.andThen_ok,binOp_eql,zd]) hk
theorem zf (hop:o.op=.binOp .neq t x y t') (hx:ev f x=.int k a) (hy:ev f y=.int k b) (hk:K (.bool (decide (a≠b))) w):WO P C o f w K :=
 aO (by simp only [execOp,hop,hx,hy,Sem.run_bind,eqGuard_at_int,Sem.run_pure,Result.andThen_ok,binOp_neq,Ip]) hk
theorem qb (hop:o.op=.binOp .quo t x y t') (hx:ev f x=.int .u64 a) (hy:ev f y=.int .u64 b) (ha:ai a) (hb:0<b) (hk:K (.int .u64 (a / b)) w):WO P C o f w K:=by
 unfold ai at ha
 refine aO ?_ hk
 have h0:b≠0:=by omega
 have h1:0≤a / b:=Int.ediv_nonneg ha.1 xj
 have h2:a / b≤a:=Int.ediv_le_self _ ha.1
 simp [execOp,hop,hx,hy,eqGuard_quo,binOp_quo,Op.intDiv,h0,Int.tdiv_eq_ediv_of_nonneg ha.1,wrap_u64,eL (show ai (a / b) from ⟨h1,by omega⟩)]
theorem qd (hop:o.op=.binOp .rem t x y t') (hx:ev f x=.int .u64 a) (hy:ev f y=.int .u64 b) (ha:ai a) (hb:0<b) (hk:K (.int .u64 (a % b)) w):WO P C o f w K:=by
 unfold ai at ha
 refine aO ?_ hk
 have h0:b≠0:=by omega
 simp [execOp,hop,hx,hy,eqGuard_rem,binOp_rem,Op.intDiv,h0,Int.tmod_eq_emod_of_nonneg ha.1]
theorem qe (hop:o.op=.binOp .quo t x y t') (hx:ev f x=.int .i64 a) (hy:ev f y=.int .i64 b) (ha:0≤a∧a≤9223372036854775807) (hb:0<b) (hk:K (.int .i64 (a / b)) w):WO P C o f w K:=by
 refine aO ?_ hk
 have h0:b≠0:=by omega
 have h1:0≤a / b:=Int.ediv_nonneg ha.1 xj
 have h2:a / b≤a:=Int.ediv_le_self _ ha.1
 simp [execOp,hop,hx,hy,eqGuard_quo,binOp_quo,Op.intDiv,h0,Int.tdiv_eq_ediv_of_nonneg ha.1,wrap_i64 (show ao (a / b) from ⟨by omega,by omega⟩)]
theorem qf (hop:o.op=.binOp .rem t x y t') (hx:ev f x=.int .i64 a) (hy:ev f y=.int .i64 b) (ha:0≤a) (hb:0<b) (hk:K (.int .i64 (a % b)) w):WO P C o f w K:=by
 refine aO ?_ hk
 have h0:b≠0:=by omega
 simp [execOp,hop,hx,hy,eqGuard_rem,binOp_rem,Op.intDiv,h0,Int.tmod_eq_emod_of_nonneg ha]
theorem zg (hop:o.op=.binOp .and t x y t') (hx:ev f x=.int k a) (hy:ev f y=.int k b) (hk:K (.int k (bits .and k a b)) w):WO P C o f w K :=
 aO (by simp [execOp,hop,hx,hy,eqGuard_and,binOp_and,intBits_and]) hk
theorem Iq (hop:o.op=.binOp .or t x y t') (hx:ev f x=.int k a) (hy:ev f y=.int k b) (hk:K (.int k (bits .or k a b)) w):WO P C o f w K :=
 aO (by simp [execOp,hop,hx,hy,eqGuard_or,binOp_or,intBits_or]) hk
theorem jX {k':IntKind} (hop:o.op=.binOp .shr t x y t') (hx:ev f x=.int .u64 a) (hy:ev f y=.int k' b) (h0:0≤b) (h1:b≤64) (hk:K (.int .u64 (a / 2 ^ b.toNat)) w):WO P C o f w K :=
 aO (by simp [execOp,hop,hx,hy,eqGuard_shr,binOp_shr]) hk
theorem qg {k':IntKind} (hop:o.op=.binOp .shl t x y t') (hx:ev f x=.int .u64 a) (hy:ev f y=.int k' b) (h0:0≤b) (h1:b≤64) (hk:K (.int .u64 (aw (a*2 ^ b.toNat))) w):WO P C o f w K :=
 aO (by simp [execOp,hop,hx,hy,eqGuard_shl,binOp_shl,wrap_u64]) hk
theorem FX (hop:o.op=.unOp .neg t x) (hx:ev f x=.int k a) (hk:K (.int k (k.wrap (-a))) w):WO P C o f w K :=
 aO (by simp [execOp,hop,hx,Op.unary,Op.intArith]) hk
theorem fP (hop:o.op=.convert t t' x) (hx:ev f x=.int k a) {k':IntKind} {d:TypeDesc} [hs:gK P t d] [hd:gK P t' (.int k')] (hk:K (.int k' (k'.wrap a)) w):WO P C o f w K:=by
 refine aO ?_ hk
 have e:P.intKind t'=k':=by unfold Program.intKind;rw [hd.h]
 have:=run_convert_int (P:=P) w t t' k a (by rw [hs.h];rfl) (by rw [e];exact hd.h)
 rw [e] at this
 simp [execOp,hop,hx,this]
end
theorem jw {x:Operand} {t t':TypeId} {k:IntKind} {a:Int} (hop:o.op=.convert t t' x) (hx:ev f x=.int k a) {d:TypeDesc} [hs:gK P t d] [hd:gK P t' (.int .i64)] (h:ao a) (hk:K (.int .i64 a) w):WO P C o f w K :=
 fP hop hx (by rw [wrap_i64 h];exact hk)
theorem jx {x:Operand} {t t':TypeId} {k:IntKind} {a:Int} (hop:o.op=.convert t t' x) (hx:ev f x=.int k a) {d:TypeDesc} [hs:gK P t d] [hd:gK P t' (.int .u64)] (h:ai a) (hk:K (.int .u64 a) w):WO P C o f w K :=
 fP hop hx (by rw [wrap_u64,eL h];exact hk)
theorem iF {x:Operand} {t t':TypeId} {k:IntKind} {a:Int} (hop:o.op=.convert t t' x) (hx:ev f x=.int k a) {d:TypeDesc} [hs:gK P t d] [hd:gK P t' (.int .u64)] (hk:K (.int .u64 (aw a)) w):WO P C o f w K :=
 fP hop hx (by rw [wrap_u64];exact hk)
theorem oa {x:Operand} {t:TypeId} {a:Int} (hop:o.op=.unOp .neg t x) (hx:ev f x=.int .u64 a) (hk:K (.int .u64 (aw (-a))) w):WO P C o f w K :=
 FX hop hx (by rw [wrap_u64];exact hk)
theorem qh {x:Operand} {t:TypeId} {a:Int} (hop:o.op=.unOp .neg t x) (hx:ev f x=.int .i64 a) (h:ao (-a)) (hk:K (.int .i64 (-a)) w):WO P C o f w K :=
 FX hop hx (by rw [wrap_i64 h];exact hk)
theorem tM {x y:Operand} {t t':TypeId} {a b:Bool} (hop:o.op=.binOp .eql t x y t') (hx:ev f x=.bool a) (hy:ev f y=.bool b) [ht:gK P t .bool] (hk:K (.bool (a == b)) w):WO P C o f w K :=
 aO (by simp only [execOp,hop,hx,hy,Sem.run_bind,eqGuard_at_bool,Sem.run_pure,Result.andThen_ok,run_eql_bool w t a b ht.h]) hk
theorem tN {x y:Operand} {t t':TypeId} {a b:Bool} (hop:o.op=.binOp .neq t x y t') (hx:ev f x=.bool a) (hy:ev f y=.bool b) [ht:gK P t .bool] (hk:K (.bool (!(a == b))) w):WO P C o f w K :=
 aO (by simp only [execOp,hop,hx,hy,Sem.run_bind,eqGuard_at_bool,Sem.run_pure,Result.andThen_ok,run_neq_bool w t a b ht.h]) hk
theorem jY {x:Operand} {t:TypeId} {b:Bool} (hop:o.op=.unOp .not t x) (hx:ev f x=.bool b) (hk:K (.bool (!b)) w):WO P C o f w K :=
 aO (by simp [execOp,hop,hx,Op.unary]) hk
theorem cz {x:Operand} {i:Nat} {vs:Array Value} {v:Value} (hop:o.op=.extract x i) (hx:ev f x=.tuple vs) (hv:vs[i]?=some v) (hk:K v w):WO P C o f w K :=
 aO (by simp [execOp,hop,hx,Instr.extract,hv]) hk
theorem bu {t:TypeId} {x:Operand} {a:Addr} {v:Value} (hop:o.op=.load t x) (hx:ev f x=.pointer (some a)) [ht:aG P t false] (hc:w.cell? a=some v) (hk:K v w):WO P C o f w K:=by
 refine aO ?_ hk
 simp [execOp,hop,hx,Instr.loadAt,Instr.sureAddr,loadVar,bS ht.h,hc]
def gZ (w:World) (a:Addr) (cs:List Value):Prop:=∀ j v,cs[j]?=some v→w.cell? (a.add j)=some v
theorem bP {t:TypeId} {x:Operand} {a:Addr} {cs:List Value} (hop:o.op=.load t x) (hx:ev f x=.pointer (some a)) [ht:aG P t true] {m:Nat} [hs:dP P t m] (hm:cs.length=m) (hc:gZ w a cs) (hk:K (.agg cs.toArray) w):WO P C o f w K:=by
 refine aO ?_ hk
 have h1:=run_loadCells_list (P:=P) w a cs hc
 have h2:=bI hs.h
 rw [← hm] at h2
 simp [execOp,hop,hx,Instr.loadAt,Instr.sureAddr,loadVar,bS ht.h,h2,h1]
theorem va {t:TypeId} {x y:Operand} {a:Addr} {v:Value} (hop:o.op=.store t x y) (hx:ev f x=.pointer (some a)) (hy:ev f y=v) [hs:dP P t 1] (h1:v.oneCell'=true)
  (hc:(w.cell? a).isSome=true) (hf:w.frozen? a=false) (hk:K undef (w.setCell a v)):WO P C o f w K:=by
 refine C4 ?_ hk
 obtain ⟨u,hu⟩:=Option.isSome_iff_exists.1 hc
 have hcells:v.cells=#[v]:=by cases v <;> first|rfl|(simp [Value.oneCell'] at h1)
 have hr:=run_store P w a v .plain h1
 simp only [hu,hf] at hr
 have ha:a.add 0=a:=rfl
 simp [execOp,hop,hx,hy,Instr.storeAt,Instr.sureAddr,storeVar,bI hs.h,hcells,storeCells,ha,hr]
theorem fb {t:TypeId} {x y:Operand} {a:Addr} {k:IntKind} {n:Int} (hop:o.op=.store t x y) (hx:ev f x=.pointer (some a)) (hy:ev f y=.int k n) [dP P t 1]
  (hc:(w.cell? a).isSome=true) (hf:w.frozen? a=false) (hk:K undef (w.setCell a (.int k n))):WO P C o f w K:=va hop hx hy rfl hc hf hk
theorem dm {t e:TypeId} {x y:Operand} {g:Nat} {old cells:Array Value} (hop:o.op=.store t x y) (hx:ev f x=.pointer (some ⟨g,0,none⟩)) (hy:ev f y=.agg cells) {m:Nat} [hs:dP P t m] (hm:cells.size=m)
  (hg:w.heap[g]?=some (.cells old e (0,0))) (ho:old.size=cells.size) (h1:cells.all (·.oneCell')=true) (hk:K undef (w.setRow g cells)):WO P C o f w K:=by
 refine C4 ?_ hk
 have:=run_storeVar_row (P:=P) w g e t old cells hg (by rw [hm];exact hs.h) ho h1
 simp [execOp,hop,hx,hy,Instr.storeAt,Instr.sureAddr,this]
theorem zh {t:TypeId} {x:Operand} {v:Value} (hop:o.op=.box t x) (hx:ev f x=v) (hk:K (.pointer (some ⟨w.heap.size,0,none⟩)) (w.alloc (.cells v.cells t))):WO P C o f w K :=
 pf (by simp [execOp,hop,hx,Instr.box,newVar,newRow]) hk
theorem vb {t:TypeId} {z:Value} (hop:o.op=.alloc t) [hz:bY P t z] (hk:K (.pointer (some ⟨w.heap.size,0,none⟩)) (w.alloc (.cells z.cells t))):WO P C o f w K :=
 pf (by simp [execOp,hop,Instr.alloc,hz.h,newVar,newRow]) hk
theorem iS {t:TypeId} {x:Operand} {i:Nat} {a:Addr} {off:Nat} (hop:o.op=.fieldAddr t x i) (hx:ev f x=.pointer (some a))
  [hf:aV P t i off] (hk:K (.pointer (some (a.add off))) w):WO P C o f w K :=
 aO (by simp [execOp,hop,hx,hf.h]) hk
theorem qj {t e:TypeId} {x i:Operand} {A:Option Addr} {a:Addr} {n c sz:Nat} {k:IntKind} {j:Int} (hop:o.op=.indexAddr t x i) [ht:bq P t e sz]
  (hx:ev f x=.slice A n c) (hi:ev f i=.int k j) (hA:A=some a) (h0:0≤j) (h1:j<n) (hk:K (.pointer (some (a.add (j.toNat*sz)))) w):WO P C o f w K:=by
 refine aO ?_ hk
 subst hA
 have e1:P.elem t=e:=by unfold Program.elem;rw [ht.h]
 have hr:=run_indexAt_slice (P:=P) w t a n c k j (by rw [e1];exact ht.h)
 rw [if_pos ⟨h0,h1⟩,e1,bI ht.s] at hr
 simp [execOp,hop,hx,hi,hr]
theorem jJ {t e:TypeId} {x i:Operand} {a:Addr} {n sz:Nat} {k:IntKind} {j:Int} (hop:o.op=.indexAddr t x i) [ht:FU P t n e sz]
  (hx:ev f x=.pointer (some a)) (hi:ev f i=.int k j) (h0:0≤j) (h1:j<n) (hk:K (.pointer (some (a.add (j.toNat*sz)))) w):WO P C o f w K:=by
 refine aO ?_ hk
 have e1:P.elem t=e:=by unfold Program.elem;rw [ht.h]
 have e2:P.arrayLen t=n:=by unfold Program.arrayLen;rw [ht.h]
 have hr:=run_indexAt_array (P:=P) w t a k j (by rw [e1,e2];exact ht.h)
 rw [e2,if_pos ⟨h0,h1⟩,e1,bI ht.s] at hr
 simp [execOp,hop,hx,hi,hr]
theorem vc {x:Operand} {t:TypeId} {e:TypeId} {sz:Nat} {A:Option Addr} {n c:Nat} (hop:o.op=.call { callee:=.builtin .len,args:=#[x],argTypes:=#[t] }) [ht:bq P t e sz] (hx:ev f x=.slice A n c)
  (hk:K (.int .i64 n) w):WO P C o f w K:=by
 refine aO ?_ hk
 have e1:P.elem t=e:=by unfold Program.elem;rw [ht.h]
 have hr:=run_len_slice (P:=P) w t o.type A n c (by rw [e1];exact ht.h)
 simp [execOp,hop,hx,resolve,invoke,builtin,hr]
 rfl
theorem zi {x y:Operand} {ts:Array TypeId} {k:IntKind} {a b:Int} (hop:o.op=.call { callee:=.builtin .min,args:=#[x,y],argTypes:=ts }) (hx:ev f x=.int k a) (hy:ev f y=.int k b) (hk:K (.int k (min a b)) w):WO P C o f w K:=by
 refine aO ?_ hk
 have hr:=run_min_int2 (P:=P) w ts o.type k k a b
 have e:(if b<a then b else a)=min a b:=by omega
 rw [e] at hr
 simp [execOp,hop,hx,hy,resolve,invoke,builtin,hr]
theorem zj {x y:Operand} {ts:Array TypeId} {k:IntKind} {a b:Int} (hop:o.op=.call { callee:=.builtin .max,args:=#[x,y],argTypes:=ts }) (hx:ev f x=.int k a) (hy:ev f y=.int k b) (hk:K (.int k (max a b)) w):WO P C o f w K:=by
 refine aO ?_ hk
 have hr:=run_max_int2 (P:=P) w ts o.type k k a b
 have e:(if b > a then b else a)=max a b:=by omega
 rw [e] at hr
 simp [execOp,hop,hx,hy,resolve,invoke,builtin,hr]
class ab (P:Program) (g:FuncId):Prop where h:∃ fn,P.funcs[g]?=some fn∧(fn.name == "runtime.NumGoroutine")=false∧fn.body.isNone=false
theorem aM {g:FuncId} (h:ab P g) (args:Array Value) (w:World):(callFunc g args).run P w=.ok (.enter g args) w:=by
 obtain ⟨fn,hf,hn,hb⟩:=h.h
 simp only [callFunc,Sem.run_bind,run_program,Result.andThen_ok,hf,hn,hb,Bool.false_eq_true,if_false,Sem.run_pure]
theorem oc {fo:Operand} {xs:Array Operand} {ts:Array TypeId} {g:FuncId} {cap:Array Value} {args:List Value} (hop:o.op=.call { callee:=.value fo,args:=xs,argTypes:=ts }) (hf:ev f fo=.func (.func g) #[] cap)
  (ha:(xs.map (ev f)++cap)=args.toArray) [hg:ab P g] (h:C g args.toArray w K):WO P C o f w K:=by
 unfold WO
 have:(execOp (ev f) o).run P w=.ok (.enter g args.toArray) w:=by
  simp [execOp,hop,resolve,Deferred.ofValue,hf,invoke]
  rw [aM hg]
  simp [← ha]
 rw [this]
 exact h
theorem xO {fo:Operand} {xs:Array Operand} {ts:Array TypeId} {g:FuncId} {args:List Value} {v:Value} (hop:o.op=.call { callee:=.value fo,args:=xs,argTypes:=ts }) (hf:ev f fo=.func (.func g) #[] #[])
  (ha:xs.map (ev f)=args.toArray) (h:(callFunc g args.toArray).run P w=.ok (.value v) w) (hk:K v w):WO P C o f w K:=by
 refine aO ?_ hk
 simp [execOp,hop,resolve,Deferred.ofValue,hf,invoke,ha,h]
theorem gL {fo:Operand} {ts:Array TypeId} {g:FuncId} (hop:o.op=.call { callee:=.value fo,args:=#[],argTypes:=ts }) (hf:ev f fo=.func (.func g) #[] #[]) [hg:ab P g] (h:C g #[] w K):WO P C o f w K :=
 oc hop hf (by simp) (hg:=hg) h
theorem aA {fo:Operand} {x0:Operand} {v0:Value} {ts:Array TypeId} {g:FuncId} (hop:o.op=.call { callee:=.value fo,args:=#[x0],argTypes:=ts }) (hf:ev f fo=.func (.func g) #[] #[]) (h0:ev f x0=v0) [hg:ab P g] (h:C g #[v0] w K):WO P C o f w K :=
 oc hop hf (by simp [h0]) (hg:=hg) h
theorem jK {fo:Operand} {x0:Operand} {v0:Value} {ts:Array TypeId} {g:FuncId} {cap:List Value} (hop:o.op=.call { callee:=.value fo,args:=#[x0],argTypes:=ts }) (hf:ev f fo=.func (.func g) #[] cap.toArray) (h0:ev f x0=v0) [hg:ab P g] (h:C g ([v0]++cap).toArray w K):WO P C o f w K :=
 oc hop hf (by simp [h0]) (hg:=hg) h
theorem ar {fo:Operand} {x0 x1:Operand} {v0 v1:Value} {ts:Array TypeId} {g:FuncId} (hop:o.op=.call { callee:=.value fo,args:=#[x0,x1],argTypes:=ts }) (hf:ev f fo=.func (.func g) #[] #[]) (h0:ev f x0=v0) (h1:ev f x1=v1) [hg:ab P g] (h:C g #[v0,v1] w K):WO P C o f w K :=
 oc hop hf (by simp [h0,h1]) (hg:=hg) h
theorem FY {fo:Operand} {x0 x1:Operand} {v0 v1:Value} {ts:Array TypeId} {g:FuncId} {v:Value} (hop:o.op=.call { callee:=.value fo,args:=#[x0,x1],argTypes:=ts }) (hf:ev f fo=.func (.func g) #[] #[]) (h0:ev f x0=v0) (h1:ev f x1=v1) (h:(callFunc g #[v0,v1]).run P w=.ok (.value v) w) (hk:K v w):WO P C o f w K :=
 xO hop hf (by simp [h0,h1]) h hk
theorem fF {fo:Operand} {x0 x1 x2:Operand} {v0 v1 v2:Value} {ts:Array TypeId} {g:FuncId} (hop:o.op=.call { callee:=.value fo,args:=#[x0,x1,x2],argTypes:=ts }) (hf:ev f fo=.func (.func g) #[] #[]) (h0:ev f x0=v0) (h1:ev f x1=v1) (h2:ev f x2=v2) [hg:ab P g] (h:C g #[v0,v1,v2] w K):WO P C o f w K :=
 oc hop hf (by simp [h0,h1,h2]) (hg:=hg) h
theorem vd {fo:Operand} {x0 x1 x2:Operand} {v0 v1 v2:Value} {ts:Array TypeId} {g:FuncId} {v:Value} (hop:o.op=.call { callee:=.value fo,args:=#[x0,x1,x2],argTypes:=ts }) (hf:ev f fo=.func (.func g) #[] #[]) (h0:ev f x0=v0) (h1:ev f x1=v1) (h2:ev f x2=v2) (h:(callFunc g #[v0,v1,v2]).run P w=.ok (.value v) w) (hk:K v w):WO P C o f w K :=
 xO hop hf (by simp [h0,h1,h2]) h hk
theorem qk {fo:Operand} {x0 x1 x2 x3:Operand} {v0 v1 v2 v3:Value} {ts:Array TypeId} {g:FuncId} (hop:o.op=.call { callee:=.value fo,args:=#[x0,x1,x2,x3],argTypes:=ts }) (hf:ev f fo=.func (.func g) #[] #[]) (h0:ev f x0=v0) (h1:ev f x1=v1) (h2:ev f x2=v2) (h3:ev f x3=v3) [hg:ab P g] (h:C g #[v0,v1,v2,v3] w K):WO P C o f w K :=
 oc hop hf (by simp [h0,h1,h2,h3]) (hg:=hg) h
end
section
variable {P:Program} {f:Fr} {w:World} {fn:Func} {R:Ending→World→Prop}
theorem jL {t:TypeId} {a:Addr} {cs:List Value} {m:Nat} [ht:aG P t true] [hs:dP P t m] (hm:cs.length=m) (hc:gZ w a cs):(loadVar t a).run P w=.ok (.agg cs.toArray) w:=by
 have h1:=run_loadCells_list (P:=P) w a cs hc
 have h2:=bI hs.h
 rw [← hm] at h2
 simp [loadVar,bS ht.h,h2,h1]
theorem gZ.ql {g:Nat} {cs:List Value} {t:TypeId} (h:w.heap[g]?=some (.cells cs.toArray t (0,0))):gZ w ⟨g,0,none⟩ cs:=fun j v hj=>by
 rw [Addr.add_lit,Nat.zero_add,cell_of_row _ _ _ _ _ _ h]
 simpa using hj
variable {e:Exit} (he:e=.ret∨e=.normal)
include he
theorem tO {v:Value} (hv:RV P fn f w v) (hr:R (.returned v) w):kD P fn R e f w:=by
 rcases he with rfl|rfl <;> exact ⟨v,hv,hr⟩
theorem M4 {p:Nat} {t:TypeId} {a:Addr} {cs:List Value} {m:Nat} (h:fn.results=#[.cell p t]) (hp:f p=.pointer (some a)) [ht:aG P t true] [hs:dP P t m] (hm:cs.length=m) (hc:gZ w a cs) (hr:R (.returned (.agg cs.toArray)) w):kD P fn R e f w :=
 tO he (fun tmps hg=>by
  have hp':tmps[p]?.getD undef=.pointer (some a):=by have:=hg p;rw [hp] at this;simpa using this
  simp [results,h,hp',asAddr,jL hm hc]) hr
theorem xP {p q:Nat} {t:TypeId} {a:Addr} {cs:List Value} {m:Nat} {v:Value} (h:fn.results=#[.cell p t,.tmp q]) (hp:f p=.pointer (some a)) (hq:f q=v) [ht:aG P t true] [hs:dP P t m] (hm:cs.length=m) (hc:gZ w a cs) (hr:R (.returned (.tuple #[.agg cs.toArray,v])) w):kD P fn R e f w :=
 tO he (fun tmps hg=>by
  have hp':tmps[p]?.getD undef=.pointer (some a):=by have:=hg p;rw [hp] at this;simpa using this
  have hq':tmps[q]?.getD undef=v:=by have:=hg q;rw [hq] at this;simpa using this
  simp [results,h,hp',hq',asAddr,jL hm hc]) hr
theorem aah {p q:Nat} {t u:TypeId} {a b:Addr} {cs ds:List Value} {m k:Nat} (h:fn.results=#[.cell p t,.cell q u]) (hp:f p=.pointer (some a)) (hq:f q=.pointer (some b)) [ht:aG P t true] [hs:dP P t m] [hu:aG P u true] [hk:dP P u k] (hm:cs.length=m) (hn:ds.length=k) (hc:gZ w a cs) (hd:gZ w b ds) (hr:R (.returned (.tuple #[.agg cs.toArray,.agg ds.toArray])) w):kD P fn R e f w :=
 tO he (fun tmps hg=>by
  have hp':tmps[p]?.getD undef=.pointer (some a):=by have:=hg p;rw [hp] at this;simpa using this
  have hq':tmps[q]?.getD undef=.pointer (some b):=by have:=hg q;rw [hq] at this;simpa using this
  simp [results,h,hp',hq',asAddr,jL hm hc,jL hn hd]) hr
theorem XE {p q r:Nat} {t u:TypeId} {a b:Addr} {cs ds:List Value} {m k:Nat} {v:Value} (h:fn.results=#[.cell p t,.cell q u,.tmp r]) (hp:f p=.pointer (some a)) (hq:f q=.pointer (some b)) (hv:f r=v) [ht:aG P t true] [hs:dP P t m] [hu:aG P u true] [hk:dP P u k] (hm:cs.length=m) (hn:ds.length=k) (hc:gZ w a cs) (hd:gZ w b ds) (hr:R (.returned (.tuple #[.agg cs.toArray,.agg ds.toArray,v])) w):kD P fn R e f w :=
 tO he (fun tmps hg=>by
  have hp':tmps[p]?.getD undef=.pointer (some a):=by have:=hg p;rw [hp] at this;simpa using this
  have hq':tmps[q]?.getD undef=.pointer (some b):=by have:=hg q;rw [hq] at this;simpa using this
  have hr':tmps[r]?.getD undef=v:=by have:=hg r;rw [hv] at this;simpa using this
  simp [results,h,hp',hq',hr',asAddr,jL hm hc,jL hn hd]) hr
end
section
variable {P:Program} {C:bO} {f:Fr} {w:World} {K:Value→World→Prop} {d:Option Nat} {ty:TypeId} {p:String} {af:Array Edge} {g:Option (Nat×Bool)}
theorem Ir {x:Operand} (h:WO P C ⟨d,.move x,ty,p,af,g⟩ f w K):WO P C ⟨d,.move x,ty,p,af,g⟩ f w K:=h
theorem Iu {x:Operand} (h:WO P C ⟨d,.assign x,ty,p,af,g⟩ f w K):WO P C ⟨d,.assign x,ty,p,af,g⟩ f w K:=h
theorem tQ {x y z:Operand} (h:WO P C ⟨d,.pick x y z,ty,p,af,g⟩ f w K):WO P C ⟨d,.pick x y z,ty,p,af,g⟩ f w K:=h
theorem bM {t:TypeId} {x:Operand} (h:WO P C ⟨d,.load t x,ty,p,af,g⟩ f w K):WO P C ⟨d,.load t x,ty,p,af,g⟩ f w K:=h
theorem gM {t:TypeId} {x y:Operand} (h:WO P C ⟨d,.store t x y,ty,p,af,g⟩ f w K):WO P C ⟨d,.store t x y,ty,p,af,g⟩ f w K:=h
theorem zk {t:TypeId} {x:Operand} (h:WO P C ⟨d,.unOp .not t x,ty,p,af,g⟩ f w K):WO P C ⟨d,.unOp .not t x,ty,p,af,g⟩ f w K:=h
theorem zl {t:TypeId} {x:Operand} (h:WO P C ⟨d,.unOp .neg t x,ty,p,af,g⟩ f w K):WO P C ⟨d,.unOp .neg t x,ty,p,af,g⟩ f w K:=h
theorem od {t u:TypeId} {x:Operand} (h:WO P C ⟨d,.convert t u x,ty,p,af,g⟩ f w K):WO P C ⟨d,.convert t u x,ty,p,af,g⟩ f w K:=h
theorem zn {x:Operand} {i:Nat} (h:WO P C ⟨d,.extract x i,ty,p,af,g⟩ f w K):WO P C ⟨d,.extract x i,ty,p,af,g⟩ f w K:=h
theorem zo {t:TypeId} {x:Operand} {i:Nat} (h:WO P C ⟨d,.fieldAddr t x i,ty,p,af,g⟩ f w K):WO P C ⟨d,.fieldAddr t x i,ty,p,af,g⟩ f w K:=h
theorem mA {t:TypeId} {x y:Operand} (h:WO P C ⟨d,.indexAddr t x y,ty,p,af,g⟩ f w K):WO P C ⟨d,.indexAddr t x y,ty,p,af,g⟩ f w K:=h
theorem fG {t:TypeId} (h:WO P C ⟨d,.alloc t,ty,p,af,g⟩ f w K):WO P C ⟨d,.alloc t,ty,p,af,g⟩ f w K:=h
theorem pg {t:TypeId} {x:Operand} (h:WO P C ⟨d,.box t x,ty,p,af,g⟩ f w K):WO P C ⟨d,.box t x,ty,p,af,g⟩ f w K:=h
theorem Iv {t:TypeId} {i:Nat} {ps:Array (Nat×Operand)} (h:WO P C ⟨d,.buildSlice t i ps,ty,p,af,g⟩ f w K):WO P C ⟨d,.buildSlice t i ps,ty,p,af,g⟩ f w K:=h
theorem ff {x:Operand} {xs:Array Operand} {ts:Array TypeId} (h:WO P C ⟨d,.call { callee:=.value x,args:=xs,argTypes:=ts },ty,p,af,g⟩ f w K):WO P C ⟨d,.call { callee:=.value x,args:=xs,argTypes:=ts },ty,p,af,g⟩ f w K:=h
theorem ve {b:Builtin} {xs:Array Operand} {ts:Array TypeId} (h:WO P C ⟨d,.call { callee:=.builtin b,args:=xs,argTypes:=ts },ty,p,af,g⟩ f w K):WO P C ⟨d,.call { callee:=.builtin b,args:=xs,argTypes:=ts },ty,p,af,g⟩ f w K:=h
theorem FZ {fn:Fn} {xs ys:Array Operand} (h:WO P C ⟨d,.makeFunc fn xs ys,ty,p,af,g⟩ f w K):WO P C ⟨d,.makeFunc fn xs ys,ty,p,af,g⟩ f w K:=h
theorem vf {t:TypeId} {x:Operand} {l1 h1 m1:Option Operand} (h:WO P C ⟨d,.slice t x l1 h1 m1,ty,p,af,g⟩ f w K):WO P C ⟨d,.slice t x l1 h1 m1,ty,p,af,g⟩ f w K:=h
theorem F0 {t:TypeId} {x y:Operand} (h:WO P C ⟨d,.makeSlice t x y,ty,p,af,g⟩ f w K):WO P C ⟨d,.makeSlice t x y,ty,p,af,g⟩ f w K:=h
theorem rN {t u:TypeId} {x y:Operand} (h:WO P C ⟨d,.binOp .add t x y u,ty,p,af,g⟩ f w K):WO P C ⟨d,.binOp .add t x y u,ty,p,af,g⟩ f w K:=h
theorem zp {t u:TypeId} {x y:Operand} (h:WO P C ⟨d,.binOp .sub t x y u,ty,p,af,g⟩ f w K):WO P C ⟨d,.binOp .sub t x y u,ty,p,af,g⟩ f w K:=h
theorem zq {t u:TypeId} {x y:Operand} (h:WO P C ⟨d,.binOp .mul t x y u,ty,p,af,g⟩ f w K):WO P C ⟨d,.binOp .mul t x y u,ty,p,af,g⟩ f w K:=h
theorem zr {t u:TypeId} {x y:Operand} (h:WO P C ⟨d,.binOp .quo t x y u,ty,p,af,g⟩ f w K):WO P C ⟨d,.binOp .quo t x y u,ty,p,af,g⟩ f w K:=h
theorem zt {t u:TypeId} {x y:Operand} (h:WO P C ⟨d,.binOp .rem t x y u,ty,p,af,g⟩ f w K):WO P C ⟨d,.binOp .rem t x y u,ty,p,af,g⟩ f w K:=h
theorem zu {t u:TypeId} {x y:Operand} (h:WO P C ⟨d,.binOp .and t x y u,ty,p,af,g⟩ f w K):WO P C ⟨d,.binOp .and t x y u,ty,p,af,g⟩ f w K:=h
theorem Iw {t u:TypeId} {x y:Operand} (h:WO P C ⟨d,.binOp .or t x y u,ty,p,af,g⟩ f w K):WO P C ⟨d,.binOp .or t x y u,ty,p,af,g⟩ f w K:=h
theorem zv {t u:TypeId} {x y:Operand} (h:WO P C ⟨d,.binOp .shl t x y u,ty,p,af,g⟩ f w K):WO P C ⟨d,.binOp .shl t x y u,ty,p,af,g⟩ f w K:=h
theorem ph {t u:TypeId} {x y:Operand} (h:WO P C ⟨d,.binOp .shr t x y u,ty,p,af,g⟩ f w K):WO P C ⟨d,.binOp .shr t x y u,ty,p,af,g⟩ f w K:=h
theorem zw {t u:TypeId} {x y:Operand} (h:WO P C ⟨d,.binOp .lss t x y u,ty,p,af,g⟩ f w K):WO P C ⟨d,.binOp .lss t x y u,ty,p,af,g⟩ f w K:=h
theorem zy {t u:TypeId} {x y:Operand} (h:WO P C ⟨d,.binOp .leq t x y u,ty,p,af,g⟩ f w K):WO P C ⟨d,.binOp .leq t x y u,ty,p,af,g⟩ f w K:=h
theorem zA {t u:TypeId} {x y:Operand} (h:WO P C ⟨d,.binOp .gtr t x y u,ty,p,af,g⟩ f w K):WO P C ⟨d,.binOp .gtr t x y u,ty,p,af,g⟩ f w K:=h
theorem zC {t u:TypeId} {x y:Operand} (h:WO P C ⟨d,.binOp .geq t x y u,ty,p,af,g⟩ f w K):WO P C ⟨d,.binOp .geq t x y u,ty,p,af,g⟩ f w K:=h
theorem jf {t u:TypeId} {x y:Operand} (h:WO P C ⟨d,.binOp .eql t x y u,ty,p,af,g⟩ f w K):WO P C ⟨d,.binOp .eql t x y u,ty,p,af,g⟩ f w K:=h
theorem k8 {t u:TypeId} {x y:Operand} (h:WO P C ⟨d,.binOp .neq t x y u,ty,p,af,g⟩ f w K):WO P C ⟨d,.binOp .neq t x y u,ty,p,af,g⟩ f w K:=h
variable {n:Nat} {Q:Exit→Fr→World→Prop} {ops:Array Oper} {rest:List Oper} {o:Oper} {op:Op} {e:Nat} {gd:Nat×Bool} {x y:Code} {c:Operand} {id:Nat} {k:Fr→Prop} {l:List Oper}
theorem xQ (h:WL P ops n Q (⟨d,op,ty,p,af,none⟩::rest) f w):WL P ops n Q (⟨d,op,ty,p,af,none⟩::rest) f w:=h
theorem M5 (h:WL P ops n Q (⟨d,op,ty,p,af,some gd⟩::rest) f w):WL P ops n Q (⟨d,op,ty,p,af,some gd⟩::rest) f w:=h
theorem rO (h:WL P ops n Q [] f w):WL P ops n Q [] f w:=h
theorem F1 (h:WS P ops n w k (⟨d,op,ty,p,af,none⟩::rest) f):WS P ops n w k (⟨d,op,ty,p,af,none⟩::rest) f:=h
theorem F2 (h:WS P ops n w k (⟨d,op,ty,p,af,some gd⟩::rest) f):WS P ops n w k (⟨d,op,ty,p,af,some gd⟩::rest) f:=h
theorem zD (h:WS P ops n w k [] f):WS P ops n w k [] f:=h
theorem oe (h:WC P n Q (.cond c x y) f w):WC P n Q (.cond c x y) f w:=h
theorem zF (h:WC P n Q (.region id l.toArray true) f w):WC P n Q (.region id l.toArray true) f w:=h
end
inductive VS where
 | i|b|s|p|a|t|str|m|f
class dQ (P:Program) (t:TypeId) (k:outParam VS):Prop where h:True
section
variable {P:Program} {C:bO} {f:Fr} {w:World} {K:Value→World→Prop} {d:Option Nat} {ty:TypeId} {p:String} {af:Array Edge} {g:Option (Nat×Bool)} {x y z:Operand} {i:Nat} {t:TypeId}
theorem zG {k:IntKind} {n:Int} [dQ P ty .i] (hx:ev f x=.int k n) (hk:K (.int k n) w):WO P C ⟨d,.move x,ty,p,af,g⟩ f w K:=aH (x:=x) rfl hx hk
theorem zH {k:IntKind} {n:Int} [dQ P ty .i] (hx:ev f x=.int k n) (hk:K (.int k n) w):WO P C ⟨d,.assign x,ty,p,af,g⟩ f w K:=aH (x:=x) rfl hx hk
theorem tR {vs:Array Value} {k:IntKind} {n:Int} [dQ P ty .i] (hx:ev f x=.tuple vs) (hv:vs[i]?=some (.int k n)) (hk:K (.int k n) w):WO P C ⟨d,.extract x i,ty,p,af,g⟩ f w K:=cz (x:=x) (i:=i) rfl hx hv hk
theorem zI {b:Bool} [dQ P ty .b] (hx:ev f x=.bool b) (hk:K (.bool b) w):WO P C ⟨d,.move x,ty,p,af,g⟩ f w K:=aH (x:=x) rfl hx hk
theorem zJ {b:Bool} [dQ P ty .b] (hx:ev f x=.bool b) (hk:K (.bool b) w):WO P C ⟨d,.assign x,ty,p,af,g⟩ f w K:=aH (x:=x) rfl hx hk
theorem tU {vs:Array Value} {b:Bool} [dQ P ty .b] (hx:ev f x=.tuple vs) (hv:vs[i]?=some (.bool b)) (hk:K (.bool b) w):WO P C ⟨d,.extract x i,ty,p,af,g⟩ f w K:=cz (x:=x) (i:=i) rfl hx hv hk
theorem zK {A:Option Addr} {n c:Nat} [dQ P ty .s] (hx:ev f x=.slice A n c) (hk:K (.slice A n c) w):WO P C ⟨d,.move x,ty,p,af,g⟩ f w K:=aH (x:=x) rfl hx hk
theorem zL {A:Option Addr} {n c:Nat} [dQ P ty .s] (hx:ev f x=.slice A n c) (hk:K (.slice A n c) w):WO P C ⟨d,.assign x,ty,p,af,g⟩ f w K:=aH (x:=x) rfl hx hk
theorem tV {vs:Array Value} {A:Option Addr} {n c:Nat} [dQ P ty .s] (hx:ev f x=.tuple vs) (hv:vs[i]?=some (.slice A n c)) (hk:K (.slice A n c) w):WO P C ⟨d,.extract x i,ty,p,af,g⟩ f w K:=cz (x:=x) (i:=i) rfl hx hv hk
theorem tW {vs:Array Value} {cs:Array Value} [dQ P ty .a] (hx:ev f x=.tuple vs) (hv:vs[i]?=some (.agg cs)) (hk:K (.agg cs) w):WO P C ⟨d,.extract x i,ty,p,af,g⟩ f w K:=cz (x:=x) (i:=i) rfl hx hv hk
theorem SK {cs:Array Value} [dQ P t .a] (hx:ev f x=.agg cs) (hk:K (.pointer (some ⟨w.heap.size,0,none⟩)) (w.alloc (.cells (Value.cells (.agg cs)) t))):WO P C ⟨d,.box t x,ty,p,af,g⟩ f w K:=zh (x:=x) (v:=.agg cs) rfl hx hk
theorem zM {cs:Array Value} [dQ P ty .t] (hx:ev f x=.tuple cs) (hk:K (.tuple cs) w):WO P C ⟨d,.move x,ty,p,af,g⟩ f w K:=aH (x:=x) rfl hx hk
theorem zN {r:Option Nat} [dQ P ty .m] (hx:ev f x=.map r) (hk:K (.map r) w):WO P C ⟨d,.move x,ty,p,af,g⟩ f w K:=aH (x:=x) rfl hx hk
theorem zO {r:Option Nat} [dQ P ty .m] (hx:ev f x=.map r) (hk:K (.map r) w):WO P C ⟨d,.assign x,ty,p,af,g⟩ f w K:=aH (x:=x) rfl hx hk
theorem tX {vs:Array Value} {r:Option Nat} [dQ P ty .m] (hx:ev f x=.tuple vs) (hv:vs[i]?=some (.map r)) (hk:K (.map r) w):WO P C ⟨d,.extract x i,ty,p,af,g⟩ f w K:=cz (x:=x) (i:=i) rfl hx hv hk
theorem zP {fn:Fn} {a c:Array Value} [dQ P ty .f] (hx:ev f x=.func fn a c) (hk:K (.func fn a c) w):WO P C ⟨d,.move x,ty,p,af,g⟩ f w K:=aH (x:=x) rfl hx hk
theorem zQ {fn:Fn} {a c:Array Value} [dQ P ty .f] (hx:ev f x=.func fn a c) (hk:K (.func fn a c) w):WO P C ⟨d,.assign x,ty,p,af,g⟩ f w K:=aH (x:=x) rfl hx hk
end
attribute [irreducible] WO WL WC WS WH kD pY jT
end R
end Go.Proofs.YtlmabdegojeheaaGreatDoor
