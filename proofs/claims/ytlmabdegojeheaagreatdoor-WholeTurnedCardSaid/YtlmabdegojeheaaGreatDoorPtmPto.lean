/- WholeTurned: parts of its proof (Ptm Ptn Ub Pto). -/
import Derived.Test.YtlmabdegojeheaaGreatDoorPtjPtl
import Derived.Test.YtlmabdegojeheaaGreatDoorZfNt
import Derived.Test.YtlmabdegojeheaaGreatDoorWxWy
namespace Go.Proofs.YtlmabdegojeheaaGreatDoor
open R Go.RowKit
def aaY:Mt→Int→List Value
 | .no,_=>[.int .i64 0,.int .i64 0,.int .i64 0,.int .i64 0]++cr ⟨0,0⟩++cr ⟨0,0⟩
 | .at_ n d,m=>[.int .i64 1,.int .i64 n,.int .i64 m,.int .i64 d]++cr ⟨0,0⟩++cr ⟨0,0⟩
 | .over p q,_=>[.int .i64 2,.int .i64 0,.int .i64 0,.int .i64 0]++cr p++cr q
structure Mx where
 x:Mt
 m:Int
def cMx (y:Mx):List Value:=aaY y.x y.m
attribute [local irreducible] aq oT dx aR kA b9 in
set_option maxHeartbeats 4000000 in
theorem TC (s t:bJ) (w:World) (hs:aK s) (ht:aK t):Calls Tryz.prog 108 #[.agg (bD s).toArray,.agg (bD t).toArray] w fun e w'=>(∃ L m,oX s t L∧e=.returned (.agg (cMx ⟨tt s L,m⟩).toArray))∧Below w.heap.size w w':=by
 have hM:=R.Own.start [] w
 refine aa (fn:=Tryz.f108) Tryz.func108 rfl Tryz.ntmps108 (Nat.le_of_ble_eq_true rfl) ?_
 (refine ad ?_;(repeat' first|refine And.intro ?_ ?_|intro _);all_goals refine ah.mk ?_)
 refine ar rfl rfl vv vv ?_
 refine (K2 s t _ hs ht).mono ?_
 rintro _ w2 ⟨A,c,L,rfl,hL4,hc,hG⟩
 have hM:=R.Own.pv aj hG
 clear hG
 refine ⟨_,rfl,?_⟩
 obtain ⟨x,hx⟩:∃ x,tt s L=x:=⟨_,rfl⟩
 have e0:L.length=0→x=.no:=fun h=>by
  obtain rfl:=List.eq_nil_of_length_eq_zero h
  exact hx.symm
 have e1:L.length=1→x=.at_ (if nth L 0=s.a then 0 else 1) 1:=fun h=>by
  obtain ⟨p,rfl⟩:=List.length_eq_one_iff.1 h
  exact hx.symm
 have e2:2≤L.length→x=.over (nth L 0) (nth L (L.length-1)):=fun h=>by
  match L,h with
  | p::q::l,_ =>
   rw [← hx]
   show Mt.over p _=Mt.over p _
   congr 1
   rw [av (by simp)]
   exact (List.getLast_eq_getElem (by simp)).trans (by simp)
 have hgoal:∀ {e:Ending} {P:Prop} (m:Int),e=.returned (.agg (cMx ⟨x,m⟩).toArray)→P→(∃ L m,oX s t L∧e=.returned (.agg (cMx ⟨tt s L,m⟩).toArray))∧P:=fun m h1 h2=>⟨⟨L,m,hc,by rw [hx];exact h1⟩,h2⟩
 by_cases h0:L.length=0
 ·(refine ad ?_;(repeat' first|refine And.intro ?_ ?_|intro _);all_goals refine ah.mk ?_)
  refine hgoal 0 ?_ (R.Own.below aj)
  rw [e0 h0]
  rfl
 have hAs:∃ a,A=some a:=(hM.rd (.head _)).some_ xj vj
 by_cases h1:L.length=1
 ·(refine ad ?_;(repeat' first|refine And.intro ?_ ?_|intro _);all_goals refine ah.mk ?_)
  refine bB [(0,false),(1,false),(2,false),(3,false),(5,false),(6,false),(7,false),(8,false),(4,true),(9,true),(10,false),(11,true)] R.mixed wx aj ?_
  (refine ad ?_;(repeat' first|refine And.intro ?_ ?_|intro _);all_goals refine ah.mk ?_)
  refine hgoal (if nth L 0=t.a then 0 else 1) ?_ (R.Own.below aj)
  rw [e1 h1]
  rfl
 ·have h3:(((L.length:Nat):Int)-1).toNat=L.length-1:=by omega
  (refine ad ?_;(repeat' first|refine And.intro ?_ ?_|intro _);all_goals refine ah.mk ?_)
  refine hgoal 0 ?_ (R.Own.below aj)
  rw [h3,e2 (by omega)]
  rfl
attribute [local irreducible] aq oT dx aR kA b9 gX eE in
set_option maxHeartbeats 4000000 in
theorem TD (s t:bJ) (w:World) (hs:aK s) (ht:aK t):Calls Tryz.prog 64 #[.agg (bD s).toArray,.agg (bD t).toArray] w fun e w'=>(∃ x m,fK s t x∧e=.returned (.agg (cMx ⟨x,m⟩).toArray))∧Below w.heap.size w w':=by
 have hM:=R.Own.start [] w
 have c1:=pK ht.1 ht.2.1 hs.1
 have c2:=pK ht.1 ht.2.1 hs.2.1
 have c3:=pK hs.1 hs.2.1 ht.1
 have a1:=hs.1
 have a2:=hs.2.1
 have a3:=ht.1
 have a4:=ht.2.1
 refine aa (fn:=Tryz.f64) Tryz.func64 rfl Tryz.ntmps64 (Nat.le_of_ble_eq_true rfl) ?_
 (refine ad ?_;(repeat' first|refine And.intro ?_ ?_|intro _);all_goals refine ah.mk ?_)
 ·refine ⟨⟨.no,0,.no (by simpa using (by assumption:(!decide (eE s t))=true)),rfl⟩,R.Own.below aj⟩
 all_goals have hT:eE s t:=by simpa using (by assumption:(!decide (eE s t))=false)
 ·refine ar rfl rfl vv vv ?_
  refine (TC s t _ hs ht).mono ?_
  rintro _ w2 ⟨⟨L,m,hL,rfl⟩,hb2⟩
  have hM:=R.Own.call aj hb2
  have hR:fK s t (tt s L):=.over hT ww hL
  generalize tt s L=x at hR ⊢
  refine ⟨_,rfl,?_⟩
  cases x
  all_goals
   (refine ad ?_;(repeat' first|refine And.intro ?_ ?_|intro _);all_goals refine ah.mk ?_)
   exact ⟨⟨_,m,hR,rfl⟩,R.Own.below aj⟩
 ·rename_i hd _ _
  refine ⟨⟨_,- -dx s.a s.b t.a,.at_ hT ww,?_⟩,R.Own.below aj⟩
  rw [show E9 (dx t.a t.b s.a) (dx t.a t.b s.a-dx t.a t.b s.b)=.at_ (-dx t.a t.b s.a) (-(dx t.a t.b s.a-dx t.a t.b s.b)) from if_pos hd]
  rfl
 ·rename_i hd _ _
  refine ⟨⟨_,-dx s.a s.b t.a,.at_ hT ww,?_⟩,R.Own.below aj⟩
  rw [show E9 (dx t.a t.b s.a) (dx t.a t.b s.a-dx t.a t.b s.b)=.at_ (dx t.a t.b s.a) (dx t.a t.b s.a-dx t.a t.b s.b) from if_neg hd]
  rfl
def ad3 (s:bJ):Mt→Prop
 | .no=>True
 | .at_ n d=>ao n∧ao d
 | .over p q=>(bL p∧kA s p)∧bL q∧kA s q
theorem GC {s t:bJ} (hs:aK s) (ht:aK t) {x:Mt} (h:fK s t x):ad3 s x:=by
 cases h with
 | no _=>trivial
 | at_ _ _ =>
  have c1:=pK ht.1 ht.2.1 hs.1
  have c2:=pK ht.1 ht.2.1 hs.2.1
  unfold E9
  split <;> exact ⟨⟨by omega,by omega⟩,⟨by omega,by omega⟩⟩
 | @over L _ _ hL =>
  have hm:∀ p∈L,bL p∧kA s p:=fun p hp=>by
   obtain ⟨h1,h2,_⟩:=(hL.2 p).1 hp
   refine ⟨?_,h2⟩
   rcases h1 with rfl|rfl|rfl|rfl
   ·exact hs.1
   ·exact hs.2.1
   ·exact ht.1
   ·exact ht.2.1
  match L,hm with
  | [],_=>trivial
  | [p],_ =>
   show ao _∧ao 1
   refine ⟨?_,⟨by omega,by omega⟩⟩
   split <;> exact ⟨by omega,by omega⟩
  | p::q::l,hm=>exact ⟨hm p (by simp),hm _ (List.mem_cons_of_mem _ (List.getLast_mem _))⟩
attribute [local irreducible] aq oT dx aR kA b9 bT in
set_option maxHeartbeats 4000000 in
theorem VU (s t:bJ) (w:World) (hs:aK s) (ht:aK t):Calls Tryz.prog 36 #[.agg (bD s).toArray,.agg (bD t).toArray] w fun e w'=>∃ A c x,fK s t x∧e=.returned (.slice A (xG s x).length c)∧iV w w' A (xG s x).length c 115 28 ((xG s x).flatMap eO):=by
 have hM:=R.Own.start [] w
 refine aa (fn:=Tryz.f36) Tryz.func36 rfl Tryz.ntmps36 (Nat.le_of_ble_eq_true rfl) ?_
 (refine ad ?_;(repeat' first|refine And.intro ?_ ?_|intro _);all_goals refine ah.mk ?_)
 refine ar rfl rfl vv vv ?_
 refine (TD s t _ hs ht).mono ?_
 rintro _ w2 ⟨⟨x,m,hx,rfl⟩,hb2⟩
 have hM:=R.Own.call aj hb2
 have hok:=GC hs ht hx
 refine ⟨_,rfl,?_⟩
 cases x with
 | no =>
  (refine ad ?_;(repeat' first|refine And.intro ?_ ?_|intro _);all_goals refine ah.mk ?_)
  rename_i hM
  exact ⟨none,0,.no,hx,rfl,(R.Own.nil hM _ _).gives⟩
 | at_ n d =>
  obtain ⟨n1,n2⟩:=hok
  (refine ad ?_;(repeat' first|refine And.intro ?_ ?_|intro _);all_goals refine ah.mk ?_)
  rename_i A c _ hM
  refine ⟨A,c,.at_ n d,hx,rfl,?_⟩
  have e:[bT s n d].flatMap eO=eO (bT s n d):=by simp
  show iV _ _ A 1 c _ 28 ([bT s n d].flatMap eO)
  rw [e]
  exact hM.gives
 | over p q =>
  obtain ⟨⟨n1,n2⟩,n3,n4⟩:=hok
  (refine ad ?_;(repeat' first|refine And.intro ?_ ?_|intro _);all_goals refine ah.mk ?_)
  refine ar rfl rfl vv vv ?_
  refine (Dz s p _ hs n1 n2).mono ?_
  rintro _ w3 ⟨rfl,hb3⟩
  have hM:=R.Own.call aj hb3
  refine ⟨_,rfl,?_⟩
  (refine ad ?_;(repeat' first|refine And.intro ?_ ?_|intro _);all_goals refine ah.mk ?_)
  refine ar rfl rfl vv vv ?_
  refine (Dz s q _ hs n3 n4).mono ?_
  rintro _ w4 ⟨rfl,NC⟩
  have hM:=R.Own.call aj NC
  refine ⟨_,rfl,?_⟩
  (refine ad ?_;(repeat' first|refine And.intro ?_ ?_|intro _);all_goals refine ah.mk ?_)
  rename_i A c _ hM
  exact ⟨A,c,.over p q,hx,rfl,hM.gives⟩
theorem Bk (A:Option Addr) (n c:Nat) (L:List Pt) (g:FuncId) [ab Tryz.prog g] (cap:List Value) (p:Pt→Bool) (w:World) (hA:gn [] w A n 2 (L.flatMap cr)) (hn:n=L.length) (hb:n≤9223372036854775807)
  (hp:∀ x w1,x∈L→Below w.heap.size w w1→Calls Tryz.prog g ([Value.agg (cr x).toArray]++cap).toArray w1 fun e w'=>e=.returned (.bool (p x))∧Below w1.heap.size w1 w') :
  Calls Tryz.prog 147 #[.slice A n c,.func (.func g) #[] cap.toArray] w fun e w'=>e=.returned (.int .i64 (tv p L))∧Below w.heap.size w w':=by
 have hM:=R.Own.start [] w
 refine aa (fn:=Tryz.f147) Tryz.func147 rfl Tryz.ntmps147 (Nat.le_of_ble_eq_true rfl) ?_
 (refine ak ?_;(repeat' first|refine And.intro ?_ ?_|intro _);all_goals refine ah.mk ?_)
 refine au (fun k:Nat=>[(0,.slice A n c),(1,.func (.func g) #[] cap.toArray),(4,.int .i64 0),(7,.int .i64 (n:Nat)),(8,.int .i64 (k:Nat))])
  (fun k w1=>k≤n∧R.Own [] w w1 []∧∀ x∈L.take k,p x=false) (fun k=>n-k) ⟨0,⟨rfl,rfl,rfl,rfl,rfl,trivial⟩,by omega,hM,by simp⟩ ?_
 rintro k f w1 ⟨hk,hM,hall⟩
 by_cases hlt:k<n
 ·have hx:=R.aB (L:=L) (i:=k) xj
  have hcall:=hp (nth L k) w1 hx hM.below
  (refine ak ?_;(repeat' first|refine And.intro ?_ ?_|intro _);all_goals refine ah.mk ?_)
  refine jK rfl rfl vv ?_
  refine hcall.mono ?_
  rintro e w2 ⟨rfl,hb2⟩
  have hM:=hM.call hb2
  refine ⟨_,rfl,?_⟩
  (refine ak ?_;(repeat' first|refine And.intro ?_ ?_|intro _);all_goals refine ah.mk ?_)
  ·rename_i hpx
   refine ⟨?_,hM.below⟩
   rw [nS (k:=k) xj hall (by rw [← av];exact hpx)]
  ·rename_i hpx
   exact ⟨k+1,⟨rfl,rfl,rfl,rfl,aF rfl xj,trivial⟩,⟨by omega,hM,lv xj hall hpx⟩,by omega⟩
 ·obtain rfl:k=n:=by omega
  (refine ak ?_;(repeat' first|refine And.intro ?_ ?_|intro _);all_goals refine ah.mk ?_)
  refine ⟨?_,hM.below⟩
  rw [jH (by rw [hn,List.take_length] at hall;exact hall)]
theorem tF (A:Option Addr) (n c:Nat) (L:List Pt) (g:FuncId) [ab Tryz.prog g] (cap:List Value) (p:Pt→Bool) (w:World) (hA:gn [] w A n 2 (L.flatMap cr)) (hn:n=L.length) (hb:n≤9223372036854775807)
  (hp:∀ x w1,x∈L→Below w.heap.size w w1→Calls Tryz.prog g ([Value.agg (cr x).toArray]++cap).toArray w1 fun e w'=>e=.returned (.bool (p x))∧Below w1.heap.size w1 w') :
  Calls Tryz.prog 91 #[.slice A n c,.func (.func g) #[] cap.toArray] w fun e w'=>e=.returned (.bool (L.any p))∧Below w.heap.size w w':=by
 refine aa (fn:=Tryz.f91) Tryz.func91 rfl Tryz.ntmps91 (Nat.le_of_ble_eq_true rfl) ?_
 (refine ak ?_;(repeat' first|refine And.intro ?_ ?_|intro _);all_goals refine ah.mk ?_)
 refine ar rfl rfl vv vv ?_
 refine (Bk A n c L g cap p w hA hn hb hp).mono ?_
 rintro e w1 ⟨rfl,hb1⟩
 refine ⟨_,rfl,?_⟩
 (refine ak ?_;(repeat' first|refine And.intro ?_ ?_|intro _);all_goals refine ah.mk ?_)
 rw [lu]
 exact ⟨rfl,hb1⟩
theorem xB (A:Option Addr) (n c:Nat) (L:List Int) (g:FuncId) [ab Tryz.prog g] (cap:List Value) (p:Int→Bool) (w:World) (hA:gn [] w A n 1 (L.flatMap R.cI)) (hn:n=L.length) (hb:n≤9223372036854775807)
  (hp:∀ x w1,x∈L→Below w.heap.size w w1→Calls Tryz.prog g ([Value.int .i64 x]++cap).toArray w1 fun e w'=>e=.returned (.bool (p x))∧Below w1.heap.size w1 w') :
  Calls Tryz.prog 149 #[.slice A n c,.func (.func g) #[] cap.toArray] w fun e w'=>e=.returned (.int .i64 (tv p L))∧Below w.heap.size w w':=by
 have hM:=R.Own.start [] w
 refine aa (fn:=Tryz.f149) Tryz.func149 rfl Tryz.ntmps149 (Nat.le_of_ble_eq_true rfl) ?_
 (refine ak ?_;(repeat' first|refine And.intro ?_ ?_|intro _);all_goals refine ah.mk ?_)
 refine au (fun k:Nat=>[(0,.slice A n c),(1,.func (.func g) #[] cap.toArray),(4,.int .i64 0),(7,.int .i64 (n:Nat)),(8,.int .i64 (k:Nat))])
  (fun k w1=>k≤n∧R.Own [] w w1 []∧∀ x∈L.take k,p x=false) (fun k=>n-k) ⟨0,⟨rfl,rfl,rfl,rfl,rfl,trivial⟩,by omega,hM,by simp⟩ ?_
 rintro k f w1 ⟨hk,hM,hall⟩
 by_cases hlt:k<n
 ·have hx:=R.aB (L:=L) (i:=k) xj
  have hcall:=hp (nth L k) w1 hx hM.below
  (refine ak ?_;(repeat' first|refine And.intro ?_ ?_|intro _);all_goals refine ah.mk ?_)
  refine jK rfl rfl vv ?_
  refine hcall.mono ?_
  rintro e w2 ⟨rfl,hb2⟩
  have hM:=hM.call hb2
  refine ⟨_,rfl,?_⟩
  (refine ak ?_;(repeat' first|refine And.intro ?_ ?_|intro _);all_goals refine ah.mk ?_)
  ·rename_i hpx
   refine ⟨?_,hM.below⟩
   rw [nS (k:=k) xj hall (by rw [← av];exact hpx)]
  ·rename_i hpx
   exact ⟨k+1,⟨rfl,rfl,rfl,rfl,aF rfl xj,trivial⟩,⟨by omega,hM,lv xj hall hpx⟩,by omega⟩
 ·obtain rfl:k=n:=by omega
  (refine ak ?_;(repeat' first|refine And.intro ?_ ?_|intro _);all_goals refine ah.mk ?_)
  refine ⟨?_,hM.below⟩
  rw [jH (by rw [hn,List.take_length] at hall;exact hall)]
theorem sj (A:Option Addr) (n c:Nat) (L:List Int) (g:FuncId) [ab Tryz.prog g] (cap:List Value) (p:Int→Bool) (w:World) (hA:gn [] w A n 1 (L.flatMap R.cI)) (hn:n=L.length) (hb:n≤9223372036854775807)
  (hp:∀ x w1,x∈L→Below w.heap.size w w1→Calls Tryz.prog g ([Value.int .i64 x]++cap).toArray w1 fun e w'=>e=.returned (.bool (p x))∧Below w1.heap.size w1 w') :
  Calls Tryz.prog 95 #[.slice A n c,.func (.func g) #[] cap.toArray] w fun e w'=>e=.returned (.bool (L.any p))∧Below w.heap.size w w':=by
 refine aa (fn:=Tryz.f95) Tryz.func95 rfl Tryz.ntmps95 (Nat.le_of_ble_eq_true rfl) ?_
 (refine ak ?_;(repeat' first|refine And.intro ?_ ?_|intro _);all_goals refine ah.mk ?_)
 refine ar rfl rfl vv vv ?_
 refine (xB A n c L g cap p w hA hn hb hp).mono ?_
 rintro e w1 ⟨rfl,hb1⟩
 refine ⟨_,rfl,?_⟩
 (refine ak ?_;(repeat' first|refine And.intro ?_ ?_|intro _);all_goals refine ah.mk ?_)
 rw [lu]
 exact ⟨rfl,hb1⟩
theorem xC (A:Option Addr) (n c:Nat) (L:List bJ) (g:FuncId) [ab Tryz.prog g] (cap:List Value) (p:bJ→Bool) (w:World) (hA:gn [] w A n 4 (L.flatMap bD)) (hn:n=L.length) (hb:n≤9223372036854775807)
  (hp:∀ x w1,x∈L→Below w.heap.size w w1→Calls Tryz.prog g ([Value.agg (bD x).toArray]++cap).toArray w1 fun e w'=>e=.returned (.bool (p x))∧Below w1.heap.size w1 w') :
  Calls Tryz.prog 150 #[.slice A n c,.func (.func g) #[] cap.toArray] w fun e w'=>e=.returned (.int .i64 (tv p L))∧Below w.heap.size w w':=by
 have hM:=R.Own.start [] w
 refine aa (fn:=Tryz.f150) Tryz.func150 rfl Tryz.ntmps150 (Nat.le_of_ble_eq_true rfl) ?_
 (refine ak ?_;(repeat' first|refine And.intro ?_ ?_|intro _);all_goals refine ah.mk ?_)
 refine au (fun k:Nat=>[(0,.slice A n c),(1,.func (.func g) #[] cap.toArray),(4,.int .i64 0),(7,.int .i64 (n:Nat)),(8,.int .i64 (k:Nat))])
  (fun k w1=>k≤n∧R.Own [] w w1 []∧∀ x∈L.take k,p x=false) (fun k=>n-k) ⟨0,⟨rfl,rfl,rfl,rfl,rfl,trivial⟩,by omega,hM,by simp⟩ ?_
 rintro k f w1 ⟨hk,hM,hall⟩
 by_cases hlt:k<n
 ·have hx:=R.aB (L:=L) (i:=k) xj
  have hcall:=hp (nth L k) w1 hx hM.below
  (refine ak ?_;(repeat' first|refine And.intro ?_ ?_|intro _);all_goals refine ah.mk ?_)
  refine jK rfl rfl vv ?_
  refine hcall.mono ?_
  rintro e w2 ⟨rfl,hb2⟩
  have hM:=hM.call hb2
  refine ⟨_,rfl,?_⟩
  (refine ak ?_;(repeat' first|refine And.intro ?_ ?_|intro _);all_goals refine ah.mk ?_)
  ·rename_i hpx
   refine ⟨?_,hM.below⟩
   rw [nS (k:=k) xj hall (by rw [← av];exact hpx)]
  ·rename_i hpx
   exact ⟨k+1,⟨rfl,rfl,rfl,rfl,aF rfl xj,trivial⟩,⟨by omega,hM,lv xj hall hpx⟩,by omega⟩
 ·obtain rfl:k=n:=by omega
  (refine ak ?_;(repeat' first|refine And.intro ?_ ?_|intro _);all_goals refine ah.mk ?_)
  refine ⟨?_,hM.below⟩
  rw [jH (by rw [hn,List.take_length] at hall;exact hall)]
theorem sk (A:Option Addr) (n c:Nat) (L:List bJ) (g:FuncId) [ab Tryz.prog g] (cap:List Value) (p:bJ→Bool) (w:World) (hA:gn [] w A n 4 (L.flatMap bD)) (hn:n=L.length) (hb:n≤9223372036854775807)
  (hp:∀ x w1,x∈L→Below w.heap.size w w1→Calls Tryz.prog g ([Value.agg (bD x).toArray]++cap).toArray w1 fun e w'=>e=.returned (.bool (p x))∧Below w1.heap.size w1 w') :
  Calls Tryz.prog 97 #[.slice A n c,.func (.func g) #[] cap.toArray] w fun e w'=>e=.returned (.bool (L.any p))∧Below w.heap.size w w':=by
 refine aa (fn:=Tryz.f97) Tryz.func97 rfl Tryz.ntmps97 (Nat.le_of_ble_eq_true rfl) ?_
 (refine ak ?_;(repeat' first|refine And.intro ?_ ?_|intro _);all_goals refine ah.mk ?_)
 refine ar rfl rfl vv vv ?_
 refine (xC A n c L g cap p w hA hn hb hp).mono ?_
 rintro e w1 ⟨rfl,hb1⟩
 refine ⟨_,rfl,?_⟩
 (refine ak ?_;(repeat' first|refine And.intro ?_ ?_|intro _);all_goals refine ah.mk ?_)
 rw [lu]
 exact ⟨rfl,hb1⟩
theorem Bl (A:Option Addr) (n c:Nat) (L:List Sp) (g:FuncId) [ab Tryz.prog g] (cap:List Value) (p:Sp→Bool) (w:World) (hA:gn [] w A n 26 (L.flatMap bF)) (hn:n=L.length) (hb:n≤9223372036854775807)
  (hp:∀ x w1,x∈L→Below w.heap.size w w1→Calls Tryz.prog g ([Value.agg (bF x).toArray]++cap).toArray w1 fun e w'=>e=.returned (.bool (p x))∧Below w1.heap.size w1 w') :
  Calls Tryz.prog 116 #[.slice A n c,.func (.func g) #[] cap.toArray] w fun e w'=>e=.returned (.int .i64 (tv p L))∧Below w.heap.size w w':=by
 have hM:=R.Own.start [] w
 refine aa (fn:=Tryz.f116) Tryz.func116 rfl Tryz.ntmps116 (Nat.le_of_ble_eq_true rfl) ?_
 (refine ak ?_;(repeat' first|refine And.intro ?_ ?_|intro _);all_goals refine ah.mk ?_)
 refine au (fun k:Nat=>[(0,.slice A n c),(1,.func (.func g) #[] cap.toArray),(4,.int .i64 0),(7,.int .i64 (n:Nat)),(8,.int .i64 (k:Nat))])
  (fun k w1=>k≤n∧R.Own [] w w1 []∧∀ x∈L.take k,p x=false) (fun k=>n-k) ⟨0,⟨rfl,rfl,rfl,rfl,rfl,trivial⟩,by omega,hM,by simp⟩ ?_
 rintro k f w1 ⟨hk,hM,hall⟩
 by_cases hlt:k<n
 ·have hx:=R.aB (L:=L) (i:=k) xj
  have hcall:=hp (nth L k) w1 hx hM.below
  (refine ak ?_;(repeat' first|refine And.intro ?_ ?_|intro _);all_goals refine ah.mk ?_)
  refine jK rfl rfl vv ?_
  refine hcall.mono ?_
  rintro e w2 ⟨rfl,hb2⟩
  have hM:=hM.call hb2
  refine ⟨_,rfl,?_⟩
  (refine ak ?_;(repeat' first|refine And.intro ?_ ?_|intro _);all_goals refine ah.mk ?_)
  ·rename_i hpx
   refine ⟨?_,hM.below⟩
   rw [nS (k:=k) xj hall (by rw [← av];exact hpx)]
  ·rename_i hpx
   exact ⟨k+1,⟨rfl,rfl,rfl,rfl,aF rfl xj,trivial⟩,⟨by omega,hM,lv xj hall hpx⟩,by omega⟩
 ·obtain rfl:k=n:=by omega
  (refine ak ?_;(repeat' first|refine And.intro ?_ ?_|intro _);all_goals refine ah.mk ?_)
  refine ⟨?_,hM.below⟩
  rw [jH (by rw [hn,List.take_length] at hall;exact hall)]
theorem tH (A:Option Addr) (n c:Nat) (L:List Sp) (g:FuncId) [ab Tryz.prog g] (cap:List Value) (p:Sp→Bool) (w:World) (hA:gn [] w A n 26 (L.flatMap bF)) (hn:n=L.length) (hb:n≤9223372036854775807)
  (hp:∀ x w1,x∈L→Below w.heap.size w w1→Calls Tryz.prog g ([Value.agg (bF x).toArray]++cap).toArray w1 fun e w'=>e=.returned (.bool (p x))∧Below w1.heap.size w1 w') :
  Calls Tryz.prog 69 #[.slice A n c,.func (.func g) #[] cap.toArray] w fun e w'=>e=.returned (.bool (L.any p))∧Below w.heap.size w w':=by
 refine aa (fn:=Tryz.f69) Tryz.func69 rfl Tryz.ntmps69 (Nat.le_of_ble_eq_true rfl) ?_
 (refine ak ?_;(repeat' first|refine And.intro ?_ ?_|intro _);all_goals refine ah.mk ?_)
 refine ar rfl rfl vv vv ?_
 refine (Bl A n c L g cap p w hA hn hb hp).mono ?_
 rintro e w1 ⟨rfl,hb1⟩
 refine ⟨_,rfl,?_⟩
 (refine ak ?_;(repeat' first|refine And.intro ?_ ?_|intro _);all_goals refine ah.mk ?_)
 rw [lu]
 exact ⟨rfl,hb1⟩
theorem K3 (s:bJ) (w:World) (hs:aK s):Calls Tryz.prog 98 #[.agg (bD s).toArray] w fun e w'=>e=.returned (.bool false)∧Below w.heap.size w w':=by
 have hM:=R.Own.start [] w
 have j:=gj hs
 refine aa (fn:=Tryz.f98) Tryz.func98 rfl Tryz.ntmps98 (Nat.le_of_ble_eq_true rfl) ?_
 (refine ad ?_;(repeat' first|refine And.intro ?_ ?_|intro _);all_goals refine ah.mk ?_;(all_goals (try (exact ⟨rfl,R.Own.below ww⟩))))
theorem Of (A:Option Addr) (n c:Nat) (S:List bJ) (w:World) (hA:gn [] w A n 4 (S.flatMap bD)) (hn:n=S.length) (hb:n≤400) (hS:∀ s∈S,aK s):Calls Tryz.prog 58 #[.slice A n c] w fun e w'=>e=.returned (.int .i64 0)∧Below w.heap.size w w':=by
 have hM:=R.Own.start [] w
 refine aa (fn:=Tryz.f58) Tryz.func58 rfl Tryz.ntmps58 (Nat.le_of_ble_eq_true rfl) ?_
 (refine ad ?_;(repeat' first|refine And.intro ?_ ?_|intro _);all_goals refine ah.mk ?_)
 refine ar rfl rfl vv vv ?_
 refine (sk A n c S 98 [] (fun _=>false) _ (hM.gi hA) hn xj (fun s w1 hs _=>K3 s w1 (hS s hs))).mono ?_
 rintro _ w2 ⟨rfl,hb2⟩
 have hM:=R.Own.call aj hb2
 refine ⟨_,rfl,?_⟩
 rw [show S.any (fun _=>false)=false by simp]
 (refine ad ?_;(repeat' first|refine And.intro ?_ ?_|intro _);all_goals refine ah.mk ?_;(all_goals (try (exact ⟨rfl,R.Own.below ww⟩))))
instance ZK (i k:Int):bj Tryz.prog 60 #[.int .i64 i,.int .i64 k] Unit (fun _ _=>True) (fun _=>.agg (kI ⟨min i k,max i k⟩).toArray):=⟨fun _ w _=>by
 have hM:=R.Own.start [] w
 refine aa (fn:=Tryz.f60) Tryz.func60 rfl Tryz.ntmps60 (Nat.le_of_ble_eq_true rfl) ?_
 (refine ad ?_;(repeat' first|refine And.intro ?_ ?_|intro _);all_goals refine ah.mk ?_)
 refine BD rfl rfl rfl ?_
 (refine ad ?_;(repeat' first|refine And.intro ?_ ?_|intro _);all_goals refine ah.mk ?_;(all_goals (try (exact ⟨rfl,R.Own.below ww⟩))))⟩
theorem K4 (a b:Bo) (w:World):Calls Tryz.prog 102 #[.agg (Fk a).toArray,.agg (Fk b).toArray] w fun e w'=>e=.returned (.int .i64 (te (aR a.lx b.lx) (aR a.k b.k)))∧Below w.heap.size w w':=by
 have hM:=R.Own.start [] w
 refine aa (fn:=Tryz.f102) Tryz.func102 rfl Tryz.ntmps102 (Nat.le_of_ble_eq_true rfl) ?_
 (refine ad ?_;(repeat' first|refine And.intro ?_ ?_|intro _);all_goals refine ah.mk ?_)
 refine bB [(0,false),(1,false),(2,false),(3,false),(4,false),(5,false),(7,false),(8,false),(9,false),(10,false),(6,true),(11,true),(12,true),(13,true),(14,false)] R.mixed wx aj ?_
 (refine ad ?_;(repeat' first|refine And.intro ?_ ?_|intro _);all_goals refine ah.mk ?_)
 rename_i hM
 refine aA rfl rfl vv ?_
 refine (we _ _ _ _ _ (R.Own.wW hM (.head _))).mono ?_
 rintro e w' ⟨rfl,rfl⟩
 refine ⟨_,rfl,?_⟩
 (refine ad ?_;(repeat' first|refine And.intro ?_ ?_|intro _);all_goals refine ah.mk ?_;(all_goals (try (exact ⟨rfl,R.Own.below ww⟩))))
theorem K5 (a b:P2) (w:World):Calls Tryz.prog 62 #[.agg (kI a).toArray,.agg (kI b).toArray] w fun e w'=>e=.returned (.int .i64 (te (aR a.a b.a) (aR a.b b.b)))∧Below w.heap.size w w':=by
 have hM:=R.Own.start [] w
 refine aa (fn:=Tryz.f62) Tryz.func62 rfl Tryz.ntmps62 (Nat.le_of_ble_eq_true rfl) ?_
 (refine ad ?_;(repeat' first|refine And.intro ?_ ?_|intro _);all_goals refine ah.mk ?_)
 refine bB [(0,false),(1,false),(2,false),(3,false),(5,false),(6,false),(7,false),(8,false),(4,true),(9,true),(10,true),(11,true),(12,false)] R.mixed wx aj ?_
 (refine ad ?_;(repeat' first|refine And.intro ?_ ?_|intro _);all_goals refine ah.mk ?_)
 rename_i hM
 refine aA rfl rfl vv ?_
 refine (we _ _ _ _ _ (R.Own.wW hM (.head _))).mono ?_
 rintro e w' ⟨rfl,rfl⟩
 refine ⟨_,rfl,?_⟩
 (refine ad ?_;(repeat' first|refine And.intro ?_ ?_|intro _);all_goals refine ah.mk ?_;(all_goals (try (exact ⟨rfl,R.Own.below ww⟩))))
def QQ (S:List bJ) (k:Nat):List Bo:=(List.range k).map fun i=>oQ (nth S i) i
theorem Og (S:List bJ) (k:Nat):QQ S (k+1)=QQ S k++[oQ (nth S k) k]:=by
 unfold QQ
 rw [List.range_succ,List.map_append]
 rfl
theorem TE (S:List bJ) (k:Nat):(QQ S k).length=k:=by simp [QQ]
theorem AG {a b:Bo}:te (aR a.lx b.lx) (aR a.k b.k)<0↔a.lx<b.lx∨a.lx=b.lx∧a.k<b.k:=by
 rw [rl,cC,kz,cC]
set_option maxHeartbeats 4000000 in
theorem Oh (A:Option Addr) (n c:Nat) (S:List bJ) (w:World) (hA:gn [] w A n 4 (S.flatMap bD)) (hn:n=S.length) (hb:n≤400) (hS:∀ s∈S,aK s):Calls Tryz.prog 59 #[.slice A n c] w fun e w'=>∃ B c2,∃ D:List Bo,e=.returned (.slice B n c2)∧D.Perm (nR S)∧(D.Pairwise fun a b=>a.lx≤b.lx)∧iV w w' B n c2 146 5 (D.flatMap Fk):=by
 have hM:=R.Own.start [] w
 refine aa (fn:=Tryz.f59) Tryz.func59 rfl Tryz.ntmps59 (Nat.le_of_ble_eq_true rfl) ?_
 (refine ad ?_;(repeat' first|refine And.intro ?_ ?_|intro _);all_goals refine ah.mk ?_)
 refine au (fun x:Nat×Option Addr×Nat=>[(2,.slice none 0 0),(3,.slice x.2.1 (QQ S x.1).length x.2.2),(8,.slice A n c),(9,.int .i64 (n:Nat)),(10,.int .i64 (x.1:Nat))])
  (fun x w1=>x.1≤n∧R.Own [] w w1 [.row x.2.1 (QQ S x.1).length x.2.2 146 5 ((QQ S x.1).flatMap Fk)]) (fun x=>n-x.1)
  ⟨(0,none,0),⟨rfl,rfl,rfl,rfl,rfl,trivial⟩,Nat.zero_le _,R.Own.nil aj _ _⟩ ?_
 clear hM
 rintro ⟨k,B,c2⟩ f w1 ⟨hk,hM⟩
 dsimp only at hk hM ⊢
 have hlen:=TE S k
 by_cases hlt:k<n
 ·have hp:=hS (nth S k) (R.aB xj)
  have hsn:=Og S k
  generalize QQ S k=L at hM hsn hlen ⊢
  (refine ad ?_;(repeat' first|refine And.intro ?_ ?_|intro _);all_goals refine ah.mk ?_)
  rename_i gh _ _ gl _ _ _ _ _ _ _ _ A7 c7 _ hM
  have hM:R.Own [] w _ (.row A7 1 c7 146 5 (Fk (oQ (nth S k) k))::_):=hM
  (refine ad ?_;(repeat' first|refine And.intro ?_ ?_|intro _);all_goals refine ah.mk ?_)
  rename_i A8 c8 _ hM
  refine ⟨(k+1,A8,c8),⟨rfl,qD rfl (by dsimp only;rw [hsn,List.length_append];rfl),rfl,rfl,aF rfl (by dsimp only;omega),trivial⟩,⟨by dsimp only;omega,?_⟩,by dsimp only;omega⟩
  dsimp only
  rw [hsn,List.length_append]
  exact R.Own.sub (pk (r:=.row A8 _ _ _ _ _) hM) (List.Sublist.cons_cons _ (List.nil_sublist _))
 ·obtain rfl:k=n:=by omega
  have hcmp:∀ a b:Bo,True:=fun _ _=>trivial
  have hbl:QQ S k=nR S:=by rw [hn];rfl
  rw [hbl] at hM hlen ⊢
  generalize nR S=L at hM hlen ⊢
  (refine ad ?_;(repeat' first|refine And.intro ?_ ?_|intro _);all_goals refine ah.mk ?_)
  refine ar rfl rfl vv vv ?_
  refine (UO (fun _=>True) (fun a b=>te (aR a.lx b.lx) (aR a.k b.k)) (fun x _=>by rw [AG];omega) (fun x y z _ _ _ h1 h2=>by rw [AG] at *;omega) (fun x y z _ _ _ h1 h2=>by rw [AG] at *;omega) 102 [] L rfl (fun _ _=>trivial) hM xj (fun w' hO x y _ _=>K4 x y w')).mono ?_
  rintro _ w3 ⟨rfl,D,h1,h2,hM⟩
  refine ⟨_,rfl,?_⟩
  (refine ad ?_;(repeat' first|refine And.intro ?_ ?_|intro _);all_goals refine ah.mk ?_)
  refine ⟨B,c2,D,by rw [hlen],h1,h2.imp fun {a b} hab=>?_,?_⟩
  ·rw [AG] at hab
   omega
  ·rw [hlen] at hM
   exact R.Own.gives hM
theorem t8 {F:List Nat} {W w:World} {l:List bX} {A:Option Addr} {n c sz:Nat} {e:TypeId} {cs:List Value} (h:R.Own F W w l) (hm:.row A n c e sz cs∈l):n≤c:=by
 have hr:w.ownsRow 0 e sz (.slice A n c) n cs:=h.ok _ hm
 rcases hr.2 with ⟨hv,hn⟩|⟨g,cap,cur,hv,_,_,hc,_⟩
 ·omega
 ·injection hv with _ _ e3
  omega
theorem j7 {A:Option Addr} {m lo sz j off:Nat} (h:m≠lo):R.ptr (R.mH A m lo sz) j sz off=R.ptr A (lo+j) sz off:=by
 unfold R.mH
 rw [if_neg h]
 unfold R.ptr
 cases A with
 | none=>rfl
 | some a =>
  simp only [Option.map_some]
  rw [show (a.add (lo*sz)).add (j*sz+off)=a.add ((lo+j)*sz+off) by rw [Addr.add_add,Nat.add_mul,Nat.add_assoc]]
theorem sc {A:Option Addr} {m lo sz:Nat} (h:∃ a,A=some a):∃ a,R.mH A m lo sz=some a:=by
 obtain ⟨a,rfl⟩:=h
 unfold R.mH
 split
 ·exact ⟨_,rfl⟩
 ·exact ⟨_,rfl⟩
theorem K6 {i j m:Nat} (hi:i≤m) (hj:j≤m) (hm:m≤400):i*m+j≤160400:=by
 have h:=Nat.mul_le_mul hi (Nat.le_refl m)
 have h2:=Nat.mul_le_mul hm hm
 omega
set_option maxHeartbeats 4000000 in
theorem Oi (A:Option Addr) (n c:Nat) (S:List bJ) (w:World) (hA:gn [] w A n 4 (S.flatMap bD)) (hn:n=S.length) (hb:n≤400) (hS:∀ s∈S,aK s):Calls Tryz.prog 34 #[.slice A n c] w fun e w'=>∃ B c2,∃ L:List P2,e=.returned (.tuple #[.slice B L.length c2,.int .i64 0])∧L.length≤n*n∧B4 S L∧iV w w' B L.length c2 104 2 (L.flatMap kI):=by
 have hM:=R.Own.start [] w
 refine aa (fn:=Tryz.f34) Tryz.func34 rfl Tryz.ntmps34 (Nat.le_of_ble_eq_true rfl) ?_
 (refine ad ?_;(repeat' first|refine And.intro ?_ ?_|intro _);all_goals refine ah.mk ?_)
 refine aA rfl rfl vv ?_
 refine (Of A n c S _ (hM.gi hA) hn hb hS).mono ?_
 rintro _ w2 ⟨rfl,hb2⟩
 have hM:=R.Own.call aj hb2
 refine ⟨_,rfl,?_⟩
 (refine ad ?_;(repeat' first|refine And.intro ?_ ?_|intro _);all_goals refine ah.mk ?_)
 refine aA rfl rfl vv ?_
 refine (Oh A n c S _ (hM.gi hA) hn hb hS).mono ?_
 rintro _ w3 ⟨B,c2,D,rfl,hp,hs,hG⟩
 have hM:=R.Own.pv aj hG
 clear hG
 have hD:D.length=n:=by rw [hp.length_eq];simp [nR,hn]
 have hend:=fun L=>QE (L:=L) hp hs
 refine ⟨_,rfl,?_⟩
 (refine ad ?_;(repeat' first|refine And.intro ?_ ?_|intro _);all_goals refine ah.mk ?_)
 refine au (fun x:Nat×Option Addr×Nat×List P2=>[(2,.slice none 0 0),(3,.int .i64 0),(5,.slice x.2.1 x.2.2.2.length x.2.2.1),(6,.slice B n c2),(18,.slice B n c2),(19,.int .i64 (n:Nat)),(20,.int .i64 (x.1:Nat))])
  (fun x w1=>x.1≤n∧R.Own [] w w1 [.row x.2.1 x.2.2.2.length x.2.2.1 104 2 (x.2.2.2.flatMap kI),.row B n c2 146 5 (D.flatMap Fk)]∧lr D x.1 (x.1+1) x.2.2.2∧x.2.2.2.length≤x.1*n) (fun x=>n-x.1)
  ⟨(0,none,0,[]),⟨rfl,rfl,rfl,rfl,rfl,rfl,rfl,trivial⟩,Nat.zero_le _,R.Own.nil hM _ _,Fg D,Nat.zero_le _⟩ ?_
 clear hM
 rintro ⟨i,C,cc,L⟩ f w4 ⟨hi,hM,hsw,hl⟩
 dsimp only at hi hM hsw hl ⊢
 by_cases hlt:i<n
 ·have hBs:∃ a,B=some a:=(R.Own.rd hM (.tail _ (.head _))).some_ xj vj
  have hc2:n≤c2:=t8 hM (.tail _ (.head _))
  (refine ad ?_;(repeat' first|refine And.intro ?_ ?_|intro _);all_goals refine ah.mk ?_)
  rename_i g _ _ _ hM
  have e:(((i:Nat):Int)+1).toNat=i+1:=by omega
  simp only [e]
  have hcs:∃ a,R.mH B c2 (i+1) 5=some a:=sc hBs
  refine au (fun x:Nat×Option Addr×Nat×List P2=>[(2,.slice none 0 0),(3,.int .i64 0),(5,.slice x.2.1 x.2.2.2.length x.2.2.1),(6,.slice B n c2),(8,.pointer (some ⟨g,0,none⟩)),(18,.slice B n c2),(19,.int .i64 (n:Nat)),(20,.int .i64 (i:Nat)),(28,.slice (R.mH B c2 (i+1) 5) (n-(i+1)) (c2-(i+1))),(29,.int .i64 ((n-(i+1):Nat):Int)),(30,.int .i64 (x.1:Nat))])
   (fun x w1=>x.1≤n-(i+1)∧R.Own [] w w1 [.blk g 146 (Fk (nth D i)),.row x.2.1 x.2.2.2.length x.2.2.1 104 2 (x.2.2.2.flatMap kI),.row B n c2 146 5 (D.flatMap Fk)]∧lr D i (i+1+x.1) x.2.2.2∧x.2.2.2.length≤i*n+x.1) (fun x=>n-(i+1)-x.1)
   ⟨(0,C,cc,L),⟨rfl,rfl,rfl,rfl,rfl,rfl,rfl,rfl,rfl,rfl,rfl,trivial⟩,Nat.zero_le _,hM,hsw,hl⟩ ?_
  clear hM hsw hl
  rintro ⟨j,C,cc,L⟩ f w5 ⟨hj,hM,hsw,hl⟩
  dsimp only at hj hM hsw hl ⊢
  have hmm:=K6 (i:=i) (j:=j) (m:=n) xj xj hb
  by_cases hjt:j<n-(i+1)
  ·(refine ad ?_;(repeat' first|refine And.intro ?_ ?_|intro _);all_goals refine ah.mk ?_)
   rw [j7 (by omega)]
   (refine ad ?_;(repeat' first|refine And.intro ?_ ?_|intro _);all_goals refine ah.mk ?_)
   ·rename_i hh
    exact ⟨(i+1,C,cc,L),⟨rfl,rfl,rfl,rfl,rfl,rfl,aF rfl (by dsimp only;omega),trivial⟩,⟨by dsimp only;omega,R.Own.tl (R.Own.tl aj),wO hsw hs (fun _=>hh),by dsimp only;rw [Nat.add_mul];omega⟩,by dsimp only;omega⟩
   ·rename_i hz hy _ _ _ _ C2 cc2 _ hM
    exact ⟨(j+1,C2,cc2,L++[ZY (nth D i) (nth D (i+1+j))]),⟨rfl,rfl,qD rfl (by dsimp only;rw [List.length_append];rfl),rfl,rfl,rfl,rfl,rfl,rfl,rfl,aF rfl (by dsimp only;omega),trivial⟩,⟨by dsimp only;omega,by dsimp only;rw [List.length_append];exact R.Own.tl hM,by dsimp only;rw [← Nat.add_assoc];exact LQ hsw xj xj ⟨by omega,by assumption,by assumption⟩,by dsimp only;rw [List.length_append];simp only [List.length_cons,List.length_nil];omega⟩,by dsimp only;omega⟩
   all_goals
    refine ⟨(j+1,C,cc,L),⟨rfl,rfl,rfl,rfl,rfl,rfl,rfl,rfl,rfl,rfl,aF rfl (by dsimp only;omega),trivial⟩,⟨by dsimp only;omega,R.Own.tl aj,?_,by dsimp only;omega⟩,by dsimp only;omega⟩
    dsimp only
    rw [← Nat.add_assoc]
    refine QD hsw fun h=>?_
    have h1:=h.2.1
    have h2:=h.2.2
    contradiction
  ·obtain rfl:j=n-(i+1):=by omega
   (refine ad ?_;(repeat' first|refine And.intro ?_ ?_|intro _);all_goals refine ah.mk ?_)
   exact ⟨(i+1,C,cc,L),⟨rfl,rfl,rfl,rfl,rfl,rfl,aF rfl (by dsimp only;omega),trivial⟩,⟨by dsimp only;omega,R.Own.tl hM,wO hsw hs (fun h=>absurd h xj),by dsimp only;rw [Nat.add_mul];omega⟩,by dsimp only;omega⟩
 ·obtain rfl:i=n:=by omega
  (refine ad ?_;(repeat' first|refine And.intro ?_ ?_|intro _);all_goals refine ah.mk ?_)
  refine ar rfl rfl vv vv ?_
  refine (UP (fun _=>True) (fun a b=>te (aR a.a b.a) (aR a.b b.b)) (fun x _=>by rw [rl,cC,kz,cC];omega) (fun x y z _ _ _ h1 h2=>by rw [rl,cC,kz,cC] at *;omega) (fun x y z _ _ _ h1 h2=>by rw [rl,cC,kz,cC] at *;omega) 62 [] L rfl (fun _ _=>trivial) hM (by have:=Nat.mul_le_mul hb hb;omega) (fun w' hO x y _ _=>K5 x y w')).mono ?_
  rintro _ w6 ⟨rfl,L',h1,h2,hM⟩
  refine ⟨_,rfl,?_⟩
  (refine ad ?_;(repeat' first|refine And.intro ?_ ?_|intro _);all_goals refine ah.mk ?_)
  rw [← hD] at hsw
  refine ⟨C,cc,L',by rw [h1.length_eq],by rw [h1.length_eq];exact hl,fun x=>?_,?_⟩
  ·rw [h1.mem_iff]
   exact hend L hsw x
  ·rw [h1.length_eq]
   exact R.Own.gives hM
end Go.Proofs.YtlmabdegojeheaaGreatDoor
