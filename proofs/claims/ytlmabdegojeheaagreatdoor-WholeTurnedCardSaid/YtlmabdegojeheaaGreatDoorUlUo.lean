/- WholeTurned: parts of its proof (Ul Zj Un Uo). -/
import Derived.Test.YtlmabdegojeheaaGreatDoorUgUk
import Derived.Test.YtlmabdegojeheaaGreatDoorZiSk
namespace Go.Proofs.YtlmabdegojeheaaGreatDoor
open R Go.RowKit
section
structure iX where
 aep:Int
 place:Int
 g:bJ
 w:Int
 o:Bool
 deriving DecidableEq,Inhabited
def dz (x:iX):List Value:=[.int .i64 x.aep,.int .i64 x.place,.int .i64 x.g.a.x,.int .i64 x.g.a.y,.int .i64 x.g.b.x,.int .i64 x.g.b.y,.int .i64 x.w,.bool x.o]
instance YJ:cA dz 8:=⟨fun _=>rfl,by simp [dz,Value.oneCell'],by decide⟩
instance YK:iU Tryz.prog 58 iX dz 8:={}
def tj (r:Rw):List Value:=[.int .i64 (r.key.1:Nat),.int .i64 (r.key.2:Nat),.bool r.fw,.int .i64 r.w,.bool r.o]
instance acW:cA tj 5:=⟨fun _=>rfl,by simp [tj,Value.oneCell'],by decide⟩
instance acX:iU Tryz.prog 73 Rw tj 5:={}
def wv (L:List Ct) (k:Nat):List P2:=(L.take k).map tJ
theorem Ls {L:List Ct} {k:Nat} (hk:k<L.length):wv L (k+1)=wv L k++[tJ (nth L k)]:=by
 unfold wv
 rw [cd hk,List.map_append]
 rfl
set_option maxHeartbeats 4000000 in
theorem Pp (A:Option Addr) (n c:Nat) (L:List Ct) (w:World) (hA:gn [] w A n 28 (L.flatMap eO)) (hn:n=L.length) (hb:n≤1000000):Calls Tryz.prog 40 #[.slice A n c] w fun e w'=>∃ B c2,e=.returned (.slice B n c2)∧iV w w' B n c2 104 2 ((L.map tJ).flatMap kI):=by
 have hM:=R.Own.start [] w
 refine aa (fn:=Tryz.f40) Tryz.func40 rfl Tryz.ntmps40 (Nat.le_of_ble_eq_true rfl) ?_
 (refine ad ?_;(repeat' first|refine And.intro ?_ ?_|intro _);all_goals refine ah.mk ?_)
 refine au (fun x:Nat×Option Addr×Nat=>[(2,.slice none 0 0),(3,.slice x.2.1 (wv L x.1).length x.2.2),(6,.slice A n c),(7,.int .i64 (n:Nat)),(8,.int .i64 (x.1:Nat))])
  (fun x w1=>x.1≤n∧R.Own [] w w1 [.row x.2.1 (wv L x.1).length x.2.2 104 2 ((wv L x.1).flatMap kI)]) (fun x=>n-x.1)
  ⟨(0,none,0),⟨rfl,rfl,rfl,rfl,rfl,trivial⟩,Nat.zero_le _,R.Own.nil hM _ _⟩ ?_
 clear hM
 rintro ⟨k,B,c2⟩ f w1 ⟨hk,hM⟩
 dsimp only at hk hM ⊢
 have hlen:(wv L k).length≤n:=by unfold wv;rw [List.length_map,List.length_take];omega
 by_cases hlt:k<n
 ·have hsn:=Ls (L:=L) (k:=k) xj
  generalize wv L k=M at hM hsn hlen ⊢
  (refine ad ?_;(repeat' first|refine And.intro ?_ ?_|intro _);all_goals refine ah.mk ?_)
  refine BD rfl rfl rfl ?_
  (refine ad ?_;(repeat' first|refine And.intro ?_ ?_|intro _);all_goals refine ah.mk ?_)
  rename_i A7 c7 w2 hM
  refine ⟨(k+1,A7,c7),⟨rfl,qD rfl (by dsimp only;rw [hsn,List.length_append];rfl),rfl,rfl,aF rfl (by dsimp only;omega),trivial⟩,⟨by dsimp only;omega,?_⟩,by dsimp only;omega⟩
  dsimp only
  rw [hsn,List.length_append]
  exact R.Own.tl hM
 ·obtain rfl:k=n:=by omega
  (refine ad ?_;(repeat' first|refine And.intro ?_ ?_|intro _);all_goals refine ah.mk ?_)
  have e:wv L k=L.map tJ:=by unfold wv;rw [hn,List.take_length]
  rw [e] at hM ⊢
  rw [List.length_map,← hn] at hM ⊢
  exact ⟨B,c2,rfl,hM.gives⟩
def runK (x:iX) (C:List Ct) (nodes:List Sp) (k:Nat):List Rw:=(List.range k).map fun j=>⟨mf nodes (nth C j).s,mf nodes (nth C (j+1)).s,e9 x.w (C.map tJ) j,x.o⟩
theorem Lt (x:iX) (C:List Ct) (nodes:List Sp) (k:Nat):runK x C nodes (k+1)=runK x C nodes k++[⟨mf nodes (nth C k).s,mf nodes (nth C (k+1)).s,e9 x.w (C.map tJ) k,x.o⟩]:=by
 unfold runK
 rw [List.range_succ,List.map_append]
 rfl
theorem YL (i k:Nat) (w:Int) (o:Bool):[.int .i64 (min ((some (i:Int)).getD 0) ((some (k:Int)).getD 0)),.int .i64 (max ((some (i:Int)).getD 0) ((some (k:Int)).getD 0)),.bool (decide ((some (i:Int)).getD 0<(some (k:Int)).getD 0)),.int .i64 w,.bool o]=tj ⟨i,k,w,o⟩:=by
 have e1:min (i:Int) (k:Int)=((min i k:Nat):Int):=by omega
 have e2:max (i:Int) (k:Int)=((max i k:Nat):Int):=by omega
 have e3:decide ((i:Int)<(k:Int))=decide (i<k):=decide_eq_decide.2 xj
 show [Value.int .i64 (min (i:Int) (k:Int)),.int .i64 (max (i:Int) (k:Int)),.bool (decide ((i:Int)<(k:Int))),.int .i64 w,.bool o]=_
 rw [e1,e2,e3]
 rfl
theorem D8 (x:Ct):((eO x).drop (0+2)).take 26=bF x.s:=by
 have h:(bF x.s).length=26:=cA.len _
 show (bF x.s).take 26=bF x.s
 exact List.take_of_length_le xj
attribute [local irreducible] Rd gn bF LY e9 eN mf aq oV
set_option maxHeartbeats 4000000 in
theorem UA (x:iX) (A:Option Addr) (n c b:Nat) (C:List Ct) (nodes:List Sp) (es:Array MapEntry) (clk:Nat) (w:World) (hb:w.heap[b]?=some (.map es clk)) (hS:jF bF vI es clk (LY nodes nodes.length)) (hnd:nodes.Nodup) (hin:∀ c∈C,c.s∈nodes)
  (hA:gn [] w A n 28 (C.flatMap eO)) (hn:n=C.length) (hn2:n≤802) (hC:∀ c∈C,O9 c) (hP:oV (C.map tJ)) (hw:xE x.w=true) :
  Calls Tryz.prog 19 #[.agg (dz x).toArray,.slice A n c,.map (some b)] w fun e w'=>∃ B c2,e=.returned (.slice B (n-1) c2)∧iV w w' B (n-1) c2 73 5 ((runK x C nodes (n-1)).flatMap tj):=by
 have hM:=R.Own.start [] w
 have hvr:=Hq hw
 have hlb:b<w.heap.size:=(Array.getElem?_eq_some_iff.1 hb).1
 have hmap:∀ {w' l},R.Own [] w w' l→w'.heap[b]?=some (.map es clk):=fun h=>(h.kept b hlb (by simp)).trans hb
 refine aa (fn:=Tryz.f19) Tryz.func19 rfl Tryz.ntmps19 (Nat.le_of_ble_eq_true rfl) ?_
 (refine ad ?_;(repeat' first|refine And.intro ?_ ?_|intro _);all_goals refine ah.mk ?_)
 refine iW [(0,false),(1,false),(2,false),(3,true),(4,true),(5,false),(6,false),(7,false),(8,false),(9,false)] R.mixed wx aj ?_
 (refine ad ?_;(repeat' first|refine And.intro ?_ ?_|intro _);all_goals refine ah.mk ?_)
 rename_i hM
 refine aA rfl rfl vv ?_
 refine (Pp A n c C _ (hM.gi hA) hn xj).mono ?_
 rintro _ w2 ⟨P,pc,rfl,hG⟩
 have hM:=R.Own.pv hM hG
 clear hG
 have hcl:(C.map tJ).length=n:=by rw [List.length_map,hn]
 refine ⟨_,rfl,R.Own.tl hM,?_⟩
 (refine ad ?_;(repeat' first|refine And.intro ?_ ?_|intro _);all_goals refine ah.mk ?_)
 have hIn:∀ q∈C.map tJ,ao q.a∧ao q.b:=fun q hq=>by
  obtain ⟨y,hy,rfl⟩:=List.mem_map.1 hq
  obtain ⟨y1,y2,y3,y4⟩:=hC y hy
  exact ⟨⟨by show _≤y.n;omega,by show y.n≤_;omega⟩,⟨by show _≤y.d;omega,by show y.d≤_;omega⟩⟩
 refine ar rfl rfl vv vv ?_
 refine (D7 x.w ⟨by omega,by omega⟩ P n pc (C.map tJ) _ (R.Own.wW hM (.head _)) hcl.symm (t8 hM (.head _)) xj hIn).mono ?_
 rintro _ w3 ⟨Q,qc,rfl,hG⟩
 have hpl:kg x.w (C.map tJ)=eN x.w (C.map tJ):=by unfold kg;rw [hw,Jz hP];rfl
 have hpn:(eN x.w (C.map tJ)).length=n-1:=by unfold eN;rw [List.length_map,List.length_range,hcl]
 rw [hpl,hpn] at hG ⊢
 have hM:=R.Own.pv hM hG
 clear hG
 first
  | refine ⟨_,rfl,R.Own.tl (R.Own.tl hM),?_⟩
  | refine ⟨_,rfl,?_⟩
 (refine ad ?_;(repeat' first|refine And.intro ?_ ?_|intro _);all_goals refine ah.mk ?_)
 rename_i gS _ _ _ _ _
 have hpw:∀ k,k<n-1→nth (eN x.w (C.map tJ)) k=e9 x.w (C.map tJ) k:=fun k hk=>by
  unfold eN
  rw [av (by rw [List.length_map,List.length_range];omega),List.getElem_map,List.getElem_range]
 have hRl:∀ k,(runK x C nodes k).length=k:=fun k=>by simp [runK]
 refine au (fun y:Nat×Option Addr×Nat=>[(1,.slice A n c),(2,.map (some b)),(3,.pointer (some ⟨gS,0,none⟩)),(6,.slice none 0 0),(7,.slice y.2.1 (runK x C nodes y.1).length y.2.2),(22,.slice Q (n-1) qc),(23,.int .i64 ((n-1:Nat):Int)),(24,.int .i64 (y.1:Nat))])
  (fun y w1=>y.1≤n-1∧R.Own [] w w1 [.row y.2.1 (runK x C nodes y.1).length y.2.2 73 5 ((runK x C nodes y.1).flatMap tj),.row Q (n-1) qc 3 1 ((eN x.w (C.map tJ)).flatMap R.cI),.row P n pc 104 2 ((C.map tJ).flatMap kI),.blk gS 58 (dz x)]) (fun y=>n-1-y.1)
  ⟨(0,none,0),⟨rfl,rfl,rfl,rfl,rfl,rfl,rfl,rfl,trivial⟩,Nat.zero_le _,R.Own.nil hM _ _⟩ ?_
 clear hM
 rintro ⟨k,B,c2⟩ f w4 ⟨hk,hM⟩
 dsimp only at hk hM ⊢
 by_cases hkt:k<n-1
 ·have e1:=hpw k hkt
  have hsn:=Lt x C nodes k
  have hrl:=hRl k
  have i1:=hin _ (R.aB (L:=C) (i:=k) xj)
  have i2:=hin _ (R.aB (L:=C) (i:=k+1) xj)
  have a1:=Jj hnd i1
  have a2:=Jj hnd i2
  have u1:=kX i1
  have u2:=kX i2
  generalize runK x C nodes k=M at hM hsn hrl ⊢
  have hAs:∃ a,A=some a:=(R.Own.Gn hM hA).some_ xj vj
  clear hpl hIn hRl hpw hcl hP hw hnd
  (refine ad ?_;(repeat' first|refine And.intro ?_ ?_|intro _);all_goals refine ah.mk ?_)
  rename_i hM
  refine oq (enc:=eO) (L:=C) (m:=k) (q:=26) rfl rfl (R.Own.Gn hM hA) xj (D8 _) (cA.len _) ?_
  refine ⟨rfl,?_⟩
  (refine ad ?_;(repeat' first|refine And.intro ?_ ?_|intro _);all_goals refine ah.mk ?_)
  refine Bq (encK:=bF) (encV:=vI) (k:=(nth C k).s) rfl rfl rfl (hmap hM) hS ?_
  rw [a1]
  refine ⟨rfl,?_⟩
  (refine ad ?_;(repeat' first|refine And.intro ?_ ?_|intro _);all_goals refine ah.mk ?_)
  refine oq (enc:=eO) (L:=C) (m:=k+1) (q:=26) rfl rfl (R.Own.Gn hM hA) xj (D8 _) (cA.len _) ?_
  refine ⟨rfl,?_⟩
  (refine ad ?_;(repeat' first|refine And.intro ?_ ?_|intro _);all_goals refine ah.mk ?_)
  refine Bq (encK:=bF) (encV:=vI) (k:=(nth C (k+1)).s) rfl rfl rfl (hmap hM) hS ?_
  rw [a2]
  refine ⟨rfl,?_⟩
  (refine ad ?_;(repeat' first|refine And.intro ?_ ?_|intro _);all_goals refine ah.mk ?_)
  rename_i A7 c7 w5 hM
  rw [YL,e1] at hM
  (refine ad ?_;(repeat' first|refine And.intro ?_ ?_|intro _);all_goals refine ah.mk ?_)
  rename_i A8 c8 w6 hM
  refine ⟨(k+1,A8,c8),⟨rfl,rfl,rfl,rfl,qD rfl (by dsimp only;rw [hsn,List.length_append];rfl),rfl,rfl,aF rfl (by dsimp only;omega),trivial⟩,⟨by dsimp only;omega,?_⟩,by dsimp only;omega⟩
  dsimp only
  rw [hsn,List.length_append]
  exact hM
 ·obtain rfl:k=n-1:=by omega
  (refine ad ?_;(repeat' first|refine And.intro ?_ ?_|intro _);all_goals refine ah.mk ?_)
  rw [hRl] at hM ⊢
  exact ⟨B,c2,rfl,hM.gives⟩
end
def fE (o:Option Ed) (r:Rw):Ed :=
 let e:=o.getD ⟨(r.key.1:Nat),(r.key.2:Nat),r.w,false,false⟩
 ⟨e.a,e.b,min e.w r.w,e.f||(r.fw||!r.o),e.k||(!r.fw||!r.o)⟩
theorem wR (R:List Rw) (r:Rw) (k:Nat×Nat):E5 (R++[r]) k=E5 R k++(if r.key=k then [r] else []):=by
 unfold E5
 rw [List.filter_append]
 congr 1
 by_cases h:r.key=k
 ·simp [h]
 ·simp [h]
theorem HQ {R:List Rw} {r:Rw} {k:Nat×Nat} (h:r.key≠k):aP (R++[r]) k=aP R k:=by
 unfold aP
 rw [wR,if_neg h,List.append_nil]
theorem QF {R:List Rw} {r:Rw} (h:∀ s∈R,s.key≠r.key):aP (R++[r]) r.key=fE none r:=by
 unfold aP
 rw [wR,if_pos rfl]
 have e:E5 R r.key=[]:=by
  unfold E5
  exact List.filter_eq_nil_iff.2 fun s hs hc=>h s hs (of_decide_eq_true hc)
 rw [e,List.nil_append]
 unfold JL fE BS
 simp
theorem LS {Q:List Rw} (r:Rw) (h:Q≠[]):BS (Q++[r])=min (BS Q) r.w:=by
 cases Q with
 | nil=>exact absurd rfl h
 | cons a Q =>
  unfold BS
  simp
theorem QG {R:List Rw} {r:Rw} (h:∃ s∈R,s.key=r.key):aP (R++[r]) r.key=fE (some (aP R r.key)) r:=by
 unfold aP
 rw [wR,if_pos rfl]
 have e:E5 R r.key≠[]:=by
  obtain ⟨s,hs,hk⟩:=h
  have:s∈E5 R r.key:=List.mem_filter.2 ⟨hs,decide_eq_true hk⟩
  intro e
  rw [e] at this
  cases this
 generalize E5 R r.key=Q at e
 unfold JL fE
 rw [LS r e]
 simp
def wS (R:List Rw) (k:Nat×Nat):Option Ed:=if ∃ r∈R,r.key=k then some (aP R k) else none
theorem QH (k:Nat×Nat):wS [] k=none:=by
 unfold wS
 rw [if_neg]
 rintro ⟨r,hr,_⟩
 cases hr
theorem LU (R:List Rw) (r:Rw):wS (R++[r]) r.key=some (fE (wS R r.key) r):=by
 unfold wS
 rw [if_pos ⟨r,by simp,rfl⟩]
 by_cases h:∃ s∈R,s.key=r.key
 ·rw [if_pos h,QG h]
 ·rw [if_neg h,QF fun s hs hk=>h ⟨s,hs,hk⟩]
theorem HS {R:List Rw} {r:Rw} {k:Nat×Nat} (h:r.key≠k):wS (R++[r]) k=wS R k:=by
 unfold wS
 rw [HQ h]
 have e:(∃ s∈R++[r],s.key=k)↔∃ s∈R,s.key=k:=by
  constructor
  ·rintro ⟨s,hs,hk⟩
   rcases List.mem_append.1 hs with hs|hs
   ·exact ⟨s,hs,hk⟩
   ·rw [List.mem_singleton] at hs
    subst hs
    exact absurd hk h
  ·rintro ⟨s,hs,hk⟩
   exact ⟨s,List.mem_append_left _ hs,hk⟩
 by_cases c:∃ s∈R,s.key=k
 ·rw [if_pos c,if_pos (e.2 c)]
 ·rw [if_neg c,if_neg fun c'=>c (e.1 c')]
theorem dn (R:List Rw) (k:Nat×Nat):(aP R k).a=(k.1:Nat)∧(aP R k).b=(k.2:Nat):=⟨rfl,rfl⟩
theorem QI {R:List Rw} {K:List (Nat×Nat)} (hnd:K.Nodup) (hm:∀ k,k∈K↔∃ r∈R,r.key=k):ZX R (K.map (aP R)) where
 nd:=List.pairwise_map.2 (hnd.imp fun {a b} hab e=>hab (by
  have e1:=congrArg Ed.a e
  have e2:=congrArg Ed.b e
  rw [(dn R a).1,(dn R b).1] at e1
  rw [(dn R a).2,(dn R b).2] at e2
  exact Prod.ext xj xj))
 mem:=fun e=>by
  rw [List.mem_map]
  constructor
  ·rintro ⟨k,hk,rfl⟩
   obtain ⟨r,hr,rfl⟩:=(hm k).1 hk
   exact ⟨r,hr,rfl⟩
  ·rintro ⟨r,hr,rfl⟩
   exact ⟨r.key,(hm _).2 ⟨r,hr,rfl⟩,rfl⟩
theorem Vn {lo hi:Int}:∀ {Q:List Rw},Q≠[]→(∀ r∈Q,lo≤r.w∧r.w≤hi)→lo≤BS Q∧BS Q≤hi
 | [],h,_=>absurd rfl h
 | a::Q,_,hq=>by
  have key:∀ (Q:List Rw) (m:Int),(lo≤m∧m≤hi)→(∀ r∈Q,lo≤r.w∧r.w≤hi)→lo≤Q.foldl (fun m r=>min m r.w) m∧Q.foldl (fun m r=>min m r.w) m≤hi:=by
   intro Q
   induction Q with
   | nil=>exact fun m hm _=>hm
   | cons b Q ih =>
    intro m hm hb
    have h1:=hb b (by simp)
    have h2:lo≤min m b.w∧min m b.w≤hi:=⟨by omega,by omega⟩
    exact ih (min m b.w) h2 fun r hr=>hb r (by simp [hr])
  exact key Q a.w (hq a (by simp)) fun r hr=>hq r (by simp [hr])
theorem QJ {R:List Rw} {m:Nat} (hR:∀ r∈R,r.i<m∧r.k<m∧r.i≠r.k) (hw:∀ r∈R,0≤r.w∧r.w≤2147483648) {r:Rw} (hr:r∈R) :
  0≤(aP R r.key).a∧(aP R r.key).a<(aP R r.key).b∧(aP R r.key).b<(m:Nat)∧0≤(aP R r.key).w∧(aP R r.key).w≤2147483648∧((aP R r.key).f=true∨(aP R r.key).k=true):=by
 obtain ⟨h1,h2,h3⟩:=hR r hr
 have hm:r∈E5 R r.key:=List.mem_filter.2 ⟨hr,decide_eq_true rfl⟩
 have hne:E5 R r.key≠[]:=fun e=>by
  rw [e] at hm
  cases hm
 have hW:=Vn hne fun s hs=>hw s (List.mem_filter.1 hs).1
 have k1:r.key.1<r.key.2:=by
  show min r.i r.k<max r.i r.k
  omega
 have k2:r.key.2<m:=by
  show max r.i r.k<m
  omega
 refine ⟨?_,?_,?_,hW.1,hW.2,?_⟩
 ·rw [(dn R _).1]
  omega
 ·rw [(dn R _).1,(dn R _).2]
  omega
 ·rw [(dn R _).2]
  omega
 ·show (E5 R r.key).any (fun r=>r.fw||!r.o)=true∨(E5 R r.key).any (fun r=>!r.fw||!r.o)=true
  by_cases c:r.fw=true
  ·exact .inl (List.any_eq_true.2 ⟨r,hm,by simp [c]⟩)
  ·exact .inr (List.any_eq_true.2 ⟨r,hm,by simp [c]⟩)
def kh (r:Rw):En:=⟨(r.key.1:Nat),(r.key.2:Nat)⟩
set_option maxHeartbeats 4000000 in
theorem Lv {F:List Nat} {W w:World} {l:List bX} (b:Nat) (r:Rw) (es:Array MapEntry) (clk:Nat) (L:List (En×Ed)) (hI:jF lg Pm es clk L) (hM:R.Own F W w (.map b es clk::l)) :
  Calls Tryz.prog 20 #[.map (some b),.agg (tj r).toArray] w fun e w'=>∃ es' clk',e=.returned (.tuple #[])∧jF lg Pm es' clk' (jj L (kh r) (fE (eY L (kh r)) r))∧R.Own F W w' (.map b es' clk'::l):=by
 refine aa (fn:=Tryz.f20) Tryz.func20 rfl Tryz.ntmps20 (Nat.le_of_ble_eq_true rfl) ?_
 (refine ad ?_;(repeat' first|refine And.intro ?_ ?_|intro _);all_goals refine ah.mk ?_)
 rename_i hM
 refine UC (encK:=lg) (encV:=Pm) (k:=kh r) rfl rfl rfl hM (by simp) hI ?_
 try refine ⟨rfl,?_⟩
 cases hg:eY L (kh r) with
 | none =>
  (refine ad ?_;(repeat' first|refine And.intro ?_ ?_|intro _);all_goals refine ah.mk ?_)
  all_goals (
   rename_i hM
   refine ue (encK:=lg) (encV:=Pm) (k:=kh r) (v:=fE none r) (l':=fun es' clk'=>[_,_,.map b es' clk']++l) rfl rfl rfl ?_ hM hI (fun _ _=>.tail (.tail .head)) (fun es' clk' w8 hS2 hM=>?_)
   ·change Value.agg _=Value.agg _
    clear hM hI
    first|(simp [fE,B6,Rw.fw, *];done)|(simp_all [fE,B6,Rw.fw];done)|(simp_all [fE,B6,Rw.fw];omega)
   ·(refine ad ?_;(repeat' first|refine And.intro ?_ ?_|intro _);all_goals refine ah.mk ?_)
    exact ⟨es',clk',rfl,hS2,hM.tl.tl⟩)
 | some e0 =>
  (refine ad ?_;(repeat' first|refine And.intro ?_ ?_|intro _);all_goals refine ah.mk ?_)
  all_goals (
   rename_i hM
   refine ue (encK:=lg) (encV:=Pm) (k:=kh r) (v:=fE (some e0) r) (l':=fun es' clk'=>[_,_,.map b es' clk']++l) rfl rfl rfl ?_ hM hI (fun _ _=>.tail (.tail .head)) (fun es' clk' w8 hS2 hM=>?_)
   ·change Value.agg _=Value.agg _
    clear hM hI
    first|(simp [fE,B6,Rw.fw, *];done)|(simp_all [fE,B6,Rw.fw];done)|(simp_all [fE,B6,Rw.fw];omega)
   ·(refine ad ?_;(repeat' first|refine And.intro ?_ ?_|intro _);all_goals refine ah.mk ?_)
    exact ⟨es',clk',rfl,hS2,hM.tl.tl⟩)
section
def LZ (pl:En→Int) (M:List Rw) (k:Nat):List Pc:=(M.take k).map fun r=>⟨pl (kh r),r.fw,r.w⟩
theorem Pu {pl:En→Int} {M:List Rw} {k:Nat} (hk:k<M.length):LZ pl M (k+1)=LZ pl M k++[⟨pl (kh (nth M k)),(nth M k).fw,(nth M k).w⟩]:=by
 unfold LZ
 rw [cd hk,List.map_append]
 rfl
theorem Br {pl:En→Int} {M:List Rw} {k:Nat} (hk:k≤M.length):(LZ pl M k).length=k:=by
 unfold LZ
 rw [List.length_map,List.length_take]
 omega
instance aeq (a w:Int) (f:Bool):VN yE [.int .i64 a,.bool f,.int .i64 w] [⟨a,f,w⟩]:=⟨rfl⟩
attribute [local irreducible] Rd gn aq
set_option maxHeartbeats 4000000 in
theorem Lw (A:Option Addr) (n c b:Nat) (M:List Rw) (pl:En→Int) (es:Array MapEntry) (clk:Nat) (L:List (En×Int)) (w:World) (hb:w.heap[b]?=some (.map es clk)) (hS:jF lg vI es clk L) (hL:∀ r∈M,eY L (kh r)=some (pl (kh r)))
  (hA:gn [] w A n 5 (M.flatMap tj)) (hn:n=M.length) (hn2:n≤802) :
  Calls Tryz.prog 24 #[.slice A n c,.map (some b)] w fun e w'=>∃ B c2,e=.returned (.slice B n c2)∧iV w w' B n c2 127 3 ((LZ pl M n).flatMap yE):=by
 have hM:=R.Own.start [] w
 have hlb:b<w.heap.size:=(Array.getElem?_eq_some_iff.1 hb).1
 have hmap:∀ {w' l},R.Own [] w w' l→w'.heap[b]?=some (.map es clk):=fun h=>(h.kept b hlb (by simp)).trans hb
 refine aa (fn:=Tryz.f24) Tryz.func24 rfl Tryz.ntmps24 (Nat.le_of_ble_eq_true rfl) ?_
 (refine ad ?_;(repeat' first|refine And.intro ?_ ?_|intro _);all_goals refine ah.mk ?_)
 refine au (fun y:Nat×Option Addr×Nat=>[(1,.map (some b)),(4,.slice none 0 0),(5,.slice y.2.1 (LZ pl M y.1).length y.2.2),(8,.slice A n c),(9,.int .i64 (n:Nat)),(10,.int .i64 (y.1:Nat))])
  (fun y w1=>y.1≤n∧R.Own [] w w1 [.row y.2.1 (LZ pl M y.1).length y.2.2 127 3 ((LZ pl M y.1).flatMap yE)]) (fun y=>n-y.1)
  ⟨(0,none,0),⟨rfl,rfl,rfl,rfl,rfl,rfl,trivial⟩,Nat.zero_le _,R.Own.nil hM _ _⟩ ?_
 clear hM
 rintro ⟨k,B,c2⟩ f w4 ⟨hk,hM⟩
 dsimp only at hk hM ⊢
 by_cases hkt:k<n
 ·have hsn:=Pu (pl:=pl) (M:=M) (k:=k) xj
  have hrl:=Br (pl:=pl) (M:=M) (k:=k) xj
  have hLk:=hL _ (R.aB (L:=M) (i:=k) xj)
  generalize LZ pl M k=Q at hM hsn hrl ⊢
  (refine ad ?_;(repeat' first|refine And.intro ?_ ?_|intro _);all_goals refine ah.mk ?_)
  rename_i hM
  have hM:=R.Own.swap hM
  refine nT [(0,false),(1,false),(2,false),(3,false),(4,false),(5,false),(6,false),(7,false),(8,false),(9,false),(10,true),(11,true),(12,false)] R.mixed wx aj ?_
  (refine ad ?_;(repeat' first|refine And.intro ?_ ?_|intro _);all_goals refine ah.mk ?_)
  refine' I3 (v:=vI (pl (kh (nth M k)))) rfl rfl ?_ ?_ ?_
  ·intro w0 hS0
   refine Bq (encK:=lg) (encV:=vI) (k:=kh (nth M k)) rfl rfl rfl (hmap hS0) hS ?_
   rw [hLk]
   exact ⟨rfl,rfl⟩
  ·rfl
  (refine ad ?_;(repeat' first|refine And.intro ?_ ?_|intro _);all_goals refine ah.mk ?_)
  rename_i A8 c8 w6 hM
  refine ⟨(k+1,A8,c8),⟨rfl,rfl,qD rfl (by dsimp only;rw [hsn,List.length_append];rfl),rfl,rfl,aF rfl (by dsimp only;omega),trivial⟩,⟨by dsimp only;omega,?_⟩,by dsimp only;omega⟩
  dsimp only
  rw [hsn,List.length_append]
  exact dr (.blk _ _ _) hM
 ·obtain rfl:k=n:=by omega
  have hrl:=Br (pl:=pl) (M:=M) (k:=k) xj
  (refine ad ?_;(repeat' first|refine And.intro ?_ ?_|intro _);all_goals refine ah.mk ?_)
  rw [hrl] at hM ⊢
  exact ⟨B,c2,rfl,hM.gives⟩
end
end Go.Proofs.YtlmabdegojeheaaGreatDoor
