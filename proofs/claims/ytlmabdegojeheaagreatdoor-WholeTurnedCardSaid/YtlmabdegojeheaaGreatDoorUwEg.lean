/- WholeTurned: parts of its proof (Uw Ux Eg). -/
import Derived.Test.YtlmabdegojeheaaGreatDoorUaZm
import Derived.Test.YtlmabdegojeheaaGreatDoorRjUu
import Derived.Test.YtlmabdegojeheaaGreatDoorUr
import Derived.Test.YtlmabdegojeheaaGreatDoorNoZa
import Derived.Test.YtlmabdegojeheaaGreatDoorEfUi
import Derived.Test.YtlmabdegojeheaaGreatDoorMemOwn
import Derived.Laws.MakeOwn
namespace Go.Proofs.YtlmabdegojeheaaGreatDoor
open R Go.RowKit
structure TR (m:Nat) (x y:Road):Prop where
 dG:y.dG=x.dG
 pn:y.p.n=x.p.n
 pL:y.p.L=x.p.L.map (xD m)
 q:y.q=x.q
 both:y.both=x.both
theorem UT (v:Int):T6 (-v)=T6 v:=by
 unfold T6
 rw [Bool.eq_iff_iff]
 simp only [Bool.and_eq_true,decide_eq_true_eq]
 omega
theorem YT (p:Pt):gq (tP p)=gq p:=by
 unfold gq tP
 rw [UT,Bool.and_comm]
theorem Bv (p:Pt):∀ m,gq (xD m p)=gq p
 | 0=>rfl
 | m+1=>by
  show gq (tP (xD m p))=_
  rw [YT,Bv p m]
theorem Jp {p q:Pt}:∀ m,xD m p=xD m q↔p=q
 | 0=>Iff.rfl
 | m+1=>by
  show tP (xD m p)=tP (xD m q)↔_
  rw [Hz,Jp m]
theorem PG {L:List Pt} {m:Nat}:tf (L.map (xD m))↔tf L:=by
 unfold tf
 rw [List.length_map]
 constructor
 ·rintro ⟨k,hk,h⟩
  rw [bW xj,bW xj,Jp] at h
  exact ⟨k,hk,h⟩
 ·rintro ⟨k,hk,h⟩
  refine ⟨k,hk,?_⟩
  rw [bW xj,bW xj,h]
theorem YU {m:Nat} {x y:Road} (h:TR m x y):de y=de x:=by
 have e1:Bh y=Bh x:=by unfold Bh;rw [h.dG,h.pn,h.q]
 have e2:(y.p.L.any fun p=>!gq p)=(x.p.L.any fun p=>!gq p):=by
  rw [h.pL,List.any_map]
  congr 1
  funext p
  show (!gq (xD m p))=_
  rw [Bv]
 have e3:mS y.p.L=mS x.p.L:=by
  by_cases c:tf x.p.L
  ·rw [qM c,h.pL,qM (PG.2 c)]
  ·rw [uc c,h.pL,uc fun d=>c (PG.1 d)]
 unfold de
 rw [e1,e2,e3,h.q]
def TRs (m:Nat) (L M:List Road):Prop:=M.length=L.length∧∀ i,i<L.length→TR m (nth L i) (nth M i)
theorem Jq {m:Nat} {L M:List Road} (h:TRs m L M):∀ k,k≤L.length→dw (M.take k)=dw (L.take k)
 | 0,_=>rfl
 | k+1,hk=>by
  have:=h.1
  rw [kc xj,kc xj,Jq h k xj,(h.2 k xj).q]
theorem PH {m:Nat} {L M:List Road} (h:TRs m L M) (h0:cZ L=0):cZ M=0:=by
 obtain ⟨a1,a2,a3,a4⟩:=lY h0
 have hl:=h.1
 have e:=Jq h L.length (Nat.le_refl _)
 rw [List.take_length,← hl,List.take_length] at e
 rw [qO xj (fun j hj=>by rw [YU (h.2 j xj)];exact a2 j xj) (fun j hj=>?_),if_neg (by omega)]
 rw [(h.2 j xj).dG,(h.2 (j+1) xj).dG]
 exact a3 j xj
theorem Jr (a b:Pt) (w:Int) (o:Bool):∀ m,LV m ⟨⟨a,b⟩,w,o⟩=⟨⟨xD m a,xD m b⟩,w,o⟩
 | 0=>rfl
 | m+1=>by
  show tT (LV m _)=_
  rw [Jr a b w o m]
  rfl
def PI (x:Road):Prop:=x.p.n=x.p.L.length∧x.q.n=x.q.L.length
theorem Ly {m:Nat} {x y:Road} (h:TR m x y) (hx:PI x) (h0:de x=0):(c9 y y.q.n).map su=((c9 x x.q.n).map su).map (LV m):=by
 obtain ⟨_,_,_,_,h5⟩:=jE h0
 rw [h.q,List.map_map]
 unfold c9
 rw [List.map_map,List.map_map]
 refine List.map_congr_left fun i hi=>?_
 have hi:=List.mem_range.1 hi
 show su (oD y i)=LV m (su (oD x i))
 unfold su oD
 dsimp only
 have hl:=hx.1
 rw [Jr,h.pL,bW xj,bW xj,h.q,h.both]
theorem EI {m:Nat} {L M:List Road} (h:TRs m L M) (hL:∀ x∈L,PI x) (h0:cZ L=0):(bN M).map su=((bN L).map su).map (LV m):=by
 obtain ⟨_,a2,_,_⟩:=lY h0
 have hl:=h.1
 have key:∀ k,k≤L.length→(bN (M.take k)).map su=((bN (L.take k)).map su).map (LV m):=by
  intro k
  induction k with
  | zero=>exact fun _=>rfl
  | succ k ih =>
   intro hk
   rw [mI xj,mI xj,List.map_append,List.map_append,List.map_append,ih xj,Ly (h.2 k xj) (hL _ (R.aB xj)) (a2 k xj)]
 have:=key L.length (Nat.le_refl _)
 rwa [List.take_length,← hl,List.take_length] at this
theorem pF {x:Road} (h0:de x=0):(x.p.L.any fun p=>!gq p)=false∧¬ tf x.p.L∧x.q.L.any qL=false:=by
 obtain ⟨a1,a2,a3,a4,a5⟩:=jE h0
 have hf:Bh x=false:=wg xj
 unfold de at h0
 rw [hf,if_neg (by decide)] at h0
 split at h0
 ·cases h0
 ·rename_i c1
  split at h0
  ·cases h0
  ·rename_i c2
   split at h0
   ·cases h0
   ·rename_i c3
    exact ⟨by simpa using c1,fun d=>c2 (qM d),by simpa using c3⟩
theorem Js {p:Pt} (h:gq p=true):bL p:=by
 unfold gq T6 at h
 simp only [Bool.and_eq_true,decide_eq_true_eq] at h
 exact ⟨h.1.1,h.1.2,h.2.1,h.2.2⟩
theorem yr {L:List Road} (hL:∀ x∈L,PI x) (h0:cZ L=0):∀ s∈bN L,aK s.g∧xE s.w=true:=by
 obtain ⟨_,a2,_,_⟩:=lY h0
 intro s hs
 obtain ⟨x,hx,hs⟩:=List.mem_flatMap.1 hs
 obtain ⟨i,hi,rfl⟩:=List.mem_map.1 hs
 have hi:=List.mem_range.1 hi
 obtain ⟨j,hj,rfl⟩:=nI hx
 have he:=a2 j hj
 obtain ⟨_,_,_,_,b5⟩:=jE he
 obtain ⟨c1,c2,c3⟩:=pF he
 obtain ⟨l1,l2⟩:=hL _ hx
 have ok:∀ k,k<(nth L j).p.L.length→bL (nth (nth L j).p.L k):=fun k hk=>Js (by
  have:=List.any_eq_false.1 c1 _ (R.aB hk)
  simpa using this)
 refine ⟨⟨ok i xj,ok (i+1) xj,fun e=>c2 ⟨i,by omega,e.symm⟩⟩,?_⟩
 have hq:qL (nth (nth L j).q.L i)=false:=by
  have:=List.any_eq_false.1 c3 _ (R.aB (i:=i) xj)
  simpa using this
 show xE (nth (nth L j).q.L i)=true
 unfold qL at hq
 unfold xE
 simp only [Bool.or_eq_false_iff,decide_eq_false_iff_not] at hq
 simp only [Bool.and_eq_true,decide_eq_true_eq]
 omega
section
attribute [local irreducible] Rd gn aq cZ
set_option maxHeartbeats 4000000 in
theorem EJ (haw:∀ w,Calls Tryz.prog 6 #[] w fun e w'=>e=.returned (.bool true)∧Below w.heap.size w w') (A:Option Addr) (n c:Nat) (L:List Road) (q:Int) (w:World) (hA:gn [] w A n 4 (L.flatMap fy)) (hn:n=L.length) (hb:n≤9223372036854775807) (hG:∀ x∈L,ka w x) (h0:0≤q) (h1:q≤255) :
  Calls Tryz.prog 3 #[.slice A n c,.int .u8 q] w fun e w'=>e=.returned (.bool true)∧Below w.heap.size w w':=by
 have hM:=R.Own.start [] w
 refine aa (fn:=Tryz.f3) Tryz.func3 rfl Tryz.ntmps3 (Nat.le_of_ble_eq_true rfl) ?_
 (refine ad ?_;(repeat' first|refine And.intro ?_ ?_|intro _);all_goals refine ah.mk ?_)
 refine ar rfl rfl vv vv ?_
 refine (US A n c L _ hA hn hb hG).mono ?_
 rintro _ w2 ⟨b,rfl,rfl,hfew⟩
 refine ⟨_,rfl,?_⟩
 cases b with
 | false =>
  (refine ad ?_;(repeat' first|refine And.intro ?_ ?_|intro _);all_goals refine ah.mk ?_)
  refine gL rfl rfl ?_
  refine (haw _).mono ?_
  rintro _ w3 ⟨rfl,hb3⟩
  have hM:=R.Own.call aj hb3
  refine ⟨_,rfl,?_⟩
  (refine ad ?_;(repeat' first|refine And.intro ?_ ?_|intro _);all_goals refine ah.mk ?_;(all_goals (try (exact ⟨rfl,R.Own.below ww⟩))))
 | true =>
  obtain ⟨h20,hl20,hpq⟩:=hfew rfl
  (refine ad ?_;(repeat' first|refine And.intro ?_ ?_|intro _);all_goals refine ah.mk ?_)
  refine aA rfl rfl vv ?_
  refine (Ll A n c L _ hA hn xj hG (fun x hx=>by have:=(hpq x hx).2;omega)).mono ?_
  rintro _ w3 ⟨rfl,hb3⟩
  have hM:=R.Own.call aj hb3
  refine ⟨_,rfl,?_⟩
  by_cases he:cZ L≠0
  ·(refine ad ?_;(repeat' first|refine And.intro ?_ ?_|intro _);all_goals refine ah.mk ?_)
   refine gL rfl rfl ?_
   refine (haw _).mono ?_
   rintro _ w3 ⟨rfl,hb3⟩
   have hM:=R.Own.call aj hb3
   refine ⟨_,rfl,?_⟩
   (refine ad ?_;(repeat' first|refine And.intro ?_ ?_|intro _);all_goals refine ah.mk ?_;(all_goals (try (exact ⟨rfl,R.Own.below ww⟩))))
  have he:cZ L=0:=Decidable.not_not.1 he
  obtain ⟨e200,eall,erise,e400⟩:=lY he
  obtain ⟨m,hm⟩:∃ m,m=(q % 4).toNat:=⟨_,rfl⟩
  (refine ad ?_;(repeat' first|refine And.intro ?_ ?_|intro _);all_goals refine ah.mk ?_)
  rename_i A0 c0 _ hM
  refine au (fun x:Nat×Option Addr×Nat×List Road=>[(0,.slice A n c),(1,.int .u8 q),(4,.bool false),(5,.slice x.2.1 x.1 x.2.2.1),(6,.int .i64 (x.1:Nat))])
   (fun x w1=>(x.1≤n∧x.2.2.2.length=x.1∧∀ t,t<x.1→TR m (nth L t) (nth x.2.2.2 t)∧(nth x.2.2.2 t).p.n=(nth x.2.2.2 t).p.L.length)∧R.Own [] w w1 (.row x.2.1 x.1 x.2.2.1 30 4 (x.2.2.2.flatMap fy)::gr 32 2 cr (x.2.2.2.map (·.p)))) (fun x=>n-x.1)
   ⟨(0,A0,c0,[]),⟨rfl,rfl,rfl,rfl,rfl,trivial⟩,⟨Nat.zero_le _,rfl,fun t ht=>absurd ht (Nat.not_lt_zero _)⟩,hM⟩ ?_
  clear hM
  rintro ⟨i,Dr,cD,Ms⟩ f w4 ⟨⟨hi,hMl,hMt⟩,hM⟩
  dsimp only at hi hMl hMt hM ⊢
  by_cases hit:i<n
  ·obtain ⟨g1,⟨gp1,gp2,gp3,_⟩,⟨gq1,gq2,gq3,_⟩,_⟩:=hG _ (R.aB (L:=L) (i:=i) xj)
   have hAs:∃ a,A=some a:=(R.Own.Gn hM hA).some_ xj vj
   have hei:=eall i xj
   obtain ⟨f1,f2,f3,f4,f5⟩:=jE hei
   obtain ⟨k1,_,_⟩:=pF hei
   (refine ad ?_;(repeat' first|refine And.intro ?_ ?_|intro _);all_goals refine ah.mk ?_)
   refine iW [(0,false),(1,false),(2,false),(3,false),(4,false),(5,false),(6,false),(7,false),(8,false),(9,false),(10,false),(11,false),(12,false),(13,false),(14,false),(15,false),(16,true),(17,true)] R.mixed wx aj ?_
   (refine ad ?_;(repeat' first|refine And.intro ?_ ?_|intro _);all_goals refine ah.mk ?_)
   rename_i gT _ _ w5 hM
   refine au (fun x:Nat×Option Addr×Nat=>[(0,.slice A n c),(1,.int .u8 q),(4,.bool false),(5,.slice Dr i cD),(6,.int .i64 (i:Nat)),(7,.pointer (some ⟨gT,0,none⟩)),(8,.int .i64 (x.1:Nat))])
    (fun x w1=>x.1≤(nth L i).p.n∧R.Own [] w w1 (.row x.2.1 x.1 x.2.2 32 2 ((((nth L i).p.L.take x.1).map (xD m)).flatMap cr)::.blk gT 30 [.int .i64 (nth L i).dG,.slice x.2.1 x.1 x.2.2,.slice (nth L i).q.A (nth L i).q.n (nth L i).q.c,.bool (nth L i).both]::.row Dr i cD 30 4 (Ms.flatMap fy)::gr 32 2 cr (Ms.map (·.p)))) (fun x=>(nth L i).p.n-x.1)
    ⟨(0,none,0),⟨rfl,rfl,rfl,rfl,rfl,rfl,rfl,trivial⟩,Nat.zero_le _,R.Own.nil hM _ _⟩ ?_
   clear hM
   rintro ⟨j,Pa,cP⟩ f w6 ⟨hj,hM⟩
   dsimp only at hj hM ⊢
   by_cases hjt:j<(nth L i).p.n
   ·have hsn:((nth L i).p.L.take (j+1)).map (xD m)=((nth L i).p.L.take j).map (xD m)++[xD m (nth (nth L i).p.L j)]:=by rw [cd xj,List.map_append];rfl
    have hTl:(((nth L i).p.L.take j).map (xD m)).length=j:=by rw [List.length_map,List.length_take];omega
    have hpt:gq (nth (nth L i).p.L j)=true:=by
     have:=List.any_eq_false.1 k1 _ (R.aB (i:=j) xj)
     simpa using this
    have hPs:∃ a,(nth L i).p.A=some a:=(R.Own.Gn hM gp1).some_ xj vj
    generalize ((nth L i).p.L.take j).map (xD m)=T at hM hsn hTl ⊢
    (refine ad ?_;(repeat' first|refine And.intro ?_ ?_|intro _);all_goals refine ah.mk ?_)
    refine kf [(0,false),(1,false),(2,false),(3,false),(4,false),(5,false),(6,false),(7,false),(8,false),(9,false),(10,false),(11,false),(12,true),(13,true),(14,true),(15,false),(16,true)] R.mixed wx aj ?_
    (refine ad ?_;(repeat' first|refine And.intro ?_ ?_|intro _);all_goals refine ah.mk ?_)
    rename_i w7 hM
    refine ar rfl rfl vv vv ?_
    refine (Hb _ q _ hpt h0).mono ?_
    rintro _ w8 ⟨rfl,hb8⟩
    have hM:=R.Own.call hM hb8
    rw [← hm]
    refine ⟨_,rfl,hM.tl,?_⟩
    (refine ad ?_;(repeat' first|refine And.intro ?_ ?_|intro _);all_goals refine ah.mk ?_)
    rename_i Pa2 kI _ _ w9 hM
    refine ⟨(j+1,Pa2,kI),⟨rfl,rfl,rfl,rfl,rfl,rfl,aF rfl (by dsimp only;omega),trivial⟩,⟨by dsimp only;omega,?_⟩,by dsimp only;omega⟩
    dsimp only
    rw [hsn]
    exact hM
   ·obtain ⟨pn,hpn⟩:∃ pn,pn=(nth L i).p.n:=⟨_,rfl⟩
    obtain rfl:j=(nth L i).p.n:=by omega
    (refine ad ?_;(repeat' first|refine And.intro ?_ ?_|intro _);all_goals refine ah.mk ?_)
    rename_i A7 c7 w7 hM
    obtain ⟨y,hy⟩:∃ y:Road,y=⟨(nth L i).dG,⟨Pa,(nth L i).p.n,cP,(nth L i).p.L.map (xD m)⟩,(nth L i).q,(nth L i).both⟩:=⟨_,rfl⟩
    rw [gp2,List.take_length,← gp2] at hM
    have hM:R.Own [] w w7 (.row A7 1 c7 30 4 (fy y)::.row Dr i cD 30 4 (Ms.flatMap fy)::m6 32 2 cr y.p::gr 32 2 cr (Ms.map (·.p))):=by
     rw [hy]
     exact pk (r:=.row A7 _ _ _ _ _) (pk (r:=.row Dr _ _ _ _ _) (dr (.blk gT _ _) hM))
    (refine ad ?_;(repeat' first|refine And.intro ?_ ?_|intro _);all_goals refine ah.mk ?_)
    rename_i Dr2 cD2 w8 hM
    have hM:=pk (r:=.row Dr2 _ _ _ _ _) hM
    refine ⟨(i+1,Dr2,cD2,Ms++[y]),⟨rfl,rfl,rfl,rfl,aF rfl (by dsimp only;omega),trivial⟩,⟨⟨by dsimp only;omega,by dsimp only;rw [List.length_append,hMl];rfl,fun t ht=>?_⟩,?_⟩,by dsimp only;omega⟩
    ·dsimp only at ht ⊢
     by_cases hti:t<i
     ·have e:nth (Ms++[y]) t=nth Ms t:=by rw [av (by rw [List.length_append];omega),List.getElem_append_left xj,← av]
      rw [e]
      exact hMt t hti
     ·obtain rfl:t=i:=by omega
      have e:nth (Ms++[y]) t=y:=by
       rw [av (by rw [List.length_append];simp only [List.length_cons,List.length_nil];omega),List.getElem_append_right (by omega)]
       simp [hMl]
      rw [e,hy]
      exact ⟨⟨rfl,rfl,rfl,rfl,rfl⟩,by rw [List.length_map];exact gp2⟩
    ·dsimp only
     rw [List.map_append,oF]
     exact hM.perm (List.Perm.cons _ (List.perm_append_comm (l₂:=[_])))
  ·obtain rfl:i=n:=by omega
   (refine ad ?_;(repeat' first|refine And.intro ?_ ?_|intro _);all_goals refine ah.mk ?_)
   have hLen:∀ x∈L,PI x:=fun x hx=>⟨(hG x hx).2.1.2.1,(hG x hx).2.2.1.2.1⟩
   have hTR:TRs m L Ms:=⟨by omega,fun t ht=>(hMt t xj).1⟩
   have hSt:=yr hLen he
   have hSl:(bN L).length≤20:=by rw [th];exact hl20
   refine aA rfl rfl vv ?_
   refine (EE A i c (bN L) _ (fun w1 hb1=>?_) hSl hSt).mono ?_
   ·have hM1:=R.Own.call hM hb1
    refine (wk A i c L w1 (hM1.gi hA) hn xj (fun x hx=>ka.now hM1 (hG x hx))).mono ?_
    rintro _ w2 ⟨A1,c1,M,rfl,rfl,hGv⟩
    rw [if_pos he] at hGv ⊢
    rw [he]
    exact ⟨A1,c1,rfl,hGv⟩
   rintro _ w5 ⟨x1,rows1,rfl,⟨l1,hO1,hG1⟩,hN1,hB1,hs1,he1⟩
   have hM:=R.Own.ti hM hO1
   clear hO1
   have hM:R.Own [] w w5 (.row Dr i cD 30 4 (Ms.flatMap fy)::(gr 32 2 cr (Ms.map (·.p))++l1)):=hM
   refine ⟨_,rfl,?_⟩
   (refine ad ?_;(repeat' first|refine And.intro ?_ ?_|intro _);all_goals refine ah.mk ?_)
   rename_i g9 _ _ w6 hM
   have hLenM:∀ y∈Ms,PI y:=fun y hy=>by
    obtain ⟨t,ht,rfl⟩:=nI hy
    obtain ⟨h1,h2⟩:=hMt t xj
    exact ⟨h2,by rw [h1.q];exact (hLen _ (R.aB xj)).2⟩
   have heM:=PH hTR he
   have hSlM:(bN Ms).length≤20:=by
    have e:=congrArg List.length (EI hTR hLen he)
    simp only [List.length_map] at e
    omega
   refine aA rfl rfl vv ?_
   refine (EE Dr i cD (bN Ms) _ (fun w1 hb1=>?_) hSlM (yr hLenM heM)).mono ?_
   ·have hM1:=R.Own.call hM hb1
    refine (wk Dr i cD Ms w1 (R.Own.wW hM1 (.tail _ (.head _))) hMl.symm xj (fun y hy=>?_)).mono ?_
    ·obtain ⟨t,ht,rfl⟩:=nI hy
     obtain ⟨h1,h2⟩:=hMt t xj
     have hx:=hG (nth L t) (R.aB xj)
     have hxe:=eall t xj
     obtain ⟨f1,f2,f3,f4,f5⟩:=jE hxe
     obtain ⟨k1,_,_⟩:=pF hxe
     have hmem:m6 32 2 cr (nth Ms t).p∈gr 32 2 cr (Ms.map (·.p)):=by
      have:=qR (e:=32) (sz:=2) (enc:=cr) (M:=Ms.map (·.p)) (j:=t) (by rw [List.length_map];exact ht)
      rwa [bW ht] at this
     have hmem2:=List.mem_append_left l1 hmem
     refine ⟨by rw [h1.dG];exact hx.1,⟨R.Own.wW hM1 (.tail _ (.tail _ hmem2)),h2,lZ hM1 (.tail _ (.tail _ hmem2)),fun p hp=>?_⟩,?_,trivial⟩
     ·rw [h1.pL] at hp
      obtain ⟨p0,hp0,rfl⟩:=List.mem_map.1 hp
      have ok:gq p0=true:=by
       have:=List.any_eq_false.1 k1 _ hp0
       simpa using this
      rw [← Bv p0 m] at ok
      obtain ⟨a1,a2,a3,a4⟩:=Js ok
      exact ⟨YQ ⟨by omega,by omega⟩,YQ ⟨by omega,by omega⟩⟩
     ·rw [h1.q]
      exact ⟨hM1.gi hx.2.2.1.1,hx.2.2.1.2⟩
    rintro _ w2 ⟨A1,c1,M,rfl,rfl,hGv⟩
    rw [if_pos heM] at hGv ⊢
    rw [heM]
    exact ⟨A1,c1,rfl,hGv⟩
   rintro _ w7 ⟨x2,rows2,rfl,⟨l2,hO2,hG2⟩,hN2,hB2,hs2,he2⟩
   have hM:=R.Own.ti hM hO2
   clear hO2
   have hM:R.Own [] w w7 (.blk g9 38 (L2 x1)::(l1++l2)):=hM.sub (.cons_cons _ (.cons _ (List.Sublist.append_right (List.sublist_append_right _ _) _)))
   refine ⟨_,rfl,?_⟩
   rw [EI hTR hLen he] at hN2
   have hSL:∀ s∈(bN L).map su,aK s.g:=fun s hs=>by
    obtain ⟨t,ht,rfl⟩:=List.mem_map.1 hs
    exact (hSt t ht).1
   obtain ⟨q1,q2,q3,q4⟩:=(QM hSL hN1 m).2 _ _ _ hN2
   (refine ad ?_;(repeat' first|refine And.intro ?_ ?_|intro _);all_goals refine ah.mk ?_)
   rename_i g11 _ _ w8 hM
   have hg1:=hG1 _ _ _ hM (fun r hr=>by simp [hr])
   have hg2:=hG2 _ _ _ hM (fun r hr=>by simp [hr])
   have sn1:x1.s.n=x1.s.L.length:=hg1.1.2.1
   have en1:x1.e.n=x1.e.L.length:=hg1.2.1.2.1
   have sn2:x2.s.n=x2.s.L.length:=hg2.1.2.1
   have en2:x2.e.n=x2.e.L.length:=hg2.2.1.2.1
   rw [← en1,← en2] at q1 q2 q3 q4
   rw [← sn1,← sn2] at q4
   clear hg1 hg2
   refine aA rfl rfl vv ?_
   refine (wK x1 _ (hG1 _ _ _ hM (fun r hr=>by simp [hr])) hB1).mono ?_
   rintro _ w9 ⟨C1,d1,rfl,hGv⟩
   have hM:=R.Own.pv hM hGv
   clear hGv
   refine ⟨_,rfl,?_⟩
   (refine ad ?_;(repeat' first|refine And.intro ?_ ?_|intro _);all_goals refine ah.mk ?_)
   refine aA rfl rfl vv ?_
   refine (wK x2 _ (hG2 _ _ _ aj (fun r hr=>by simp [hr])) hB2).mono ?_
   rintro _ w10 ⟨C2,d2,rfl,hGv⟩
   have hM:=R.Own.pv hM hGv
   clear hGv
   refine ⟨_,rfl,?_⟩
   rw [q4] at hM ⊢
   obtain ⟨Cl,hCl⟩:∃ Cl,Cl=i9 (ec x1.e.L x1.s.n x1.e.n):=⟨_,rfl⟩
   rw [← hCl] at hM ⊢
   have hcb:=lZ hM (.head _)
   (refine ad ?_;(repeat' first|refine And.intro ?_ ?_|intro _);all_goals refine ah.mk ?_)
   refine aA rfl rfl vv ?_
   refine (wJ x1 _ (hG1 _ _ _ aj (fun r hr=>by simp [hr])) hB1).mono ?_
   rintro _ w11 ⟨rfl,aaA⟩
   have hM:=R.Own.call aj aaA
   refine ⟨_,rfl,?_⟩
   (refine ad ?_;(repeat' first|refine And.intro ?_ ?_|intro _);all_goals refine ah.mk ?_)
   refine aA rfl rfl vv ?_
   refine (wJ x2 _ (hG2 _ _ _ aj (fun r hr=>by simp [hr])) hB2).mono ?_
   rintro _ w12 ⟨rfl,aaB⟩
   have hM:=R.Own.call aj aaB
   refine ⟨_,rfl,?_⟩
   rw [q2,q3]
   (refine ad ?_;(repeat' first|refine And.intro ?_ ?_|intro _);all_goals refine ah.mk ?_)
   refine ar rfl rfl vv vv ?_
   refine (Y6 C1 C2 Cl.length d1 Cl.length d2 Cl Cl _ (R.Own.wW hM (.tail _ (.head _))) rfl xj (R.Own.wW hM (.head _)) rfl).mono ?_
   rintro _ w13 ⟨rfl,aaC⟩
   have hM:=R.Own.call aj aaC
   refine ⟨_,rfl,?_⟩
   rw [show decide (Cl=Cl)=true from decide_eq_true rfl]
   (refine ad ?_;(repeat' first|refine And.intro ?_ ?_|intro _);all_goals refine ah.mk ?_)
   refine gL rfl rfl ?_
   refine (haw _).mono ?_
   rintro _ w14 ⟨rfl,hb14⟩
   have hM:=R.Own.call hM hb14
   refine ⟨_,rfl,?_⟩
   (refine ad ?_;(repeat' first|refine And.intro ?_ ?_|intro _);all_goals refine ah.mk ?_;(all_goals (try (exact ⟨rfl,R.Own.below ww⟩))))
end
namespace E
open Go.RowKit Go.Lib
def mV (z:List Value):Nat→List Value
 | 0=>[]
 | n+1=>z++mV z n
theorem lE (z:List Value):∀ n,(mV z n).length=n*z.length
 | 0=>by simp [mV]
 | n+1=>by simp [mV,lE z n,Nat.succ_mul,Nat.add_comm]
theorem CM (z:List Value):∀ (n i:Nat),i<n*z.length→(mV z n)[i]?=z[i % z.length]?
 | 0,i,h=>by simp at h
 | n+1,i,h=>by
  rw [mV]
  by_cases hi:i<z.length
  ·rw [List.getElem?_append_left hi,Nat.mod_eq_of_lt hi]
  ·rw [List.getElem?_append_right xj,CM z n (i-z.length) (by rw [Nat.succ_mul] at h;omega)]
   congr 1
   exact (Nat.mod_eq_sub_mod xj).symm
theorem uF (z:List Value) (n:Nat):((Array.range (n*z.length)).map fun i=>z.toArray[i % z.length]!)=(mV z n).toArray:=by
 apply Array.ext'
 apply List.ext_getElem?
 intro i
 by_cases hi:i<n*z.length
 ·have hz:0<z.length:=by
   rcases Nat.eq_zero_or_pos z.length with h|h
   ·rw [h] at hi;simp at hi
   ·exact h
  have hm:i % z.length<z.length:=Nat.mod_lt _ hz
  have e1:=CM z n i hi
  simp only [Array.toList_map,Array.toList_range,List.getElem?_map,List.getElem?_range hi,Option.map_some,e1]
  rw [getElem!_pos z.toArray _ (by simpa using hm),List.getElem?_eq_getElem hm]
  simp
 ·have h1:(mV z n)[i]?=none:=List.getElem?_eq_none (by rw [lE];omega)
  rw [h1]
  exact List.getElem?_eq_none (by simp;omega)
theorem pU {ρ:Rn} {z:List V} {zx:List Value} (h:aT ρ z zx):∀ n,aT ρ (rep z n) (mV zx n)
 | 0=>.nil
 | n+1=>h.append (pU h n)
def uG (P:Program) (op:Op) (ins:I):Prop:=∀ {ρ f fr w nm v ob},xb ρ f fr op.operands.toList→news ins fr nm=some (v,ob) →
 ∃ x ob' sz,(∀ o:Oper,o.op=op→(execOp (ev f) o).run P w=.ok (.value x) (w.alloc ob'))∧∀ ρ',Ext ρ ρ'→ρ' nm=some (w.heap.size,sz)→Den ρ' v x∧iL ρ' ob ob' sz
section
variable {P:Program} {op:Op}
theorem CN {G:Nat→List V→Option (V×O)} {xs:List Operand} {l:List cu} (hx:∀ x∈xs,x∈op.operands.toList) (hd:el xs=some l)
  (key:∀ {ρ nm vs v ob} (f:R.Fr) (w:World),aT ρ vs (xs.map (ev f))→G nm vs=some (v,ob)→∃ x ob' sz,(∀ o:Oper,o.op=op→(execOp (ev f) o).run P w=.ok (.value x) (w.alloc ob'))∧∀ ρ',Ext ρ ρ'→ρ' nm=some (w.heap.size,sz)→Den ρ' v x∧iL ρ' ob ob' sz):uG P op (.a l G):=by
 intro ρ f fr w nm v ob hf hn
 obtain ⟨u,h1,h2⟩:=iM hn
 exact key f w (iN (fun x hm=>hf x (hx x hm)) hd h1) h2
theorem tL {ρ:Rn} {cs:List V} {xs:List Value} {t:TypeId} (h:aT ρ cs xs):iL ρ (.row cs false t) (.cells xs.toArray t) xs.length:=by
 have:=iL.row (tl:=[]) (opn:=false) (t:=t) (sz:=xs.length) h (fun _=>rfl) (by simp)
 simpa using this
theorem ML {e:TypeId} {z:V} (hz:dK P e=some z):uG P (.alloc e) (.a [] (WG z.cells e)) :=
 CN (xs:=[]) (by simp) rfl fun {ρ nm vs v ob} f w _ hv=>by
  cases hv
  obtain ⟨i,zx,hi,hzx,hzv⟩:=dV hz
  refine ⟨.pointer (some ⟨w.heap.size,0,none⟩),.cells zx.cells e,zx.cells.toList.length,fun o ho=>?_,fun ρ' _ hr=>⟨.p hr,?_⟩⟩
  ·simp [execOp,ho,Instr.alloc,pR hi hzx,newVar,newRow]
  ·have:=tL (t:=e) (eu (fM (ρ:=ρ') hzv))
   simpa using this
theorem Xu {e:TypeId} {x:Operand} {l:List cu} (hd:el [x]=some l):uG P (.box e x) (.a l (RD e)) :=
 CN (xs:=[x]) (by simp [Op.operands]) hd fun {ρ nm vs v ob} f w hu hv=>by
  simp only [List.map_cons,List.map_nil] at hu
  generalize hx:ev f x=xv at hu
  unfold RD at hv
  split at hv
  ·cases hv
   cases hu with
   | cons hu hn =>
    refine ⟨.pointer (some ⟨w.heap.size,0,none⟩),.cells xv.cells e,xv.cells.toList.length,fun o ho=>?_,fun ρ' he hr=>⟨.p hr,?_⟩⟩
    ·simp [execOp,ho,hx,Instr.box,newVar,newRow]
    ·have:=tL (t:=e) (eu (hu.ext he))
     simpa using this
  ·cases hv
theorem FJ {t kt et:TypeId} {r:Option Operand} {l:List cu} (hd:el r.toList=some l) (h1:P.underlying t=some (.map kt et)):uG P (.makeMap t r) (.a l RF) :=
 CN (xs:=r.toList) (by intro x hx;simpa [Op.operands] using hx) hd fun {ρ nm vs v ob} f w hu hv=>by
  cases r with
  | none =>
   cases hu
   cases hv
   exact ⟨.map (some w.heap.size),.map #[] 0,0,fun o ho=>by simp [execOp,ho,Instr.makeMap],fun ρ' _ hr=>⟨.m hr,.mp (ms:=[]) .nil⟩⟩
  | some y =>
   simp only [Option.toList_some,List.map_cons,List.map_nil] at hu
   generalize hy:ev f y=yv at hu
   unfold RF at hv
   split at hv
   ·cases hu
   ·cases hv
    cases hu with
    | cons hu hn =>
     cases hu
     exact ⟨.map (some w.heap.size),.map #[] 0,0,fun o ho=>by simp [execOp,ho,hy,Instr.makeMap,run_underlying h1,asInt,asIntOf],fun ρ' _ hr=>⟨.m hr,.mp (ms:=[]) .nil⟩⟩
   ·cases hv
theorem xg {t e:TypeId} {len n:Nat} {ps:Array (Nat×Operand)} {l:List cu} {z:V} {q:List (Nat×Nat)} (hd:el (ps.toList.map (·.2))=some l) (hu:P.underlying t=some (.slice e)) (hn:ct P e=some n) (hz:dK P e=some z)
  (hq:wY (fun i=>some (i*n,n)) ps.toList=some q) (hl:len*n<10000) (hzl:z.cells.length=n):uG P (.buildSlice t len ps) (.a l (RE e q (rep z.cells len) len)) :=
 CN (xs:=ps.toList.map (·.2)) (by intro x hx;simpa [Op.operands] using hx) hd fun {ρ nm vs v ob} f w hv hb=>by
  unfold RE at hb
  split at hb
  ·rename_i cs hf
   cases hb
   obtain ⟨i,zx,hi,hzx,hzv⟩:=dV hz
   have hzd:=eu (fM (ρ:=ρ) hzv)
   obtain ⟨zs',h1,h2⟩:=uD hq hv (pU hzd len) hf
   have hzs:zx.cells.size=n:=by
    have:=hzd.len
    rw [hzl] at this
    simpa using this.symm
   refine ⟨.slice (some ⟨w.heap.size,0,none⟩) len len,.cells zs'.toArray e,zs'.length,fun o ho=>?_,fun ρ' he hr=>⟨.B7 hr,tL (h2.ext he)⟩⟩
   have e1:(ps.map fun (x:Nat×Operand)=>match x with|(i,x)=>(i,ev f x)).toList=(ps.toList.map (·.1)).zip ((ps.toList.map (·.2)).map (ev f)):=by
    rw [Array.toList_map]
    induction ps.toList with
    | nil=>rfl
    | cons a r ih=>simp [ih]
   have e2:(if len*n=0 then (Array.range (len*n)).map (fun i=>(#[]:Array Value)[i % 0]!) else (Array.range (len*n)).map fun i=>zx.cells[i % zx.cells.size]!)=(mV zx.cells.toList len).toArray:=by
    have e3:=uF zx.cells.toList len
    have e4:zx.cells.toList.length=n:=by simpa using hzs
    rw [e4] at e3
    split
    ·rename_i h0
     have:(mV zx.cells.toList len)=[]:=List.eq_nil_of_length_eq_zero (by rw [lE,e4];exact h0)
     rw [this,h0]
     simp
    ·rw [← e3,hzs]
   have hr:=nD (P:=P) (t:=t) (e:=e) (sz:=n) (n:=len) (ps:=ps.map fun (x:Nat×Operand)=>match x with|(i,x)=>(i,ev f x)) (z:=zx) (cs:=zs'.toArray) hu hn xj (pR hi hzx) (by rw [e1,e2];exact h1) w
   simp only [execOp,ho,Sem.run_bind]
   rw [hr]
   rfl
  ·cases hb
theorem yS {t e:TypeId} {x y:Operand} {l:List cu} {z:V} {n by_:Nat} (hd:el [x,y]=some l) (hu:P.underlying t=some (.slice e)) (hz:dK P e=some z) (hb:kY P e=some by_) (hn:ct P e=some n) (hzl:z.cells.length=n) (hby:by_<10000):uG P (.makeSlice t x y) (.a l (RG e z.cells)) :=
 CN (xs:=[x,y]) (by simp [Op.operands]) hd fun {ρ nm vs v ob} f w hv hm=>by
  simp only [List.map_cons,List.map_nil] at hv
  generalize hx:ev f x=xv at hv
  generalize hy:ev f y=yv at hv
  unfold RG at hm
  split at hm
  ·rename_i k1 l0 k2 c0
   obtain ⟨h1,h2⟩:=bA hm
   cases h2
   rw [Bool.and_eq_true,blt_eq] at h1
   have hlc:=Nat.le_of_ble_eq_true h1.1
   have hc:=of_decide_eq_true h1.2
   obtain ⟨i,zx,hi,hzx,hzv⟩:=dV hz
   have hzd:=eu (fM (ρ:=ρ) hzv)
   have hzs:zx.cells.toList.length=n:=by
    have:=hzd.len
    rw [hzl] at this
    exact this.symm
   cases hv with
   | cons ha hv =>
    cases hv with
    | cons hb2 hn2 =>
     cases ha
     cases hb2
     unfold kY at hb
     rw [hi] at hb
     have hbi:i.bytes=by_:=by simpa using hb
     refine ⟨.slice (some ⟨w.heap.size,0,none⟩) l0 c0,.cells (mV zx.cells.toList c0).toArray e,(mV zx.cells.toList c0).length,fun o ho=>?_,fun ρ' he hr=>⟨.B7 hr,tL ((pU hzd c0).ext he)⟩⟩
     have hle:by_*c0≤10000*1000000:=Nat.mul_le_mul xj xj
     have hin:i.size=n:=by
      obtain ⟨i',hi',rfl⟩:=iP hn
      rw [hi] at hi'
      cases hi'
      rfl
     have hle2:(i.bytes:Int)*(c0:Int)≤281474976710656:=by
      have h3:((by_*c0:Nat):Int)≤281474976710656:=by omega
      rw [hbi]
      rw [Int.natCast_mul] at h3
      exact h3
     have hr:=run_make (P:=P) w t e i zx hu hi hzx k1 k2 (l0:Int) (c0:Int) xj xj hle2 xj
     have e2:madeCells zx.cells ((c0:Int).toNat*i.size)=(mV zx.cells.toList c0).toArray:=by
      have e3:=uF zx.cells.toList c0
      rw [hzs] at e3
      have:zx.cells.size=n:=by rw [← Array.length_toList];exact hzs
      unfold madeCells
      rw [hin,Int.toNat_natCast,← e3,this]
     rw [e2] at hr
     simp only [execOp,ho,hx,hy,Sem.run_bind]
     rw [show (Instr.makeSlice t (Value.int k1 (Int.ofNat l0)) (Value.int k2 (Int.ofNat c0))).run P w=_ from hr]
     rfl
  ·cases hm
end
end E
end Go.Proofs.YtlmabdegojeheaaGreatDoor
