/- WholeTurned: parts of its proof (Ud Ue Uf Rg). -/
import Derived.Test.YtlmabdegojeheaaGreatDoorUcRf3
import Derived.Test.YtlmabdegojeheaaGreatDoorZiSk
import Derived.Test.YtlmabdegojeheaaGreatDoorPtmPto
import Derived.Test.YtlmabdegojeheaaGreatDoorEncsWGo
import Derived.RangeFuncNested
import Derived.RangeFuncBound
import Derived.RangeFuncCalls
import Derived.RangeFuncLeaves
namespace Go.Proofs.YtlmabdegojeheaaGreatDoor
open R Go.RowKit
theorem nJ {T:Type} [Inhabited T] [DecidableEq T] {L:List T}:∀ {k:Nat},k≤L.length→(∀ j,1≤j→j<k→nth L j≠nth L (j-1))→ry L k=L.take k
 | 0,_,_=>rfl
 | k+1,h,hall=>by
  unfold ry
  rw [if_neg fun hc=>hall k xj xj hc.2,nJ xj (fun j h1 h2=>hall j h1 xj),cd (by omega)]
theorem qQ {T:Type} [Inhabited T] {L M:List T} {d i:Nat} (h:M.drop d=L.drop d) (hi:d≤i):nth M i=nth L i:=by
 have h1:M[i]?=L[i]?:=by
  have:=congrArg (fun l=>l[i-d]?) h
  simp only [List.getElem?_drop] at this
  rwa [show d+(i-d)=i by omega] at this
 unfold nth
 rw [List.getD_eq_getElem?_getD,List.getD_eq_getElem?_getD,h1]
theorem pC {T:Type} {enc:T→List Value} {sz:Nat} (h:∀ x,(enc x).length=sz):∀ (L:List T) (m:Nat),(L.flatMap enc).take (m*sz)=(L.take m).flatMap enc
 | [],m=>by simp
 | x::L,0=>by simp
 | x::L,m+1=>by
  rw [List.flatMap_cons,List.take_succ_cons,List.flatMap_cons,List.take_append,h,show (m+1)*sz-sz=m*sz by rw [Nat.succ_mul];omega,pC h L m,List.take_of_length_le (by rw [h,Nat.succ_mul];omega)]
theorem oU {T:Type} {M:List T} {k:Nat} {x:T} (hk:k<M.length):(M.set k x).take (k+1)=M.take k++[x]:=by
 rw [List.take_succ_eq_append_getElem (by rw [List.length_set];exact hk),List.getElem_set_self,List.take_set_of_le (Nat.le_refl _)]
theorem T8 {a b:Ct} (h:eO a=eO b):a=b:=by
 have h1:=List.append_inj h rfl
 have h2:=h1.1
 simp only [List.cons.injEq,Value.int.injEq,true_and,and_true] at h2
 exact Ct.gW.2 ⟨h2.1,h2.2,Jf h1.2⟩
instance aej:Tv Tryz.prog 115 Ct eO:=vm (ls:=[some .i64,some .i64,none,some .u64,some .u64,some .u64,some .u64,some .u64,some .u64,some .u64,some .u64,none,some .u64,some .u64,some .u64,some .u64,some .u64,some .u64,some .u64,some .u64,some .u64,some .u64,some .u64,some .u64,some .u64,some .u64,some .u64,some .u64]) wq wq wq
 (fun _=>⟨rfl,rfl,rfl,rfl,rfl,rfl,rfl,rfl,rfl,rfl,rfl,rfl,rfl,rfl,rfl,rfl,rfl,rfl,rfl,rfl,rfl,rfl,rfl,rfl,rfl,rfl,trivial⟩) (fun _ _=>T8)
attribute [local irreducible] aq eO bF in
set_option maxHeartbeats 4000000 in
theorem G4 {F:List Nat} {W w:World} {l:List bX} {A:Option Addr} {c n:Nat} (L:List Ct) (hn:n=L.length) (hb:n≤1000000000) (hM:R.Own F W w (.row A n c 115 28 (L.flatMap eO)::l)) :
  Calls Tryz.prog 68 #[.slice A n c] w fun e w'=>e=.returned (.slice A (dd L).length c)∧R.Own F W w' (.row A (dd L).length c 115 28 ((dd L).flatMap eO)::l):=by
 have hcap:=t8 hM (.head _)
 refine aa (fn:=Tryz.f68) Tryz.func68 rfl Tryz.ntmps68 (Nat.le_of_ble_eq_true rfl) ?_
 by_cases h2:n<2
 ·(refine ad ?_;(repeat' first|refine And.intro ?_ ?_|intro _);all_goals refine ah.mk ?_)
  have e:dd L=L:=by
   rcases L with _|⟨a,_|⟨b,L⟩⟩
   ·rfl
   ·rfl
   ·simp only [List.length_cons] at hn
    omega
  rw [e,← hn]
  exact ⟨rfl,hM⟩
 obtain ⟨g,rfl⟩:∃ g,A=some ⟨g,0,none⟩:=by
  have hr:w.ownsRow 0 115 28 (.slice A n c) n (L.flatMap eO):=hM.ok _ (.head _)
  rcases hr.2 with ⟨hv,h0⟩|⟨g,cap,cur,hv,_⟩
  ·omega
  ·injection hv with a1
   exact ⟨g,a1⟩
 have hAs:∃ a,(some ⟨g,0,none⟩:Option Addr)=some a:=⟨_,rfl⟩
 (refine ad ?_;(repeat' first|refine And.intro ?_ ?_|intro _);all_goals refine ah.mk ?_)
 refine au (fun k:Nat=>[(0,.slice (some ⟨g,0,none⟩) n c),(2,.slice none 0 0),(3,.int .i64 (k:Nat))])
  (fun k w1=>(1≤k∧k≤n)∧R.Own F W w1 (.row (some ⟨g,0,none⟩) n c 115 28 (L.flatMap eO)::l)∧∀ j,1≤j→j<k→nth L j≠nth L (j-1)) (fun k=>n-k)
  ⟨1,⟨rfl,rfl,rfl,trivial⟩,⟨by omega,by omega⟩,hM,fun j h3 h4=>by omega⟩ ?_
 clear hM
 rintro k f w1 ⟨⟨hk1,hk⟩,hM,hall⟩
 have e1:(((k:Nat):Int)-1).toNat=k-1:=by omega
 by_cases hlt:k<n
 ·(refine ad ?_;(repeat' first|refine And.intro ?_ ?_|intro _);all_goals refine ah.mk ?_)
  ·rename_i hM heq
   rw [e1] at heq
   have htk:=nJ xj hall
   have hd1:ry L (k+1)=L.take k:=by
    rw [← htk]
    exact if_pos ⟨hk1,heq⟩
   have hcs:∃ a,R.mH (some ⟨g,0,none⟩) c k 28=some a:=sc hAs
   refine au (fun x:Nat×Nat×List Ct=>[(0,.slice (some ⟨g,0,none⟩) n c),(2,.slice none 0 0),(3,.int .i64 (x.2.1:Nat)),(4,.slice (R.mH (some ⟨g,0,none⟩) c k 28) (n-k) (c-k)),(5,.int .i64 (x.1:Nat))])
    (fun x w1=>(1≤x.1∧x.1≤n-k)∧(x.2.2.length=n∧x.2.1≤k+x.1-1∧x.2.2.take x.2.1=ry L (k+x.1)∧x.2.1=(ry L (k+x.1)).length∧x.2.2.drop (k+x.1-1)=L.drop (k+x.1-1))∧R.Own F W w1 (.row (some ⟨g,0,none⟩) n c 115 28 (x.2.2.flatMap eO)::l)) (fun x=>n-k-x.1)
    ⟨(1,k,L),⟨rfl,rfl,rfl,rfl,rfl,trivial⟩,⟨by dsimp only;omega,by dsimp only;omega⟩,⟨hn.symm,by dsimp only;omega,hd1.symm,by dsimp only;rw [hd1,List.length_take];omega,rfl⟩,hM⟩ ?_
   clear hM
   rintro ⟨q,m,M⟩ f w2 ⟨⟨hq1,hq⟩,⟨hMl,hmq,hMt,hml,hMd⟩,hM⟩
   dsimp only at hq1 hq hMl hmq hMt hml hMd hM ⊢
   have e2:(((q:Nat):Int)-1).toNat=q-1:=by omega
   by_cases hqt:q<n-k
   ·have g1:nth M (k+q)=nth L (k+q):=qQ hMd xj
    have g2:nth M (k+(q-1))=nth L (k+(q-1)):=qQ hMd xj
    (refine ad ?_;(repeat' first|refine And.intro ?_ ?_|intro _);all_goals refine ah.mk ?_)
    rw [j7 (by omega)]
    (refine ad ?_;(repeat' first|refine And.intro ?_ ?_|intro _);all_goals refine ah.mk ?_)
    rw [j7 (by omega)]
    (refine ad ?_;(repeat' first|refine And.intro ?_ ?_|intro _);all_goals refine ah.mk ?_)
    ·rename_i hM hne
     rw [e2,g1,g2,show k+(q-1)=k+q-1 by omega] at hne
     rw [j7 (by omega)]
     (refine ad ?_;(repeat' first|refine And.intro ?_ ?_|intro _);all_goals refine ah.mk ?_)
     refine Jh rfl rfl rfl hM .head xj ?_
     intro w3 hM3
     clear hM
     (refine ad ?_;(repeat' first|refine And.intro ?_ ?_|intro _);all_goals refine ah.mk ?_)
     have hd2:ry L (k+q+1)=ry L (k+q)++[nth L (k+q)]:=if_neg fun hc=>hne hc.2
     refine ⟨(q+1,m+1,M.set m (nth M (k+q))),⟨rfl,rfl,aF rfl (by dsimp only;omega),rfl,aF rfl (by dsimp only;omega),trivial⟩,⟨⟨by dsimp only;omega,by dsimp only;omega⟩,⟨by dsimp only;rw [List.length_set];exact hMl,by dsimp only;omega,by dsimp only;rw [← Nat.add_assoc,hd2,oU xj,hMt,g1],by dsimp only;rw [← Nat.add_assoc,hd2,List.length_append,← hml];rfl,?_⟩,hM3⟩,by dsimp only;omega⟩
     dsimp only
     rw [List.drop_set_of_lt (by omega)]
     have:=congrArg (List.drop 1) hMd
     rw [List.drop_drop,List.drop_drop,show k+q-1+1=k+(q+1)-1 by omega] at this
     exact this
    ·rename_i hM heq2
     rw [e2,g1,g2,show k+(q-1)=k+q-1 by omega] at heq2
     have heq2:=Decidable.not_not.1 heq2
     have hd2:ry L (k+q+1)=ry L (k+q):=if_pos ⟨by omega,heq2⟩
     refine ⟨(q+1,m,M),⟨rfl,rfl,rfl,rfl,aF rfl (by dsimp only;omega),trivial⟩,⟨⟨by dsimp only;omega,by dsimp only;omega⟩,⟨hMl,by dsimp only;omega,by dsimp only;rw [← Nat.add_assoc,hd2];exact hMt,by dsimp only;rw [← Nat.add_assoc,hd2];exact hml,?_⟩,hM⟩,by dsimp only;omega⟩
     dsimp only
     have:=congrArg (List.drop 1) hMd
     rw [List.drop_drop,List.drop_drop,show k+q-1+1=k+(q+1)-1 by omega] at this
     exact this
   ·obtain rfl:q=n-k:=by omega
    rw [show k+(n-k)=n by omega,show ry L n=dd L by rw [hn];rfl] at hMt hml
    have hmn:m≤n-1:=by omega
    (refine ad ?_;(repeat' first|refine And.intro ?_ ?_|intro _);all_goals refine ah.mk ?_)
    have hM2:R.Own F W w2 (.row (some ⟨g,0,none⟩) m c 115 28 ((dd L).flatMap eO)::l):=by
     have h:=D3 hM (m:=m) xj
     rw [show (M.flatMap eO).take (m*28)=(M.take m).flatMap eO from pC (fun x=>cA.len x) M m,hMt] at h
     exact h
    refine yo rfl Zk vj vj rfl hM2 xj xj (Nat.le_refl _) xj ?_
    intro w3 hM3
    clear hM hM2
    (refine ad ?_;(repeat' first|refine And.intro ?_ ?_|intro _);all_goals refine ah.mk ?_)
    rw [← hml]
    exact ⟨rfl,hM3⟩
  ·rename_i hM hne
   rw [e1] at hne
   refine ⟨k+1,⟨rfl,rfl,aF rfl xj,trivial⟩,⟨⟨by omega,by omega⟩,hM,fun j h3 h4=>?_⟩,by omega⟩
   by_cases hj:j=k
   ·rw [hj]
    exact hne
   ·exact hall j h3 xj
 ·obtain rfl:k=n:=by omega
  (refine ad ?_;(repeat' first|refine And.intro ?_ ?_|intro _);all_goals refine ah.mk ?_)
  have e:dd L=L:=by
   unfold dd
   rw [nJ (Nat.le_refl _) (by rw [← hn];exact hall),List.take_length]
  rw [e,← hn]
  exact ⟨rfl,hM⟩
attribute [local irreducible] aq eO bF in
set_option maxHeartbeats 4000000 in
theorem G5 {F:List Nat} {W w:World} {l:List bX} {A:Option Addr} {c n:Nat} (L:List Sp) (hn:n=L.length) (hb:n≤1000000000) (hM:R.Own F W w (.row A n c 113 26 (L.flatMap bF)::l)) :
  Calls Tryz.prog 75 #[.slice A n c] w fun e w'=>e=.returned (.slice A (dd L).length c)∧R.Own F W w' (.row A (dd L).length c 113 26 ((dd L).flatMap bF)::l):=by
 have hcap:=t8 hM (.head _)
 refine aa (fn:=Tryz.f75) Tryz.func75 rfl Tryz.ntmps75 (Nat.le_of_ble_eq_true rfl) ?_
 by_cases h2:n<2
 ·(refine ad ?_;(repeat' first|refine And.intro ?_ ?_|intro _);all_goals refine ah.mk ?_)
  have e:dd L=L:=by
   rcases L with _|⟨a,_|⟨b,L⟩⟩
   ·rfl
   ·rfl
   ·simp only [List.length_cons] at hn
    omega
  rw [e,← hn]
  exact ⟨rfl,hM⟩
 obtain ⟨g,rfl⟩:∃ g,A=some ⟨g,0,none⟩:=by
  have hr:w.ownsRow 0 113 26 (.slice A n c) n (L.flatMap bF):=hM.ok _ (.head _)
  rcases hr.2 with ⟨hv,h0⟩|⟨g,cap,cur,hv,_⟩
  ·omega
  ·injection hv with a1
   exact ⟨g,a1⟩
 have hAs:∃ a,(some ⟨g,0,none⟩:Option Addr)=some a:=⟨_,rfl⟩
 (refine ad ?_;(repeat' first|refine And.intro ?_ ?_|intro _);all_goals refine ah.mk ?_)
 refine au (fun k:Nat=>[(0,.slice (some ⟨g,0,none⟩) n c),(2,.slice none 0 0),(3,.int .i64 (k:Nat))])
  (fun k w1=>(1≤k∧k≤n)∧R.Own F W w1 (.row (some ⟨g,0,none⟩) n c 113 26 (L.flatMap bF)::l)∧∀ j,1≤j→j<k→nth L j≠nth L (j-1)) (fun k=>n-k)
  ⟨1,⟨rfl,rfl,rfl,trivial⟩,⟨by omega,by omega⟩,hM,fun j h3 h4=>by omega⟩ ?_
 clear hM
 rintro k f w1 ⟨⟨hk1,hk⟩,hM,hall⟩
 have e1:(((k:Nat):Int)-1).toNat=k-1:=by omega
 by_cases hlt:k<n
 ·(refine ad ?_;(repeat' first|refine And.intro ?_ ?_|intro _);all_goals refine ah.mk ?_)
  ·rename_i hM heq
   rw [e1] at heq
   have htk:=nJ xj hall
   have hd1:ry L (k+1)=L.take k:=by
    rw [← htk]
    exact if_pos ⟨hk1,heq⟩
   have hcs:∃ a,R.mH (some ⟨g,0,none⟩) c k 26=some a:=sc hAs
   refine au (fun x:Nat×Nat×List Sp=>[(0,.slice (some ⟨g,0,none⟩) n c),(2,.slice none 0 0),(3,.int .i64 (x.2.1:Nat)),(4,.slice (R.mH (some ⟨g,0,none⟩) c k 26) (n-k) (c-k)),(5,.int .i64 (x.1:Nat))])
    (fun x w1=>(1≤x.1∧x.1≤n-k)∧(x.2.2.length=n∧x.2.1≤k+x.1-1∧x.2.2.take x.2.1=ry L (k+x.1)∧x.2.1=(ry L (k+x.1)).length∧x.2.2.drop (k+x.1-1)=L.drop (k+x.1-1))∧R.Own F W w1 (.row (some ⟨g,0,none⟩) n c 113 26 (x.2.2.flatMap bF)::l)) (fun x=>n-k-x.1)
    ⟨(1,k,L),⟨rfl,rfl,rfl,rfl,rfl,trivial⟩,⟨by dsimp only;omega,by dsimp only;omega⟩,⟨hn.symm,by dsimp only;omega,hd1.symm,by dsimp only;rw [hd1,List.length_take];omega,rfl⟩,hM⟩ ?_
   clear hM
   rintro ⟨q,m,M⟩ f w2 ⟨⟨hq1,hq⟩,⟨hMl,hmq,hMt,hml,hMd⟩,hM⟩
   dsimp only at hq1 hq hMl hmq hMt hml hMd hM ⊢
   have e2:(((q:Nat):Int)-1).toNat=q-1:=by omega
   by_cases hqt:q<n-k
   ·have g1:nth M (k+q)=nth L (k+q):=qQ hMd xj
    have g2:nth M (k+(q-1))=nth L (k+(q-1)):=qQ hMd xj
    (refine ad ?_;(repeat' first|refine And.intro ?_ ?_|intro _);all_goals refine ah.mk ?_)
    rw [j7 (by omega)]
    (refine ad ?_;(repeat' first|refine And.intro ?_ ?_|intro _);all_goals refine ah.mk ?_)
    rw [j7 (by omega)]
    (refine ad ?_;(repeat' first|refine And.intro ?_ ?_|intro _);all_goals refine ah.mk ?_)
    ·rename_i hM hne
     rw [e2,g1,g2,show k+(q-1)=k+q-1 by omega] at hne
     rw [j7 (by omega)]
     (refine ad ?_;(repeat' first|refine And.intro ?_ ?_|intro _);all_goals refine ah.mk ?_)
     refine Jh rfl rfl rfl hM .head xj ?_
     intro w3 hM3
     clear hM
     (refine ad ?_;(repeat' first|refine And.intro ?_ ?_|intro _);all_goals refine ah.mk ?_)
     have hd2:ry L (k+q+1)=ry L (k+q)++[nth L (k+q)]:=if_neg fun hc=>hne hc.2
     refine ⟨(q+1,m+1,M.set m (nth M (k+q))),⟨rfl,rfl,aF rfl (by dsimp only;omega),rfl,aF rfl (by dsimp only;omega),trivial⟩,⟨⟨by dsimp only;omega,by dsimp only;omega⟩,⟨by dsimp only;rw [List.length_set];exact hMl,by dsimp only;omega,by dsimp only;rw [← Nat.add_assoc,hd2,oU xj,hMt,g1],by dsimp only;rw [← Nat.add_assoc,hd2,List.length_append,← hml];rfl,?_⟩,hM3⟩,by dsimp only;omega⟩
     dsimp only
     rw [List.drop_set_of_lt (by omega)]
     have:=congrArg (List.drop 1) hMd
     rw [List.drop_drop,List.drop_drop,show k+q-1+1=k+(q+1)-1 by omega] at this
     exact this
    ·rename_i hM heq2
     rw [e2,g1,g2,show k+(q-1)=k+q-1 by omega] at heq2
     have heq2:=Decidable.not_not.1 heq2
     have hd2:ry L (k+q+1)=ry L (k+q):=if_pos ⟨by omega,heq2⟩
     refine ⟨(q+1,m,M),⟨rfl,rfl,rfl,rfl,aF rfl (by dsimp only;omega),trivial⟩,⟨⟨by dsimp only;omega,by dsimp only;omega⟩,⟨hMl,by dsimp only;omega,by dsimp only;rw [← Nat.add_assoc,hd2];exact hMt,by dsimp only;rw [← Nat.add_assoc,hd2];exact hml,?_⟩,hM⟩,by dsimp only;omega⟩
     dsimp only
     have:=congrArg (List.drop 1) hMd
     rw [List.drop_drop,List.drop_drop,show k+q-1+1=k+(q+1)-1 by omega] at this
     exact this
   ·obtain rfl:q=n-k:=by omega
    rw [show k+(n-k)=n by omega,show ry L n=dd L by rw [hn];rfl] at hMt hml
    have hmn:m≤n-1:=by omega
    (refine ad ?_;(repeat' first|refine And.intro ?_ ?_|intro _);all_goals refine ah.mk ?_)
    have hM2:R.Own F W w2 (.row (some ⟨g,0,none⟩) m c 113 26 ((dd L).flatMap bF)::l):=by
     have h:=D3 hM (m:=m) xj
     rw [show (M.flatMap bF).take (m*26)=(M.take m).flatMap bF from pC (fun x=>cA.len x) M m,hMt] at h
     exact h
    refine yo rfl Zk vj vj rfl hM2 xj xj (Nat.le_refl _) xj ?_
    intro w3 hM3
    clear hM hM2
    (refine ad ?_;(repeat' first|refine And.intro ?_ ?_|intro _);all_goals refine ah.mk ?_)
    rw [← hml]
    exact ⟨rfl,hM3⟩
  ·rename_i hM hne
   rw [e1] at hne
   refine ⟨k+1,⟨rfl,rfl,aF rfl xj,trivial⟩,⟨⟨by omega,by omega⟩,hM,fun j h3 h4=>?_⟩,by omega⟩
   by_cases hj:j=k
   ·rw [hj]
    exact hne
   ·exact hall j h3 xj
 ·obtain rfl:k=n:=by omega
  (refine ad ?_;(repeat' first|refine And.intro ?_ ?_|intro _);all_goals refine ah.mk ?_)
  have e:dd L=L:=by
   unfold dd
   rw [nJ (Nat.le_refl _) (by rw [← hn];exact hall),List.take_length]
  rw [e,← hn]
  exact ⟨rfl,hM⟩
instance aa9 (a b:Int):Dt Tryz.prog 115 #[.int .u64 a,.int .u64 b] Unit (fun _ _=>True) (fun _=>.int .i64 (aR a b)):=⟨fun _ w _=>(tq a b w).mono fun e w' h=>by
 obtain ⟨rfl,h2⟩:=h
 refine ⟨?_,h2⟩
 by_cases h1:a<b
 ·rw [if_pos h1,kR h1]
 ·by_cases h3:b<a
  ·rw [if_neg h1,if_pos h3,kS h3]
  ·rw [if_neg h1,if_neg h3,show a=b by omega,fm]⟩
def O9 (c:Ct):Prop:=0≤c.n∧c.n≤4611686018427387904∧1≤c.d∧c.d≤4611686018427387904
theorem YH (x y:Int):te (aR (fW x) (fW y)) (aR (aw x) (aw y))=aR x y:=by
 rcases Int.lt_trichotomy x y with h|h|h
 ·rw [kR h]
  rcases (wG (x:=y) (y:=x)).2 h with h1|⟨h1,h2⟩
  ·rw [kR h1]
   rfl
  ·rw [h1,fm,kR h2]
   rfl
 ·subst h
  rw [fm,fm,fm]
  rfl
 ·rw [kS h]
  rcases (wG (x:=x) (y:=y)).2 h with h1|⟨h1,h2⟩
  ·rw [kS h1]
   rfl
  ·rw [h1,fm,kS h2]
   rfl
attribute [local irreducible] aq aR in
set_option maxHeartbeats 4000000 in
theorem G6 (a b:Ct) (w:World) (ha:O9 a) (hb:O9 b):Calls Tryz.prog 67 #[.agg (eO a).toArray,.agg (eO b).toArray] w fun e w'=>e=.returned (.int .i64 (LR a b))∧Below w.heap.size w w':=by
 have hM:=R.Own.start [] w
 obtain ⟨a1,a2,a3,a4⟩:=ha
 obtain ⟨b1,b2,b3,b4⟩:=hb
 have u1:ai (fW (a.n*b.d))∧ai (aw (a.n*b.d)):=Jw _ _ (by unfold ai;omega) (by unfold ai;omega)
 have u2:ai (fW (b.n*a.d))∧ai (aw (b.n*a.d)):=Jw _ _ (by unfold ai;omega) (by unfold ai;omega)
 have hf:=YH (a.n*b.d) (b.n*a.d)
 refine aa (fn:=Tryz.f67) Tryz.func67 rfl Tryz.ntmps67 (Nat.le_of_ble_eq_true rfl) ?_
 (refine ad ?_;(repeat' first|refine And.intro ?_ ?_|intro _);all_goals refine ah.mk ?_)
 rename_i hM
 refine aA rfl rfl vv ?_
 refine (we _ _ _ _ _ (R.Own.wW hM (.head _))).mono ?_
 rintro e w' ⟨rfl,rfl⟩
 refine ⟨_,rfl,?_⟩
 rw [hf]
 (refine ad ?_;(repeat' first|refine And.intro ?_ ?_|intro _);all_goals refine ah.mk ?_;(all_goals (try (exact ⟨rfl,R.Own.below ww⟩))))
theorem Bm {a b:Ct}:LR a b<0↔a.n*b.d<b.n*a.d:=cC
set_option maxHeartbeats 4000000 in
theorem Ln {F:List Nat} {W w:World} {l:List bX} {A:Option Addr} {c n:Nat} (L:List Ct) (hn:n=L.length) (hb:n≤1000000000) (hL:∀ c∈L,O9 c) (hM:R.Own F W w (.row A n c 115 28 (L.flatMap eO)::l)) :
  Calls Tryz.prog 37 #[.slice A n c] w fun e w'=>∃ D:List Ct,D.Perm L∧(D.Pairwise fun a b=>¬ LR b a<0)∧e=.returned (.slice A (dd D).length c)∧R.Own F W w' (.row A (dd D).length c 115 28 ((dd D).flatMap eO)::l):=by
 refine aa (fn:=Tryz.f37) Tryz.func37 rfl Tryz.ntmps37 (Nat.le_of_ble_eq_true rfl) ?_
 (refine ad ?_;(repeat' first|refine And.intro ?_ ?_|intro _);all_goals refine ah.mk ?_)
 refine ar rfl rfl vv vv ?_
 refine (UN O9 LR (fun x _=>by rw [Bm];omega) (fun x y z hx hy hz h1 h2=>?_) (fun x y z hx hy hz h1 h2=>?_) 67 [] L hn hL hM xj (fun w' hO x y hx hy=>G6 x y w' hx hy)).mono ?_
 ·rw [Bm] at *
  have hx1:=hx.2.2.1
  have hy1:=hy.2.2.1
  have hz1:=hz.2.2.1
  exact (ja (x:=x.n) (u:=x.d) (y:=y.n) (v:=y.d) (z:=z.n) (w:=z.d) xj xj xj xj xj).2.1 (.inl h1)
 ·rw [Bm] at *
  have hx1:=hx.2.2.1
  have hy1:=hy.2.2.1
  have hz1:=hz.2.2.1
  have:=(ja (x:=z.n) (u:=z.d) (y:=y.n) (v:=y.d) (z:=x.n) (w:=x.d) xj xj xj xj xj).1
  omega
 rintro _ w2 ⟨rfl,D,h1,h2,hM⟩
 refine ⟨_,rfl,?_⟩
 (refine ad ?_;(repeat' first|refine And.intro ?_ ?_|intro _);all_goals refine ah.mk ?_)
 refine aA rfl rfl vv ?_
 refine (G4 D (by rw [h1.length_eq];exact hn) hb hM).mono ?_
 rintro _ w3 ⟨rfl,hM⟩
 refine ⟨_,rfl,?_⟩
 (refine ad ?_;(repeat' first|refine And.intro ?_ ?_|intro _);all_goals refine ah.mk ?_)
 exact ⟨D,h1,h2,rfl,hM⟩
section
namespace R
section
variable {P:Program} {n:Nat} {f:Fr} {w:World}
theorem kf {F:List Nat} {W:World} {L:List bX} {r1:bX} {Q:Exit→Fr→World→Prop} {id:Nat} {l:List Oper} (pl:List (Nat×Bool)) (hm:P.follows .mixedOrders=true) (hB:mO l.toArray pl=true) (hM:Own F W w (r1::L))
  (h:∀ w1,Own F W w1 (r1::L)→WX P l.toArray n (fun w2=>Own F W w2 L) (fun w2=>Own F W w2 L) (fun f' w'=>Q .normal f' w') pl f w1):WC P n Q (.region id l.toArray true) f w:=by
 unfold WC
 intro a ha
 simp only [mO,Bool.and_eq_true,beq_iff_eq] at hB
 have h1:=h _ hM.drew a _ ha hB.1.2 hB.2 fun _ _ _=>.inl hM.drew.tl
 rw [hB.1.1] at h1
 refine wp_mono (wp_region_any (id:=id) (Q:=pZ n fun f' w'=>Q .normal f' w') hm (mN _ _ _ _ h1)) fun e a' w' he=>?_
 obtain ⟨rfl,f',ha',hq⟩:=he
 exact ⟨f',ha',hq⟩
end
end R
section
variable {T:Type} {e:TypeId} {sz:Nat} {enc:T→List Value} {F:List Nat} {W0 w:World} {l:List bX} {M:List (Sl T)} {j:Nat}
def m6 (e:TypeId) (sz:Nat) (enc:T→List Value) (x:Sl T):bX:=.row x.A x.n x.c e sz (x.L.flatMap enc)
def gr (e:TypeId) (sz:Nat) (enc:T→List Value) (M:List (Sl T)):List bX:=M.map (m6 e sz enc)
theorem oF (M N:List (Sl T)):gr e sz enc (M++N)=gr e sz enc M++gr e sz enc N:=List.map_append
theorem Pb (hj:j<M.length):M=M.take j++nth M j::M.drop (j+1):=by
 rw [av hj,List.getElem_cons_drop,List.take_append_drop]
theorem Pe (hj:j<M.length):(gr e sz enc M).Perm (m6 e sz enc (nth M j)::(gr e sz enc (M.take j)++gr e sz enc (M.drop (j+1)))):=by
 conv=>lhs;rw [Pb hj,oF]
 exact List.perm_middle
theorem T9 (hj:j<M.length) (x:Sl T):(gr e sz enc (M.set j x)).Perm (m6 e sz enc x::(gr e sz enc (M.take j)++gr e sz enc (M.drop (j+1)))):=by
 rw [List.set_eq_take_append_cons_drop,if_pos hj,oF]
 exact List.perm_middle
theorem sm {pre:List bX} (hM:R.Own F W0 w (pre++gr e sz enc M)) (hj:j<M.length):R.Own F W0 w (m6 e sz enc (nth M j)::(pre++(gr e sz enc (M.take j)++gr e sz enc (M.drop (j+1))))) :=
 hM.perm (List.perm_middle.symm.trans (List.Perm.append_left pre (Pe hj).symm))
theorem wu {pre:List bX} {x:Sl T} (hM:R.Own F W0 w (m6 e sz enc x::(pre++(gr e sz enc (M.take j)++gr e sz enc (M.drop (j+1)))))) (hj:j<M.length):R.Own F W0 w (pre++gr e sz enc (M.set j x)) :=
 hM.perm ((List.Perm.append_left pre (T9 hj x)).trans List.perm_middle)
theorem qR (hj:j<M.length):m6 e sz enc (nth M j)∈gr e sz enc M:=List.mem_map.2 ⟨_,R.aB hj,rfl⟩
end
theorem R.Own.ti {F:List Nat} {W w w':World} {l lc:List bX} (h:R.Own F W w l) (hc:R.Own [] w w' lc):R.Own F W w' (l++lc):=R.Own.N4 (l:=l) (lc:=[]) (by rw [List.append_nil];exact h) hc
theorem Pf {T U:Type} [Inhabited T] [Inhabited U] {f:T→U} {L:List T} {i:Nat} (h:i<L.length):nth (L.map f) i=f (nth L i):=by
 rw [av (by rw [List.length_map];exact h),av h,List.getElem_map]
instance ZV:iU Tryz.prog 69 (Sl Ct) iH 1:={}
end
namespace R
section
variable {F:List Nat} {W w w':World} {l l':List bX}
theorem Own.turn (h:Own F W w l) {row:Option Nat} (hg:w.grownBy w' row) (hr:∀ k,row=some k→W.heap.size≤k∧∀ r∈l,r.key≠some k):Own F W w' l :=
 ⟨hg.os.trans h.os,hg.tape.trans h.tape,hg.output.trans h.output,Nat.le_trans h.size hg.size,h.ir hg (fun k e=>.inl (hr k e).1),fun x hx=>(h.ok x hx).kC hg (fun k hk e=>(hr k e).2 x hx hk),h.own,h.nodup⟩
def vL (l:List bX):Prop:=∀ r∈l,∀ b es c,r≠.map b es c
theorem Own.cells (h:Own F W w l) (hn:vL l) {r:bX} (hm:r∈l) {k:Nat} (hk:r.key=some k):∃ o,w.heap[k]?=some o∧o.isCells=true:=by
 have hok:=h.ok r hm
 cases r with
 | blk g t cs =>
  cases hk
  exact ⟨_,hok,rfl⟩
 | row A n c e sz cs =>
  rcases hok.2 with ⟨hv,_⟩|⟨g,cap,cur,hv,_,hgb,_⟩
  ·cases hv
   cases hk
  ·injection hv with a1 a2 a3
   subst a1
   cases hk
   exact ⟨_,hgb,rfl⟩
 | map b es c=>exact absurd rfl (hn _ hm b es c)
theorem DA {β γ:Type} {B:Nat} {W0:World} (hB:W0.heap.size≤B) (L:β→γ→List bX) (G:β→γ→Prop) (hn:∀ s x,vL (L s x)):OwnFrom B (fun s W=>∃ x,Own [] W0 W (L s x)∧G s x):=fun s X Y row hs hg hr=>by
 obtain ⟨x,h1,h2⟩:=hs
 refine ⟨x,h1.turn hg fun k e=>?_,h2⟩
 obtain ⟨h3,o,ho,hc⟩:=hr k e
 refine ⟨Nat.le_trans hB h3,fun r hm hk=>?_⟩
 obtain ⟨o',ho',hc'⟩:=h1.cells (hn s x) hm hk
 rw [ho] at ho'
 cases ho'
 rw [hc] at hc'
 cases hc'
def Oo (B:Nat) (W W':World):Prop:=Below B W W'∧KeepsWalks W W'
theorem Oo.trans {B:Nat} {X Y Z:World} (h:Oo B X Y) (k:Oo B Y Z):Oo B X Z:=⟨h.1.trans k.1,h.2.trans k.2⟩
theorem j8 (h0:Own [] W w l) (hn:vL l) (hc:Own (fQ l) w w' l'):Oo W.heap.size w w'∧∀ B,KeepsFrom B w w':=by
 have nc:∀ (k:Nat) (o:Obj),w.heap[k]?=some o→o.isCells=false→w'.heap[k]?=some o:=fun k o hk ho=>by
  refine (hc.kept k (Array.getElem?_eq_some_iff.1 hk).1 fun hm=>?_).trans hk
  obtain ⟨r,hr,hr'⟩:=List.mem_filterMap.1 hm
  obtain ⟨o',ho',hc'⟩:=h0.cells hn hr hr'
  rw [hk] at ho'
  cases ho'
  rw [ho] at hc'
  cases hc'
 refine ⟨⟨⟨hc.os,hc.tape,hc.output,hc.size,fun k hk=>hc.kept k (Nat.lt_of_lt_of_le hk h0.size) fun hm=>?_⟩,⟨hc.size,fun k o hk ho=>nc k o hk (Obj.not_cells_of_walk ho)⟩⟩,fun B=>⟨hc.size,fun k o _ hk ho=>nc k o hk ho⟩⟩
 rcases h0.ye k hm with h1|h1
 ·omega
 ·cases h1
end
abbrev VV:bO:=fun _ _ _ _=>False
structure vM (n:Nat) (a:Act) (f:Fr):Prop where
 size:a.tmps.size=n
 get:∀ t,a.tmps.getD t undef=f t
section
variable {P:Program} {n m:Nat} {a:Act} {f:Fr} {o:Oper} {w:World} {Fe:Fence} {ops:Array Oper} {Q:Exit→Act→World→Prop} {D:List Deferred} {rest:List Oper}
theorem Is.is0 (h:Is n a f):vM n a f:=⟨h.size,h.get⟩
theorem vM.eval (h:vM n a f):a.eval=ev f:=(show Is n { tmps:=a.tmps,defers:=[] } f from ⟨h.size,h.get,rfl⟩).eval
theorem vM.put (h:vM n a f) (d:Option Nat) (v:Value) (hd:fx n d=true):vM n (a.put d v) (cH f d v)∧(a.put d v).defers=a.defers:=by
 have:=(show Is n { tmps:=a.tmps,defers:=[] } f from ⟨h.size,h.get,rfl⟩).put d v hd
 cases d with
 | none=>exact ⟨h,rfl⟩
 | some d=>exact ⟨⟨this.size,this.get⟩,rfl⟩
theorem aa1 (hF:∀ g,Fe.fn g) (ha:vM n a f) {K:Value→World→Prop} {next:Act→World→Prop} (h:WO P VV o f w K) (hnd:∀ c,o.op≠.defer c) (hK:∀ v w',K v w'→next (a.put o.dst v) w'):o.wpIn Fe m P a w next Q:=by
 refine ⟨fun g _=>hF g,?_⟩
 rw [Oper.semAt_eq _ _ _ hnd,ha.eval]
 unfold WO at h
 generalize (execOp (ev f) o).run P w=r at *
 cases r with
 | halt x w'=>exact h.elim
 | ok x w' =>
  cases x with
  | value v=>exact hK _ _ h
  | skip=>exact hK _ _ h
  | _=>exact (show False from h).elim
def IL (P:Program) (Fe:Fence) (m n:Nat) (ops:Array Oper) (Q:Exit→Act→World→Prop) (D:List Deferred) (rest:List Oper) (f:Fr) (w:World):Prop:=∀ a,vM n a f→a.defers=D→wpListIn Fe m P ops Q rest a w
theorem fD {f:Fr} {w:World} (h:∀ a,vM n a f→a.defers=D→Q .normal a w):IL P Fe m n ops Q D [] f w:=fun a ha hd=>wpListIn_nil (h a ha hd)
theorem aJ (hF:∀ g,Fe.fn g) (hg:o.guard=none) (hnd:∀ c,o.op≠.defer c) (hd:fx n o.dst=true) (h:WO P VV o f w fun v w'=>IL P Fe m n ops Q D rest (cH f o.dst v) w'):IL P Fe m n ops Q D (o::rest) f w:=fun _ ha hD =>
 wpListIn_plain hg fun _ hK=>aa1 hF ha h hnd fun v _ hk=>hK _ _ (hk _ (ha.put o.dst v hd).1 ((ha.put o.dst v hd).2.trans hD))
end
theorem vN (n:Nat) (l:List Value) (hl:l.length≤n):vM n { tmps:=l.toArray++Array.replicate (n-l.toArray.size) undef,defers:=[] } (inits l):=by
 refine ⟨by simp;omega,fun t=>?_⟩
 rw [← n5]
 have e1:l.toArray++Array.replicate (n-l.toArray.size) undef=(l++List.replicate (n-l.length) undef).toArray:=by simp
 rw [e1]
 simp only [List.getD_eq_getElem?_getD,Array.getD_eq_getD_getElem?,List.getElem?_toArray,List.getElem?_append]
 split
 ·rfl
 ·rename_i hlt
  rw [show l[t]?=none from List.getElem?_eq_none xj,List.getElem?_replicate]
  split <;> rfl
def Oq (E:TypeId):Code:=.region 2 #[{ dst:=some 5,op:=.alloc E,type:=0,pos:= "iter.go:51",after:=#[],guard:=none },{ dst:=none,op:=.store E (.tmp 5) (.tmp 7),type:=0,pos:= "iter.go:51",after:=#[{ on:=0,ground:=.data },{ on:=0,ground:=.phase }],guard:=none }] false
def Yt (S E:TypeId):Code:=.block 1 (.region 3 #[{ dst:=some 8,op:=.load S (.tmp 2),type:=S,pos:= "iter.go:52",after:=#[],guard:=none },{ dst:=some 9,op:=.load E (.tmp 5),type:=E,pos:= "iter.go:52",after:=#[],guard:=none },{ dst:=some 10,op:=.buildSlice S 1 #[(0,.tmp 9)],type:=S,pos:= "iter.go:52",after:=#[{ on:=1,ground:=.data }],guard:=none },{ dst:=some 11,op:=.call { callee:=.builtin .append,args:=#[.tmp 8,.tmp 10],argTypes:=#[S,S] },type:=S,pos:= "iter.go:52",after:=#[{ on:=0,ground:=.data },{ on:=2,ground:=.data }],guard:=none },{ dst:=none,op:=.store S (.tmp 2) (.tmp 11),type:=0,pos:= "iter.go:52",after:=#[{ on:=3,ground:=.data },{ on:=3,ground:=.chain },{ on:=0,ground:=.phase },{ on:=1,ground:=.phase },{ on:=2,ground:=.phase },{ on:=3,ground:=.phase }],guard:=none }] false)
def Ot (S E Y:TypeId):Code :=
 (Code.region 0 #[{ dst:=some 2,op:=.box S (.tmp 0),type:=0,pos:= "iter.go:50",after:=#[],guard:=none },{ dst:=some 4,op:=.assign (.const (.slice none 0 0)),type:=S,pos:= "iter.go:50",after:=#[],guard:=none }] false).seq
  (((Code.region 1 #[{ dst:=some 6,op:=.move (.tmp 1),type:=Y,pos:= "iter.go:51",after:=#[],guard:=none }] false).seq (.block 0 (.rangeFunc (.tmp 6) #[7] (Oq E) (Yt S E)))).seq
   ((Code.region 4 #[{ dst:=some 12,op:=.load S (.tmp 2),type:=S,pos:= "iter.go:54",after:=#[],guard:=none },{ dst:=some 4,op:=.assign (.tmp 12),type:=S,pos:= "iter.go:54",after:=#[{ on:=0,ground:=.data },{ on:=0,ground:=.phase }],guard:=none }] false).seq .ret))
theorem d7 (l:Nat):∀ g,(Fence.wide.inRound l).fn g:=fun _=>trivial
section
variable {P:Program} {g gf:FuncId} {fn:Func} {S E Y:TypeId} {T:Type} {enc:T→List Value} {sz bytes:Nat} {zc:List Value} {lb:Array Value} {w:World} {N:Nat} {Sx:List T→Prop}
set_option maxHeartbeats 2000000 in
theorem iI (hfn:P.funcs[g]?=some fn) (hb:fn.body=some (Ot S E Y)) (hn:fn.ntmps=13) (hr:fn.results=#[.tmp 4]) [ab P gf] [bq P S E sz] [EL:cV P E (.agg zc.toArray) sz bytes] [bY P E (.agg zc.toArray)] [iU P E T enc sz] [aG P E true] [dP P E sz] [aG P S false] [dP P S 1]
  (hsz:1*sz≤16777216) (hNb:N*bytes≤140737488355328) (hN:N≤9223372036854775807)
  (hseq:∀ w1,Below w.heap.size w w1→SeqStopsK Fence.wide 4 P gf lb (fun x:T=>#[.agg (enc x).toArray]) (Oo w.heap.size) Sx (fun _=>True) N w1) :
  Calls P g #[.slice none 0 0,.func (.func gf) #[] lb] w fun e w'=>∃ A c xs,Sx xs∧(xs=[]→A=none∧c=0)∧e=.returned (.slice A xs.length c)∧Own [] w w' [.row A xs.length c E sz (xs.flatMap enc)]:=by
 have hzl:zc.length=sz:=by
  have h1:(Value.agg zc.toArray).cells.size=sz:=EL.c
  have h2:(Value.agg zc.toArray).cells=zc.toArray:=rfl
  rw [h2] at h1
  simpa using h1
 have henc:∀ x,(enc x).length=sz:=fun x=>cA.len (enc:=enc) x
 have hone:∀ x,(enc x).all (·.oneCell')=true:=fun x=>List.all_eq_true.2 fun v hv=>cA.one (enc:=enc) x v hv
 have hnm:∀ (A:Option Addr) (k c B:Nat) (cs:List Value) (v:List Value),vL [.row A k c E sz cs,.blk B S v]:=fun A k c B cs v r hr b es q e=>by
  subst e
  rcases List.mem_cons.1 hr with h|h
  ·cases h
  ·cases List.mem_singleton.1 h
 refine (callsIn_wide (n:=5)).1 (callsIn_of_wp_marks hfn hb trivial ?_ rfl)
 rw [hn]
 have ha0:=vN 13 [.slice none 0 0,.func (.func gf) #[] lb] (Nat.le_of_ble_eq_true rfl)
 generalize hact:({ tmps:=[Value.slice none 0 0,.func (.func gf) #[] lb].toArray++Array.replicate (13-[Value.slice none 0 0,.func (.func gf) #[] lb].toArray.size) Go.undef,defers:=[] }:Act)=a0 at ha0
 have hd0:a0.defers=[]:=by rw [← hact]
 unfold Ot
 refine wpIn_seq (wpIn_region_lit ((show IL P Fence.wide 5 13 _ _ [] _ (inits [.slice none 0 0,.func (.func gf) #[] lb]) w from ?_) a0 ha0 hd0))
 refine aJ (fun _=>trivial) rfl (fun c h=>by cases h) rfl ?_
 refine lT (v:=.slice none 0 0) rfl rfl rfl (Own.start [] w) fun gB w1 hM1=>?_
 refine aJ (fun _=>trivial) rfl (fun c h=>by cases h) rfl ?_
 refine aH (x:=.const (.slice none 0 0)) rfl rfl ?_
 refine fD fun a1 ha1 hd1=>?_
 refine wpIn_seq (wpIn_seq (wpIn_region_lit ((show IL P Fence.wide 5 13 _ _ [] _ _ w1 from ?_) a1 ha1 hd1)))
 refine aJ (fun _=>trivial) rfl (fun c h=>by cases h) rfl ?_
 refine aH (x:=.tmp 1) (v:=.func (.func gf) #[] lb) rfl rfl ?_
 refine fD fun a2 ha2 hd2=>?_
 have hev6:a2.eval (.tmp 6)=.func (.func gf) #[] lb:=by rw [ha2.eval];rfl
 have hM1':Own [] w w1 [.row none 0 0 E sz [],.blk gB S [.slice none 0 0]]:=hM1.nil E sz
 have hB1:=hM1.below
 refine wpIn_block ?_
 refine wpIn_rangeFunc_ownH (F:=Fence.wide) (n:=5) (w:=w1) rfl vj (gf:=gf) (lb:=lb) hev6 trivial (fun args w=>aM inferInstance args w) (hseq w1 hB1)
  (fun h k=>h.trans k) (fun W l o o' hl ho hc hwk=>⟨belowK_b (w:=w1) hB1.size W l o o' hl ho hc hwk,walksK_b (w:=w1) W l o o' hl ho hc hwk⟩) (Below.refl _ _) (fun _=>rfl)
  (fun pre W=>∃ x:Option Addr×Nat,Own [] w W [.row x.1 pre.length x.2 E sz (pre.flatMap enc),.blk gB S [.slice x.1 pre.length x.2]]∧(pre=[]→x.1=none∧x.2=0))
  (fun _ _ _=>False)
  (DA hM1.size (fun (pre:List T) (x:Option Addr×Nat)=>[.row x.1 pre.length x.2 E sz (pre.flatMap enc),.blk gB S [.slice x.1 pre.length x.2]]) _ (fun s x=>hnm _ _ _ _ _ _))
  (fun _ _ _ _ _ hs _ _=>hs)
  ⟨(none,0),hM1',fun _=>⟨rfl,rfl⟩⟩
  (fun x a' W=>∃ Bx f,vM 13 a' f∧a'.defers=[]∧f 2=.pointer (some ⟨gB,0,none⟩)∧f 5=.pointer (some ⟨Bx,0,none⟩)∧W.heap[Bx]?=some (.cells (enc x).toArray E (0,0)))
  (fun x a' u X Z row hs hg hrw=>by
   obtain ⟨Bx,f,h1,h2,h3,h4,h5⟩:=hs
   refine ⟨Bx,f,h1,h2,h3,h4,(hg.block Bx (Array.getElem?_eq_some_iff.1 h5).1 fun e=>?_).trans h5⟩
   obtain ⟨_,o,ho,hc⟩:=hrw Bx e.symm
   rw [h5] at ho
   cases ho
   cases hc)
  ?assign ?body ?done ?stop
 case assign =>
  rintro l pre x W K ⟨⟨A,c⟩,hI,hnil⟩ hK
  have hIs:vM 13 { tmps:=((#[7]:Array Tmp).zip #[.agg (enc x).toArray]).foldl (fun t (p,v)=>t.setIfInBounds p v) a2.tmps,defers:=[] } (cw (cH (cH (cH (inits [.slice none 0 0,.func (.func gf) #[] lb]) (some 2) (.pointer (some ⟨gB,0,none⟩))) (some 4) (.slice none 0 0)) (some 6) (.func (.func gf) #[] lb)) 7 (.agg (enc x).toArray)):=by
   have:=(ha2.put (some 7) (.agg (enc x).toArray) rfl).1
   have e:((#[7]:Array Tmp).zip #[.agg (enc x).toArray]).foldl (fun t (p,v)=>t.setIfInBounds p v) a2.tmps=a2.tmps.setIfInBounds 7 (.agg (enc x).toArray):=by
    rw [← Array.foldl_toList,Array.toList_zip]
    rfl
   rw [e]
   exact ⟨this.size,this.get⟩
  have hF:=Own.sa hI.N3
  refine wpIn_region_lit ((show IL P (Fence.wide.inRound l) _ 13 _ _ [] _ _ W from ?_) _ hIs rfl)
  refine aJ (d7 l) rfl (fun c h=>by cases h) rfl ?_
  refine dO (z:=.agg zc.toArray) rfl hF fun gx w2 hM2=>?_
  refine aJ (d7 l) rfl (fun c h=>by cases h) rfl ?_
  refine iu (g:=gx) (ds:=enc x) rfl rfl rfl hM2 .head (henc x) (by simpa [Value.cells] using hzl) (hone x) fun w3 hM3=>?_
  refine fD fun a3 ha3 hd3=>?_
  have hM4:Own _ W w3 _:=hM3.tl
  have hk:=j8 hI (hnm _ _ _ _ _ _) hM4
  exact hK a3 w3 (hk.2 _) hk.1 ⟨(A,c),Own.Ay hI hM4,hnil⟩ ⟨gx,_,ha3,hd3,rfl,rfl,hM3.ok _ (.head _)⟩
 case body =>
  rintro l pre x a' W hl ⟨r,hr'⟩ ⟨⟨A,c⟩,hI,hnil⟩ ⟨Bx,f,ha,hd,h2,h5,hBx⟩ hlen
  dsimp only at hI hnil
  have hF:=Own.sa hI.N3
  refine wpIn_block (wpIn_region_lit ((show IL P (Fence.wide.inRound l) _ 13 _ _ [] _ f W from ?_) a' ha hd))
  refine aJ (d7 l) rfl (fun c h=>by cases h) rfl ?_
  refine dt (j:=0) rfl h2 rfl hF (.tail _ (.head _)) rfl ?_
  refine aJ (d7 l) rfl (fun c h=>by cases h) rfl ?_
  refine bP (m:=sz) (cs:=enc x) rfl (show cH f (some 8) _ 5=_ from h5) (henc x) (gZ.ql hBx) ?_
  refine aJ (d7 l) rfl (fun c h=>by cases h) rfl ?_
  refine ou (v0:=.agg (enc x).toArray) (d0:=enc x) rfl rfl hsz hF rfl (henc x) fun A1 c1 w2 hM2=>?_
  refine aJ (d7 l) rfl (fun c h=>by cases h) rfl ?_
  refine mD (enc:=enc) (L:=pre) (M:=[x]) (l':=fun A2 c2=>[.row A1 1 c1 E sz (enc x),.row A2 (pre.length+1) c2 E sz ((pre++[x]).flatMap enc),.blk gB S [.slice A pre.length c]]) rfl rfl rfl hM2 (fun A2 c2=>.tail .head) ⟨rfl⟩ (hM2.rd (.head _)) ⟨by simp⟩ xj ?_ fun A2 c2 w3 hM3=>?_
  ·exact Nat.le_trans (Nat.mul_le_mul_right _ (show pre.length+1≤N by omega)) hNb
  refine aJ (d7 l) rfl (fun c h=>by cases h) rfl ?_
  refine fh (g:=gB) (j:=0) (v:=.slice A2 (pre.length+1) c2) (l':=[.row A1 1 c1 E sz (enc x),.row A2 (pre.length+1) c2 E sz ((pre++[x]).flatMap enc),.blk gB S [.slice A2 (pre.length+1) c2]]) rfl h2 rfl rfl rfl hM3 (.tail (.tail .head)) Nat.zero_lt_one fun w4 hM4=>?_
  refine fD fun a3 ha3 hd3=>?_
  have hM5:=hM4.tl
  have hk:=j8 hI (hnm _ _ _ _ _ _) hM5
  refine ⟨hk.2 _,hk.1,(A2,c2),?_,fun h=>by simp at h⟩
  have:=Own.Ay hI hM5
  simpa using this
 case done =>
  rintro D xs W hD hS ⟨⟨A,c⟩,hM,hnil⟩ hK
  dsimp only at hM hnil
  have ha3:vM 13 { a2 with defers:={ target:=.collected D,args:=#[] }::a2.defers } _:=⟨ha2.size,ha2.get⟩
  refine wpIn_seq (wpIn_region_lit ((show IL P Fence.wide 5 13 _ _ ({ target:=.collected D,args:=#[] }::a2.defers) _ _ W from ?_) _ ha3 rfl))
  refine aJ (fun _=>trivial) rfl (fun c h=>by cases h) rfl ?_
  refine dt (j:=0) (g:=gB) rfl rfl rfl hM (.tail _ (.head _)) rfl ?_
  refine aJ (fun _=>trivial) rfl (fun c h=>by cases h) rfl ?_
  refine aH (x:=.tmp 12) (v:=.slice A xs.length c) rfl rfl ?_
  refine fD fun a4 ha4 hd4=>?_
  refine wpIn_ret ?_
  show LeavesInM Fence.wide 5 P fn a4.tmps _ a4.defers .returning W
  rw [hd4,hd2]
  refine ⟨by simp,.inl ⟨_,_,rfl,run_takeDeferred hK,?_⟩⟩
  refine ⟨_,results_tmp hr _ _ _,A,c,xs,hS,hnil,?_,?_⟩
  ·rw [ha4.get]
   rfl
  ·have hM':Own [] w W [.row A xs.length c E sz (xs.flatMap enc)]:=hM.sub (by simp)
   refine hM'.turn (grownBy_putObj' W D _) fun k e=>?_
   cases e
   refine ⟨Nat.le_trans hM1.size hD,fun r hm hk=>?_⟩
   obtain ⟨o,ho,hc⟩:=hM.cells (hnm _ _ _ _ _ _) (List.mem_of_mem_head? (by rw [List.mem_singleton.1 hm];rfl)) hk
   rw [hK] at ho
   cases ho
   cases hc
 case stop =>
  rintro D c pre W _ _ h _
  exact h.elim
end
end R
end Go.Proofs.YtlmabdegojeheaaGreatDoor
