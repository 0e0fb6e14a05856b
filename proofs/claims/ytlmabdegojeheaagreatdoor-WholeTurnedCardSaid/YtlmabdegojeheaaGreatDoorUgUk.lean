/- WholeTurned: parts of its proof (Ug Uj Uk). -/
import Derived.Test.YtlmabdegojeheaaGreatDoorUdRg
import Derived.Test.YtlmabdegojeheaaGreatDoorRhUm
import Derived.Test.YtlmabdegojeheaaGreatDoorEfUi
import Derived.Test.YtlmabdegojeheaaGreatDoorZbZh
import Derived.Test.YtlmabdegojeheaaGreatDoorZfNt
namespace Go.Proofs.YtlmabdegojeheaaGreatDoor
open R Go.RowKit
def Ji (S:List bJ) (i:Nat):List Ct:=[bT (nth S i) 0 1,bT (nth S i) 1 1]
def Uz (S:List bJ) (Ps:List P2) (m:Nat) (b:Nat) (Ms:List (Sl Ct)):Prop:=Ms.length=S.length∧∀ i,i<S.length→(nth Ms i).n=(nth Ms i).L.length∧(nth Ms i).L.length≤b∧∀ c,c∈(nth Ms i).L↔HP S Ps m i c
theorem ud (s:bJ) (x:Mt):(xG s x).length≤2:=by
 cases x <;> simp [xG]
theorem sn {S:List bJ} {Ps:List P2} {m i:Nat} {c:Ct}:HP S Ps (m+1) i c↔HP S Ps m i c∨∃ j:Nat,j<S.length∧(nth Ps m=⟨i,j⟩∨nth Ps m=⟨j,i⟩)∧∃ x,fK (nth S i) (nth S j) x∧c∈xG (nth S i) x:=by
 unfold HP
 constructor
 ·rintro (h|h|⟨t,ht,h⟩)
  ·exact .inl (.inl h)
  ·exact .inl (.inr (.inl h))
  ·by_cases e:t=m
   ·subst e
    exact .inr h
   ·exact .inl (.inr (.inr ⟨t,by omega,h⟩))
 ·rintro ((h|h|⟨t,ht,h⟩)|h)
  ·exact .inl h
  ·exact .inr (.inl h)
  ·exact .inr (.inr ⟨t,by omega,h⟩)
  ·exact .inr (.inr ⟨m,by omega,h⟩)
theorem qT {T:Type} [Inhabited T] {L:List T} {i j:Nat} {x:T} (hi:i<L.length):nth (L.set j x) i=if j=i then x else nth L i:=by
 rw [av (by rw [List.length_set];exact hi),List.getElem_set,av hi]
theorem Pg {S:List bJ} {Ps:List P2} {m b p q:Nat} {Ms:List (Sl Ct)} (h:Uz S Ps m b Ms) (hp:p<S.length) (hq:q<S.length) (hpq:p≠q) (he:nth Ps m=⟨(p:Nat),(q:Nat)⟩) {x y:Mt} (hx:fK (nth S p) (nth S q) x) (hy:fK (nth S q) (nth S p) y) {z1 z2:Sl Ct}
  (e1:z1.L=(nth Ms p).L++xG (nth S p) x) (n1:z1.n=z1.L.length) (e2:z2.L=(nth Ms q).L++xG (nth S q) y) (n2:z2.n=z2.L.length):Uz S Ps (m+1) (b+2) ((Ms.set p z1).set q z2):=by
 obtain ⟨hl,hi⟩:=h
 refine ⟨by rw [List.length_set,List.length_set,hl],fun i hil=>?_⟩
 rw [qT (by rw [List.length_set];omega),qT (by omega)]
 have q1:∀ j:Nat,(nth Ps m=⟨(p:Nat),(j:Nat)⟩∨nth Ps m=⟨(j:Nat),(p:Nat)⟩)→j=q:=fun j hj=>by
  rw [he] at hj
  rcases hj with hj|hj
  ·injection hj with a b
   omega
  ·injection hj with a b
   omega
 have q2:∀ j:Nat,(nth Ps m=⟨(q:Nat),(j:Nat)⟩∨nth Ps m=⟨(j:Nat),(q:Nat)⟩)→j=p:=fun j hj=>by
  rw [he] at hj
  rcases hj with hj|hj
  ·injection hj with a b
   omega
  ·injection hj with a b
   omega
 obtain ⟨c1,c2,c3⟩:=hi i hil
 by_cases hiq:q=i
 ·subst hiq
  rw [if_pos rfl]
  refine ⟨n2,by rw [e2,List.length_append];have:=ud (nth S q) y;omega,fun c=>?_⟩
  rw [e2,List.mem_append,c3 c,sn]
  refine or_congr Iff.rfl ⟨fun hc=>⟨p,hp,.inr he,y,hy,hc⟩,?_⟩
  rintro ⟨j,_,hj,x',hx',hc⟩
  obtain rfl:=q2 j hj
  rw [pM hy hx']
  exact hc
 ·rw [if_neg hiq]
  by_cases hip:p=i
  ·subst hip
   rw [if_pos rfl]
   refine ⟨n1,by rw [e1,List.length_append];have:=ud (nth S p) x;omega,fun c=>?_⟩
   rw [e1,List.mem_append,c3 c,sn]
   refine or_congr Iff.rfl ⟨fun hc=>⟨q,hq,.inl he,x,hx,hc⟩,?_⟩
   rintro ⟨j,_,hj,x',hx',hc⟩
   obtain rfl:=q1 j hj
   rw [pM hx hx']
   exact hc
  ·rw [if_neg hip]
   refine ⟨c1,by omega,fun c=>?_⟩
   rw [c3 c,sn]
   refine ⟨.inl,?_⟩
   rintro (h|⟨j,_,hj,_⟩)
   ·exact h
   ·exfalso
    rw [he] at hj
    rcases hj with hj|hj
    ·injection hj with a b
     omega
    ·injection hj with a b
     omega
attribute [local irreducible] aq bT in
set_option maxHeartbeats 4000000 in
theorem Lp (A:Option Addr) (n c:Nat) (S:List bJ) (w:World) (hA:gn [] w A n 4 (S.flatMap bD)) (hn:n=S.length) (hb:n≤20) (hS:∀ s∈S,aK s):Calls Tryz.prog 17 #[.slice A n c] w fun e w'=>∃ B c2,∃ Ms:List (Sl Ct),e=.returned (.tuple #[.slice B n c2,.int .i64 0])∧Ms.length=n∧(∀ i,i<n→(nth Ms i).n=(nth Ms i).L.length∧(nth Ms i).L.length≤802∧kW S i (nth Ms i).L)∧R.Own [] w w' (.row B n c2 69 1 (Ms.flatMap iH)::gr 115 28 eO Ms):=by
 have hM:=R.Own.start [] w
 refine aa (fn:=Tryz.f17) Tryz.func17 rfl Tryz.ntmps17 (Nat.le_of_ble_eq_true rfl) ?_
 (refine ad ?_;(repeat' first|refine And.intro ?_ ?_|intro _);all_goals refine ah.mk ?_)
 refine aA rfl rfl vv ?_
 refine (Oi A n c S _ (hM.gi hA) hn xj hS).mono ?_
 rintro _ w2 ⟨C,cc,Ps,rfl,hPl,hP,hG⟩
 have hM:=R.Own.pv aj hG
 clear hG
 have hPl2:Ps.length≤400:=by
  have:=Nat.mul_le_mul hb hb
  omega
 refine ⟨_,rfl,?_⟩
 (refine ad ?_;(repeat' first|refine And.intro ?_ ?_|intro _);all_goals refine ah.mk ?_)
 refine au (fun x:Nat×Option Addr×Nat×List (Sl Ct)=>[(0,.slice A n c),(2,.slice none 0 0),(3,.int .i64 0),(4,.slice C Ps.length cc),(6,.slice x.2.1 x.1 x.2.2.1),(22,.slice A n c),(23,.int .i64 (n:Nat)),(24,.int .i64 (x.1:Nat))])
  (fun x w1=>(x.1≤n∧x.2.2.2.length=x.1∧∀ i,i<x.1→(nth x.2.2.2 i).n=2∧(nth x.2.2.2 i).L=Ji S i)∧R.Own [] w w1 (.row x.2.1 x.1 x.2.2.1 69 1 (x.2.2.2.flatMap iH)::.row C Ps.length cc 104 2 (Ps.flatMap kI)::gr 115 28 eO x.2.2.2)) (fun x=>n-x.1)
  ⟨(0,none,0,[]),⟨rfl,rfl,rfl,rfl,rfl,rfl,rfl,rfl,trivial⟩,⟨Nat.zero_le _,rfl,fun i hi=>absurd hi (Nat.not_lt_zero _)⟩,R.Own.nil hM _ _⟩ ?_
 clear hM
 rintro ⟨k,B,c2,Ms⟩ f w3 ⟨⟨hk,hMl,hMe⟩,hM⟩
 dsimp only at hk hMl hMe hM ⊢
 by_cases hlt:k<n
 ·have hs:=hS (nth S k) (R.aB xj)
  (refine ad ?_;(repeat' first|refine And.intro ?_ ?_|intro _);all_goals refine ah.mk ?_)
  rename_i g _ _ _ hM
  refine aA rfl rfl vv ?_
  refine (Tz (nth S k) _ hs).mono ?_
  rintro _ w4 ⟨A2,c3,rfl,hG⟩
  have hM:=R.Own.pv hM hG
  clear hG
  refine ⟨_,rfl,?_⟩
  (refine ad ?_;(repeat' first|refine And.intro ?_ ?_|intro _);all_goals refine ah.mk ?_)
  rename_i A7 c7 w5 hM
  obtain ⟨x,hx⟩:∃ x:Sl Ct,x=⟨A2,2,c3,Ji S k⟩:=⟨_,rfl⟩
  have hM:R.Own [] w w5 (.row A7 1 c7 69 1 (iH x)::.row A2 2 c3 115 28 ((Ji S k).flatMap eO)::.blk g 56 (bD (nth S k))::.row B k c2 69 1 (Ms.flatMap iH)::.row C Ps.length cc 104 2 (Ps.flatMap kI)::gr 115 28 eO Ms):=by rw [hx];exact hM
  (refine ad ?_;(repeat' first|refine And.intro ?_ ?_|intro _);all_goals refine ah.mk ?_)
  rename_i B8 c8 _ hM
  have hM:=pk (r:=.row B8 _ _ _ _ _) (pk (r:=.row C _ _ _ _ _) (dr (.blk g _ _) hM))
  refine ⟨(k+1,B8,c8,Ms++[x]),⟨rfl,rfl,rfl,rfl,rfl,rfl,rfl,aF rfl (by dsimp only;omega),trivial⟩,⟨⟨by dsimp only;omega,by dsimp only;rw [List.length_append,hMl];rfl,fun i hi=>?_⟩,?_⟩,by dsimp only;omega⟩
  ·dsimp only at hi ⊢
   by_cases hik:i<k
   ·rw [av (by rw [List.length_append];omega),List.getElem_append_left xj,← av]
    exact hMe i hik
   ·obtain rfl:i=k:=by omega
    rw [av (by rw [List.length_append];simp only [List.length_cons,List.length_nil];omega),List.getElem_append_right (by omega)]
    simp [hMl,hx]
  ·dsimp only
   rw [oF]
   refine hM.perm (List.Perm.cons _ (List.Perm.cons _ ?_))
   rw [hx]
   exact List.perm_append_comm
 ·obtain rfl:k=n:=by omega
  (refine ad ?_;(repeat' first|refine And.intro ?_ ?_|intro _);all_goals refine ah.mk ?_)
  obtain ⟨Bg,hBg⟩:∃ m,m=0:=⟨_,rfl⟩
  have hbag:Uz S Ps 0 2 Ms:=⟨by omega,fun i hi=>by
   obtain ⟨h1,h2⟩:=hMe i xj
   refine ⟨by rw [h1,h2];rfl,by rw [h2];exact Nat.le_refl _,fun c=>?_⟩
   rw [h2]
   unfold Ji HP
   simp only [List.mem_cons,List.not_mem_nil,or_false]
   constructor
   ·rintro (h|h)
    ·exact .inl h
    ·exact .inr (.inl h)
   ·rintro (h|h|⟨t,ht,_⟩)
    ·exact .inl h
    ·exact .inr h
    ·exact absurd ht (Nat.not_lt_zero _)⟩
  refine au (fun x:Nat×List (Sl Ct)=>[(0,.slice A k c),(2,.slice none 0 0),(3,.int .i64 0),(6,.slice B k c2),(34,.slice C Ps.length cc),(35,.int .i64 (Ps.length:Nat)),(36,.int .i64 (x.1:Nat))])
   (fun x w1=>(x.1≤Ps.length∧Uz S Ps x.1 (2+2*x.1) x.2)∧R.Own [] w w1 (.row B k c2 69 1 (x.2.flatMap iH)::.row C Ps.length cc 104 2 (Ps.flatMap kI)::gr 115 28 eO x.2)) (fun x=>Ps.length-x.1)
   ⟨(0,Ms),⟨rfl,rfl,rfl,rfl,rfl,rfl,rfl,trivial⟩,⟨Nat.zero_le _,hbag⟩,hM⟩ ?_
  clear hM hMl hMe hbag Ms
  rintro ⟨m,Ms⟩ f w4 ⟨⟨hm,hbag⟩,hM⟩
  dsimp only at hm hbag hM ⊢
  by_cases hmt:m<Ps.length
  ·obtain ⟨p,q,h1,h2,h3,h4⟩:=(hP _).1 (R.aB hmt)
   have hpS:p<S.length:=by omega
   have l1:=hS (nth S p) (R.aB hpS)
   have l2:=hS (nth S q) (R.aB h2)
   obtain ⟨gB,rfl⟩:∃ g,B=some ⟨g,0,none⟩:=by
    have hr:w4.ownsRow 0 69 1 (.slice B k c2) k (Ms.flatMap iH):=hM.ok _ (.head _)
    rcases hr.2 with ⟨hv,h0⟩|⟨g,cap,cur,hv,_⟩
    ·omega
    ·injection hv with a1
     exact ⟨g,a1⟩
   have hAs:∃ a,A=some a:=(R.Own.Gn hM hA).some_ xj vj
   (refine ad ?_;(repeat' first|refine And.intro ?_ ?_|intro _);all_goals refine ah.mk ?_)
   rename_i gp _ _ _ hM
   obtain ⟨z,hz⟩:∃ z,nth Ps m=z:=⟨_,rfl⟩
   rw [hz] at hM h4 ⊢
   have za:z.a=(p:Nat):=by rw [h4]
   have zb:z.b=(q:Nat):=by rw [h4]
   have z1:z.a.toNat=p:=by omega
   have z2:z.b.toNat=q:=by omega
   refine ub (ι:=Nat×Nat) (fun i=>[(0,.slice A k c),(2,.slice none 0 0),(3,.int .i64 0),(6,.slice (some ⟨gB,0,none⟩) k c2),(10,.pointer (some ⟨gp,0,none⟩)),(11,.pointer (some ⟨i.1,0,none⟩)),(12,.pointer (some ⟨i.2,0,none⟩)),(34,.slice C Ps.length cc),(35,.int .i64 (Ps.length:Nat)),(36,.int .i64 (m:Nat))])
    (fun i w2=>R.Own [] w w2 (.blk i.1 56 (bD (nth S p))::.blk i.2 56 (bD (nth S q))::.blk gp 104 (kI z)::.row (some ⟨gB,0,none⟩) k c2 69 1 (Ms.flatMap iH)::.row C Ps.length cc 104 2 (Ps.flatMap kI)::gr 115 28 eO Ms)) ?h1 ?h2
   case h1 =>
    refine nN (.q 0 (.q 1 (.q 2 (.q 3 (.q 4 (.q 5 (.q 6 (.q 7 (.q 8 (.q 9 (.f 10 11 (.e 11 (.e 12 (.e 13 .nil))) (.e 10 (.e 12 (.e 13 .nil)))))))))))))) R.mixed wx aj ?_
    (refine ad ?_;(repeat' first|refine And.intro ?_ ?_|intro _);all_goals refine ah.mk ?_)
    all_goals
     rename_i hM
     rw [z1,z2] at hM
     first
      | exact ⟨rfl,(_,_),⟨rfl,rfl,rfl,rfl,rfl,rfl,rfl,rfl,rfl,rfl,trivial⟩,hM⟩
      | exact ⟨rfl,(_,_),⟨rfl,rfl,rfl,rfl,rfl,rfl,rfl,rfl,rfl,rfl,trivial⟩,hM.swap⟩
   case h2 =>
    clear hM
    rintro ⟨g1,g2⟩ f w6 hM
    dsimp only at hM ⊢
    have hBs:∃ a,(some ⟨gB,0,none⟩:Option Addr)=some a:=⟨_,rfl⟩
    obtain ⟨hbl,hbi⟩:=id hbag
    obtain ⟨b1,b2,_⟩:=hbi p hpS
    obtain ⟨b3,b4,_⟩:=hbi q h2
    rw [← z1] at b1 b2
    rw [← z2] at b3 b4
    have hM:=sm (pre:=[_,_,_,_,_]) hM (j:=z.a.toNat) xj
    have hM:R.Own [] w w6 (.row (nth Ms z.a.toNat).A (nth Ms z.a.toNat).n (nth Ms z.a.toNat).c 115 28 ((nth Ms z.a.toNat).L.flatMap eO)::.blk g1 56 (bD (nth S p))::.blk g2 56 (bD (nth S q))::.blk gp 104 (kI z)::.row (some ⟨gB,0,none⟩) k c2 69 1 (Ms.flatMap iH)::.row C Ps.length cc 104 2 (Ps.flatMap kI)::(gr 115 28 eO (Ms.take z.a.toNat)++gr 115 28 eO (Ms.drop (z.a.toNat+1)))):=hM
    (refine ad ?_;(repeat' first|refine And.intro ?_ ?_|intro _);all_goals refine ah.mk ?_)
    refine kf [(0,false),(1,false),(2,false),(3,false),(4,false),(5,false),(6,false),(7,false),(8,false),(9,false),(10,true),(11,true),(12,false),(13,true)] R.mixed wx aj ?_
    (refine ad ?_;(repeat' first|refine And.intro ?_ ?_|intro _);all_goals refine ah.mk ?_)
    refine ar rfl rfl vv vv ?_
    refine (VU (nth S p) (nth S q) _ l1 l2).mono ?_
    rintro _ w7 ⟨A2,c3,x,hx,rfl,hG⟩
    rename_i hM
    have hM:=R.Own.pv hM hG
    clear hG
    have hx2:=ud (nth S p) x
    first
     | refine ⟨_,rfl,hM,?_⟩
     | refine ⟨_,rfl,R.Own.tl (R.Own.tl hM),?_⟩
     | refine ⟨_,rfl,?_⟩
    (refine ad ?_;(repeat' first|refine And.intro ?_ ?_|intro _);all_goals refine ah.mk ?_)
    rename_i A5 c5 w8 hM
    obtain ⟨y1,hy1⟩:∃ y:Sl Ct,y=⟨A5,(nth Ms z.a.toNat).n+(xG (nth S p) x).length,c5,(nth Ms z.a.toNat).L++xG (nth S p) x⟩:=⟨_,rfl⟩
    refine rX (T:=Sl Ct) (enc:=iH) (L:=Ms) (z:=y1) rfl rfl rfl rfl aj dF xj vj (by rw [hy1];rfl) (fun w9 hM=>?_)
    have hM:R.Own [] w w9 (m6 115 28 eO y1::([.blk g1 56 (bD (nth S p)),.blk g2 56 (bD (nth S q)),.blk gp 104 (kI z),.row (some ⟨gB,0,none⟩) k c2 69 1 ((Ms.set z.a.toNat y1).flatMap iH),.row C Ps.length cc 104 2 (Ps.flatMap kI)]++(gr 115 28 eO (Ms.take z.a.toNat)++gr 115 28 eO (Ms.drop (z.a.toNat+1))))):=by
     have h0:m6 115 28 eO y1=.row A5 ((nth Ms z.a.toNat).n+(xG (nth S p) x).length) c5 115 28 (((nth Ms z.a.toNat).L++xG (nth S p) x).flatMap eO):=by rw [hy1];rfl
     rw [h0]
     exact hM
    have hM:=wu hM xj
    obtain ⟨M1,hM1⟩:∃ M,Ms.set z.a.toNat y1=M:=⟨_,rfl⟩
    have hM1l:M1.length=S.length:=by rw [← hM1,List.length_set];exact hbl
    have e3:nth M1 z.b.toNat=nth Ms z.b.toNat:=by rw [← hM1,qT xj,if_neg (by omega)]
    rw [← e3] at b3 b4
    rw [hM1] at hM
    have hM:=sm (pre:=[_,_,_,_,_]) hM (j:=z.b.toNat) xj
    have hM:R.Own [] w w9 (.row (nth M1 z.b.toNat).A (nth M1 z.b.toNat).n (nth M1 z.b.toNat).c 115 28 ((nth M1 z.b.toNat).L.flatMap eO)::.blk g1 56 (bD (nth S p))::.blk g2 56 (bD (nth S q))::.blk gp 104 (kI z)::.row (some ⟨gB,0,none⟩) k c2 69 1 (M1.flatMap iH)::.row C Ps.length cc 104 2 (Ps.flatMap kI)::(gr 115 28 eO (M1.take z.b.toNat)++gr 115 28 eO (M1.drop (z.b.toNat+1)))):=hM
    (refine ad ?_;(repeat' first|refine And.intro ?_ ?_|intro _);all_goals refine ah.mk ?_)
    refine kf [(0,false),(1,false),(2,false),(3,false),(4,false),(5,false),(6,false),(7,false),(8,false),(9,false),(10,true),(11,true),(12,false),(13,true)] R.mixed wx aj ?_
    (refine ad ?_;(repeat' first|refine And.intro ?_ ?_|intro _);all_goals refine ah.mk ?_)
    refine ar rfl rfl vv vv ?_
    refine (VU (nth S q) (nth S p) _ l2 l1).mono ?_
    rintro _ w10 ⟨A6,c6,y,hy,rfl,hG⟩
    rename_i hM
    have hM:=R.Own.pv hM hG
    clear hG
    have hy2:=ud (nth S q) y
    first
     | refine ⟨_,rfl,hM,?_⟩
     | refine ⟨_,rfl,R.Own.tl (R.Own.tl hM),?_⟩
     | refine ⟨_,rfl,?_⟩
    (refine ad ?_;(repeat' first|refine And.intro ?_ ?_|intro _);all_goals refine ah.mk ?_)
    rename_i A8 c8 w11 hM
    obtain ⟨y2,hy2e⟩:∃ y':Sl Ct,y'=⟨A8,(nth M1 z.b.toNat).n+(xG (nth S q) y).length,c8,(nth M1 z.b.toNat).L++xG (nth S q) y⟩:=⟨_,rfl⟩
    refine rX (T:=Sl Ct) (enc:=iH) (L:=M1) (z:=y2) rfl rfl rfl rfl aj dF xj vj (by rw [hy2e];rfl) (fun w12 hM=>?_)
    (refine ad ?_;(repeat' first|refine And.intro ?_ ?_|intro _);all_goals refine ah.mk ?_)
    have hM:R.Own [] w w12 (m6 115 28 eO y2::([.blk g1 56 (bD (nth S p)),.blk g2 56 (bD (nth S q)),.blk gp 104 (kI z),.row (some ⟨gB,0,none⟩) k c2 69 1 ((M1.set z.b.toNat y2).flatMap iH),.row C Ps.length cc 104 2 (Ps.flatMap kI)]++(gr 115 28 eO (M1.take z.b.toNat)++gr 115 28 eO (M1.drop (z.b.toNat+1))))):=by
     have h0:m6 115 28 eO y2=.row A8 ((nth M1 z.b.toNat).n+(xG (nth S q) y).length) c8 115 28 (((nth M1 z.b.toNat).L++xG (nth S q) y).flatMap eO):=by rw [hy2e];rfl
     rw [h0]
     exact aj
    have hM:=wu hM xj
    have hbs:=Pg hbag hpS h2 xj (hz.trans h4) hx hy (z1:=y1) (z2:=y2) (by rw [hy1,z1]) (by rw [hy1];dsimp only;rw [List.length_append,b1]) (by rw [hy2e,e3,z2]) (by rw [hy2e];dsimp only;rw [List.length_append,b3])
    refine ⟨(m+1,M1.set z.b.toNat y2),⟨rfl,rfl,rfl,rfl,rfl,rfl,aF rfl (by dsimp only;omega),trivial⟩,⟨⟨by dsimp only;omega,?_⟩,dr (.blk g1 _ _) (dr (.blk g2 _ _) (dr (.blk gp _ _) hM))⟩,by dsimp only;omega⟩
    dsimp only
    rw [← hM1,z1,z2]
    exact hbs
  ·obtain rfl:m=Ps.length:=by omega
   (refine ad ?_;(repeat' first|refine And.intro ?_ ?_|intro _);all_goals refine ah.mk ?_)
   obtain ⟨hMl,hbi⟩:=hbag
   refine au (fun x:Nat×List (Sl Ct)=>[(2,.slice none 0 0),(3,.int .i64 0),(6,.slice B k c2),(78,.int .i64 (k:Nat)),(79,.int .i64 (x.1:Nat))])
    (fun x w1=>(x.1≤k∧x.2.length=S.length∧(∀ i,i<x.1→(nth x.2 i).n=(nth x.2 i).L.length∧(nth x.2 i).L.length≤802∧kW S i (nth x.2 i).L)∧∀ i,x.1≤i→i<k→(nth x.2 i).n=(nth x.2 i).L.length∧(nth x.2 i).L.length≤802∧∀ c,c∈(nth x.2 i).L↔tI S i c)∧R.Own [] w w1 (.row B k c2 69 1 (x.2.flatMap iH)::.row C Ps.length cc 104 2 (Ps.flatMap kI)::gr 115 28 eO x.2)) (fun x=>k-x.1)
    ⟨(0,Ms),⟨rfl,rfl,rfl,rfl,rfl,trivial⟩,⟨Nat.zero_le _,hMl,fun i hi=>absurd hi (Nat.not_lt_zero _),fun i _ hi=>?_⟩,hM⟩ ?_
   ·obtain ⟨q1,q2,q3⟩:=hbi i xj
    exact ⟨q1,by dsimp only;omega,fun c=>(q3 c).trans (Vm hP xj)⟩
   clear hM hMl hbi Ms
   rintro ⟨i,Ms⟩ f w5 ⟨⟨hi,hMl,hlo,hhi⟩,hM⟩
   dsimp only at hi hMl hlo hhi hM ⊢
   by_cases hit:i<k
   ·obtain ⟨gB,rfl⟩:∃ g,B=some ⟨g,0,none⟩:=by
     have hr:w5.ownsRow 0 69 1 (.slice B k c2) k (Ms.flatMap iH):=hM.ok _ (.head _)
     rcases hr.2 with ⟨hv,h0⟩|⟨g,cap,cur,hv,_⟩
     ·omega
     ·injection hv with a1
      exact ⟨g,a1⟩
    have hBs:∃ a,(some ⟨gB,0,none⟩:Option Addr)=some a:=⟨_,rfl⟩
    obtain ⟨q1,q2,q3⟩:=hhi i (Nat.le_refl _) hit
    (refine ad ?_;(repeat' first|refine And.intro ?_ ?_|intro _);all_goals refine ah.mk ?_)
    rename_i hM
    have hM:=sm (pre:=[_,_]) hM (j:=i) xj
    refine aA rfl rfl vv ?_
    refine (Ln (nth Ms i).L q1 xj (fun c hc=>?_) hM).mono ?_
    ·obtain ⟨r1,r2,r3,r4,_⟩:=oL hS xj ((q3 c).1 hc)
     exact ⟨r1,by omega,r2,r4⟩
    rintro _ w6 ⟨D,hp,hs,rfl,hM⟩
    refine ⟨_,rfl,?_⟩
    (refine ad ?_;(repeat' first|refine And.intro ?_ ?_|intro _);all_goals refine ah.mk ?_)
    obtain ⟨y,hy⟩:∃ y:Sl Ct,y=⟨(nth Ms i).A,(dd D).length,(nth Ms i).c,dd D⟩:=⟨_,rfl⟩
    refine rX (T:=Sl Ct) (enc:=iH) (L:=Ms) (z:=y) rfl rfl rfl rfl aj dF xj vj (by rw [hy];rfl) (fun w7 hM=>?_)
    (refine ad ?_;(repeat' first|refine And.intro ?_ ?_|intro _);all_goals refine ah.mk ?_)
    have hM:R.Own [] w w7 (m6 115 28 eO y::([.row (some ⟨gB,0,none⟩) k c2 69 1 ((Ms.set i y).flatMap iH),.row C Ps.length cc 104 2 (Ps.flatMap kI)]++(gr 115 28 eO (Ms.take i)++gr 115 28 eO (Ms.drop (i+1))))):=by
     have h0:m6 115 28 eO y=.row (nth Ms i).A (dd D).length (nth Ms i).c 115 28 ((dd D).flatMap eO):=by rw [hy];rfl
     rw [h0]
     exact aj
    have hM:=wu hM xj
    refine ⟨(i+1,Ms.set i y),⟨rfl,rfl,rfl,rfl,aF rfl (by dsimp only;omega),trivial⟩,⟨⟨by dsimp only;omega,by dsimp only;rw [List.length_set];exact hMl,fun j hj=>?_,fun j hj1 hj2=>?_⟩,hM⟩,by dsimp only;omega⟩
    ·dsimp only at hj ⊢
     rw [qT (by omega)]
     by_cases hij:i=j
     ·subst hij
      rw [if_pos rfl,hy]
      have:=HM D D.length
      have:=hp.length_eq
      exact ⟨rfl,by show (ry D D.length).length≤_;omega,Zv hS xj q3 hp hs⟩
     ·rw [if_neg hij]
      exact hlo j xj
    ·dsimp only at hj1 hj2 ⊢
     rw [qT xj,if_neg (by omega)]
     exact hhi j xj hj2
   ·obtain rfl:i=k:=by omega
    (refine ad ?_;(repeat' first|refine And.intro ?_ ?_|intro _);all_goals refine ah.mk ?_)
    exact ⟨B,c2,Ms,rfl,by omega,fun j hj=>hlo j xj,dr (.row C _ _ _ _ _) aj⟩
def ea (M:List (List Ct)):List Sp:=M.flatMap fun C=>C.map (·.s)
theorem yp {M:List (List Ct)} {b:Nat} (h:∀ C∈M,C.length≤b):(ea M).length≤M.length*b:=by
 induction M with
 | nil=>simp [ea]
 | cons C M ih =>
  have h1:=ih fun C hC=>h C (by simp [hC])
  have h2:=h C (by simp)
  unfold ea at h1 ⊢
  rw [List.flatMap_cons,List.length_append,List.length_map,List.length_cons,Nat.succ_mul]
  omega
def LY (D:List Sp) (k:Nat):List (Sp×Int):=(List.range k).map fun i=>(nth D i,((i:Nat):Int))
theorem D5 {D:List Sp} (hD:D.Nodup) {k:Nat} (hk:k<D.length):jj (LY D k) (nth D k) ((k:Nat):Int)=LY D (k+1):=by
 have hn:eY (LY D k) (nth D k)=none:=yq.2 fun h=>by
  unfold LY at h
  rw [List.map_map] at h
  obtain ⟨i,hi,e⟩:=List.mem_map.1 h
  have hi:=List.mem_range.1 hi
  have e:nth D i=nth D k:=e
  rw [av xj,av hk] at e
  have:=(List.getElem_inj hD).1 e
  omega
 have hs:∀ (L:List (Sp×Int)) (q:Sp) (v:Int),eY L q=none→jj L q v=L++[(q,v)]:=by
  intro L
  induction L with
  | nil=>exact fun q v _=>rfl
  | cons p L ih =>
   intro q v h
   unfold eY at h
   unfold jj
   split at h
   ·cases h
   ·rename_i hp
    rw [if_neg hp,ih q v h]
    rfl
 rw [hs _ _ _ hn]
 unfold LY
 rw [List.range_succ,List.map_append]
 rfl
theorem Jj {D:List Sp} (hD:D.Nodup) {s:Sp} (h:s∈D):eY (LY D D.length) s=some ((mf D s:Nat):Int):=by
 have key:∀ k,k≤D.length→∀ i,i<k→eY (LY D k) (nth D i)=some ((i:Nat):Int):=by
  intro k
  induction k with
  | zero=>exact fun _ i hi=>absurd hi (Nat.not_lt_zero _)
  | succ k ih =>
   intro hk i hi
   rw [← D5 hD xj,wy]
   by_cases e:i=k
   ·subst e
    rw [if_pos rfl]
   ·rw [if_neg fun h=>e (by
     rw [av xj,av (by omega)] at h
     exact (List.getElem_inj hD).1 h)]
    exact ih xj i xj
 have h2:=key D.length (Nat.le_refl _) (mf D s) (kX h)
 rwa [mg h] at h2
set_option maxHeartbeats 4000000 in
theorem Pn (B:Option Addr) (n c:Nat) (Ms:List (Sl Ct)) (w:World) (hB:gn [] w B n 1 (Ms.flatMap iH)) (hn:n=Ms.length) (hb:n≤20)
  (hI:∀ x∈Ms,gn [] w x.A x.n 28 (x.L.flatMap eO)∧x.n=x.L.length∧x.L.length≤802∧∀ c∈x.L,bo c.s=true) :
  Calls Tryz.prog 18 #[.slice B n c] w fun e w'=>∃ A c2 b es clk,∃ D:List Sp,e=.returned (.tuple #[.slice A D.length c2,.map (some b)])∧D.length≤16040∧(D.Pairwise fun a b=>d9 a b<0)∧(∀ x,x∈D↔x∈ea (Ms.map (·.L)))∧jF bF vI es clk (LY D D.length)∧R.Own [] w w' [.map b es clk,.row A D.length c2 113 26 (D.flatMap bF)]:=by
 have hM:=R.Own.start [] w
 refine aa (fn:=Tryz.f18) Tryz.func18 rfl Tryz.ntmps18 (Nat.le_of_ble_eq_true rfl) ?_
 (refine ad ?_;(repeat' first|refine And.intro ?_ ?_|intro _);all_goals refine ah.mk ?_)
 refine au (fun x:Nat×Option Addr×Nat=>[(2,.slice none 0 0),(3,.map none),(4,.slice x.2.1 (ea ((Ms.map (·.L)).take x.1)).length x.2.2),(14,.slice B n c),(15,.int .i64 (n:Nat)),(16,.int .i64 (x.1:Nat))])
  (fun x w1=>x.1≤n∧R.Own [] w w1 [.row x.2.1 (ea ((Ms.map (·.L)).take x.1)).length x.2.2 113 26 ((ea ((Ms.map (·.L)).take x.1)).flatMap bF)]) (fun x=>n-x.1)
  ⟨(0,none,0),⟨rfl,rfl,rfl,rfl,rfl,rfl,trivial⟩,Nat.zero_le _,R.Own.nil hM _ _⟩ ?_
 clear hM
 rintro ⟨k,A,c2⟩ f w2 ⟨hk,hM⟩
 dsimp only at hk hM ⊢
 by_cases hlt:k<n
 ·obtain ⟨i1,i2,i3,i4⟩:=hI _ (R.aB (L:=Ms) (i:=k) xj)
  have hlen:=yp (M:=(Ms.map (·.L)).take k) (b:=802) (fun C hC=>by
   obtain ⟨x,hx,rfl⟩:=List.mem_map.1 (List.mem_of_mem_take hC)
   exact (hI x hx).2.2.1)
  rw [List.length_take,List.length_map] at hlen
  have hl2:(ea ((Ms.map (·.L)).take k)).length≤16040:=Nat.le_trans hlen (Nat.mul_le_mul_right 802 (by omega:min k Ms.length≤20))
  have hsn:ea ((Ms.map (·.L)).take (k+1))=ea ((Ms.map (·.L)).take k)++(nth Ms k).L.map (·.s):=by
   rw [cd (by rw [List.length_map];omega),Pf (by omega)]
   unfold ea
   rw [List.flatMap_append]
   simp
  generalize ea ((Ms.map (·.L)).take k)=L0 at hM hsn hl2 ⊢
  (refine ad ?_;(repeat' first|refine And.intro ?_ ?_|intro _);all_goals refine ah.mk ?_)
  refine au (fun x:Nat×Option Addr×Nat=>[(2,.slice none 0 0),(3,.map none),(4,.slice x.2.1 (L0++((nth Ms k).L.take x.1).map (·.s)).length x.2.2),(14,.slice B n c),(15,.int .i64 (n:Nat)),(16,.int .i64 (k:Nat)),(20,.slice (nth Ms k).A (nth Ms k).n (nth Ms k).c),(21,.int .i64 ((nth Ms k).n:Nat)),(22,.int .i64 (x.1:Nat))])
   (fun x w1=>x.1≤(nth Ms k).n∧R.Own [] w w1 [.row x.2.1 (L0++((nth Ms k).L.take x.1).map (·.s)).length x.2.2 113 26 ((L0++((nth Ms k).L.take x.1).map (·.s)).flatMap bF)]) (fun x=>(nth Ms k).n-x.1)
   ⟨(0,A,c2),⟨rfl,rfl,qD rfl (by simp),rfl,rfl,rfl,rfl,rfl,rfl,trivial⟩,Nat.zero_le _,by simpa using hM⟩ ?_
  clear hM
  rintro ⟨j,A,c2⟩ f w3 ⟨hj,hM⟩
  dsimp only at hj hM ⊢
  by_cases hjt:j<(nth Ms k).n
  ·have hl3:(L0++((nth Ms k).L.take j).map (·.s)).length≤20000:=by
    rw [List.length_append,List.length_map,List.length_take]
    omega
   have hsj:L0++((nth Ms k).L.take (j+1)).map (·.s)=(L0++((nth Ms k).L.take j).map (·.s))++[(nth (nth Ms k).L j).s]:=by
    rw [cd xj,List.map_append,List.append_assoc]
    rfl
   generalize L0++((nth Ms k).L.take j).map (·.s)=L1 at hM hsj hl3 ⊢
   (refine ad ?_;(repeat' first|refine And.intro ?_ ?_|intro _);all_goals refine ah.mk ?_)
   rename_i g _ _ _ _ A7 c7 w4 hM
   have hM:R.Own [] w w4 [.row A7 1 c7 113 26 (bF (nth (nth Ms k).L j).s),.blk g 115 (eO (nth (nth Ms k).L j)),.row A L1.length c2 113 26 (L1.flatMap bF)]:=hM
   (refine ad ?_;(repeat' first|refine And.intro ?_ ?_|intro _);all_goals refine ah.mk ?_)
   rename_i A8 c8 _ hM
   refine ⟨(j+1,A8,c8),⟨rfl,rfl,qD rfl (by dsimp only;rw [hsj,List.length_append];rfl),rfl,rfl,rfl,rfl,rfl,aF rfl (by dsimp only;omega),trivial⟩,⟨by dsimp only;omega,?_⟩,by dsimp only;omega⟩
   dsimp only
   rw [hsj,List.length_append]
   exact dr (.blk g _ _) hM
  ·obtain rfl:j=(nth Ms k).n:=by omega
   (refine ad ?_;(repeat' first|refine And.intro ?_ ?_|intro _);all_goals refine ah.mk ?_)
   rw [i2,List.take_length] at hM
   refine ⟨(k+1,A,c2),⟨rfl,rfl,qD rfl (by dsimp only;rw [hsn,i2,List.take_length]),rfl,rfl,aF rfl (by dsimp only;omega),trivial⟩,⟨by dsimp only;omega,?_⟩,by dsimp only;omega⟩
   dsimp only
   rw [hsn]
   exact hM
 ·obtain rfl:k=n:=by omega
  have hlen:=yp (M:=Ms.map (·.L)) (b:=802) (fun C hC=>by
   obtain ⟨x,hx,rfl⟩:=List.mem_map.1 hC
   exact (hI x hx).2.2.1)
  rw [List.length_map] at hlen
  have hl2:(ea (Ms.map (·.L))).length≤16040:=Nat.le_trans hlen (Nat.mul_le_mul_right 802 (by omega:Ms.length≤20))
  have hmay:∀ s∈ea (Ms.map (·.L)),bo s=true:=fun s hs=>by
   unfold ea at hs
   obtain ⟨C,hC,hs⟩:=List.mem_flatMap.1 hs
   obtain ⟨x,hx,rfl⟩:=List.mem_map.1 hC
   obtain ⟨q,hq,rfl⟩:=List.mem_map.1 hs
   exact (hI x hx).2.2.2 q hq
  rw [show (Ms.map (·.L)).take k=Ms.map (·.L) by rw [List.take_of_length_le];rw [List.length_map];omega] at hM ⊢
  generalize ea (Ms.map (·.L))=L0 at hM hl2 hmay ⊢
  (refine ad ?_;(repeat' first|refine And.intro ?_ ?_|intro _);all_goals refine ah.mk ?_)
  refine aA rfl rfl vv ?_
  refine (Pk A L0.length c2 L0 _ (R.Own.wW hM (.head _)) rfl xj hmay).mono ?_
  rintro _ w4 ⟨A3,c3,D,rfl,hDl,hDs,hDm,hG⟩
  have hM:=dr (.row A _ _ _ _ _) (pk (r:=.row A _ _ _ _ _) (R.Own.pv hM hG))
  clear hG
  have hDn:D.Nodup:=hDs.imp_of_mem fun {a b} ha _ hab e=>by
   subst e
   exact rn (hmay a ((hDm a).1 ha)) hab
  refine ⟨_,rfl,?_⟩
  (refine ad ?_;(repeat' first|refine And.intro ?_ ?_|intro _);all_goals refine ah.mk ?_)
  refine sr rfl hM ?_
  intro b w5 hM
  (refine ad ?_;(repeat' first|refine And.intro ?_ ?_|intro _);all_goals refine ah.mk ?_)
  refine au (fun x:Nat×Array MapEntry×Nat=>[(2,.slice none 0 0),(3,.map none),(9,.slice A3 D.length c3),(11,.map (some b)),(39,.slice A3 D.length c3),(40,.int .i64 (D.length:Nat)),(41,.int .i64 (x.1:Nat))])
   (fun x w1=>(x.1≤D.length∧jF bF vI x.2.1 x.2.2 (LY D x.1))∧R.Own [] w w1 [.map b x.2.1 x.2.2,.row A3 D.length c3 113 26 (D.flatMap bF)]) (fun x=>D.length-x.1)
   ⟨(0,#[],0),⟨rfl,rfl,rfl,rfl,rfl,rfl,rfl,trivial⟩,⟨Nat.zero_le _,pE _ _⟩,hM⟩ ?_
  clear hM
  rintro ⟨i,es,clk⟩ f w6 ⟨⟨hi,hS⟩,hM⟩
  dsimp only at hi hS hM ⊢
  by_cases hit:i<D.length
  ·(refine ad ?_;(repeat' first|refine And.intro ?_ ?_|intro _);all_goals refine ah.mk ?_)
   rename_i g _ _ w7 hM
   refine ue (encK:=bF) (encV:=vI) (k:=nth D i) (v:=((i:Nat):Int)) (l':=fun es' clk'=>[.blk g 113 (bF (nth D i)),.map b es' clk',.row A3 D.length c3 113 26 (D.flatMap bF)]) rfl rfl rfl rfl hM hS (fun es' clk'=>.tail .head) (fun es' clk' w8 hS2 hM=>?_)
   rw [D5 hDn hit] at hS2
   (refine ad ?_;(repeat' first|refine And.intro ?_ ?_|intro _);all_goals refine ah.mk ?_)
   exact ⟨(i+1,es',clk'),⟨rfl,rfl,rfl,rfl,rfl,rfl,aF rfl (by dsimp only;omega),trivial⟩,⟨⟨by dsimp only;omega,hS2⟩,R.Own.tl aj⟩,by dsimp only;omega⟩
  ·obtain rfl:i=D.length:=by omega
   (refine ad ?_;(repeat' first|refine And.intro ?_ ?_|intro _);all_goals refine ah.mk ?_)
   exact ⟨A3,c3,b,es,clk,D,rfl,by omega,hDs,hDm,hS,hM⟩
theorem qU {L:List P2} {k:Nat} (h:∀ i,i<k→P7 L i) (hk:P7 L k):∀ i,i<k+1→P7 L i:=fun i hi=>by
  rcases Nat.lt_or_ge i k with h1|h1
  · exact h i h1
  · obtain rfl:i=k:=by omega
    exact hk
set_option maxHeartbeats 2000000 in
theorem Lr (A:Option Addr) (n c:Nat) (L:List P2) (w:World) (hA:gn [] w A n 2 (L.flatMap kI)) (hn:n=L.length) (hb:n≤9223372036854775807) (hG:∀ x∈L,ao x.a∧ao x.b):Calls Tryz.prog 77 #[.slice A n c] w fun e w'=>e=.returned (.bool (rf L))∧Below w.heap.size w w':=by
  have hM:=R.Own.start [] w
  by_cases hl:2≤n∧n≤2000
  · obtain ⟨l1,l2⟩:=hl
    refine aa (fn:=Tryz.f77) Tryz.func77 rfl Tryz.ntmps77 (Nat.le_of_ble_eq_true rfl) ?_
    (refine ak ?_;(repeat' first|refine And.intro ?_ ?_|intro _);all_goals refine ah.mk ?_)
    refine au (fun k:Nat=>[(0,.slice A n c),(2,.bool false),(14,.slice A n c),(15,.int .i64 (n:Nat)),(16,.int .i64 (k:Nat))])
      (fun k w2=>k≤n∧(∀ i,i<k→P7 L i)∧R.Own [] w w2 []) (fun k=>n-k) ⟨0,⟨rfl,rfl,rfl,rfl,rfl,trivial⟩,by omega,fun i hi=>absurd hi (Nat.not_lt_zero _),hM⟩ ?_
    clear hM
    rintro k f w2 ⟨hk,hall,hM⟩
    by_cases hlt:k<n
    · have e:(((k:Nat):Int)-1).toNat=k-1:=by omega
      have q2:=(hG _ (R.aB (L:=L) (i:=k) xj)).2
      by_cases ho:BC (nth L k)=true
      · have hp:0<k→BC (nth L (((k:Nat):Int)-1).toNat)=true:=fun h=>by rw [e];exact (hall (k-1) xj).1
        have hq:0<k→ao (nth L (((k:Nat):Int)-1).toNat).b:=fun h=>by rw [e];exact (hG _ (R.aB (L:=L) (i:=k-1) xj)).2
        rcases Nat.eq_zero_or_pos k with h0|h0
        · clear hp hq
          (refine ad ?_;(repeat' first|refine And.intro ?_ ?_|intro _);all_goals refine ah.mk ?_)
          refine iW [(0,false),(1,true),(2,false),(3,false),(4,false),(5,false),(6,false),(7,false),(8,false),(9,false),(10,false),(11,false),(12,false),(13,true),(14,false),(15,false)] R.mixed wx aj ?_
          (refine ad ?_;(repeat' first|refine And.intro ?_ ?_|intro _);all_goals refine ah.mk ?_)
          all_goals first
            | (exfalso;omega)
            | (have h:(!BC (nth L k))=true:=by assumption
               rw [ho] at h
               cases h)
            | (have hc:(nth L k).a*(nth L (((k:Nat):Int)-1).toNat).b<(nth L (((k:Nat):Int)-1).toNat).a*(nth L k).b:=by assumption
               rw [e] at hc
               rw [oK (fun g=>by
                 have:=(g.2.2.1 k xj).2 xj
                 rw [show nK (nth L (k-1)) (nth L k)=true from decide_eq_true hc] at this
                 cases this)]
               exact ⟨rfl,R.Own.below ww⟩)
            | (have hc:¬ (nth L k).a*(nth L (((k:Nat):Int)-1).toNat).b<(nth L (((k:Nat):Int)-1).toNat).a*(nth L k).b:=by assumption
               rw [e] at hc
               exact ⟨k+1,⟨rfl,rfl,rfl,rfl,aF rfl xj,trivial⟩,⟨by omega,qU hall ⟨ho,fun _=>decide_eq_false hc⟩,R.Own.KU ww⟩,by omega⟩)
            | exact ⟨k+1,⟨rfl,rfl,rfl,rfl,aF rfl xj,trivial⟩,⟨by omega,qU hall ⟨ho,fun g=>absurd g xj⟩,R.Own.KU ww⟩,by omega⟩
        · have hp:=hp h0
          have hq:=hq h0
          (refine ad ?_;(repeat' first|refine And.intro ?_ ?_|intro _);all_goals refine ah.mk ?_)
          refine iW [(0,false),(1,true),(2,false),(3,false),(4,false),(5,false),(6,false),(7,false),(8,false),(9,false),(10,false),(11,false),(12,false),(13,true),(14,false),(15,false)] R.mixed wx aj ?_
          (refine ad ?_;(repeat' first|refine And.intro ?_ ?_|intro _);all_goals refine ah.mk ?_)
          all_goals first
            | (exfalso;omega)
            | (have h:(!BC (nth L k))=true:=by assumption
               rw [ho] at h
               cases h)
            | (have hc:(nth L k).a*(nth L (((k:Nat):Int)-1).toNat).b<(nth L (((k:Nat):Int)-1).toNat).a*(nth L k).b:=by assumption
               rw [e] at hc
               rw [oK (fun g=>by
                 have:=(g.2.2.1 k xj).2 xj
                 rw [show nK (nth L (k-1)) (nth L k)=true from decide_eq_true hc] at this
                 cases this)]
               exact ⟨rfl,R.Own.below ww⟩)
            | (have hc:¬ (nth L k).a*(nth L (((k:Nat):Int)-1).toNat).b<(nth L (((k:Nat):Int)-1).toNat).a*(nth L k).b:=by assumption
               rw [e] at hc
               exact ⟨k+1,⟨rfl,rfl,rfl,rfl,aF rfl xj,trivial⟩,⟨by omega,qU hall ⟨ho,fun _=>decide_eq_false hc⟩,R.Own.KU ww⟩,by omega⟩)
            | exact ⟨k+1,⟨rfl,rfl,rfl,rfl,aF rfl xj,trivial⟩,⟨by omega,qU hall ⟨ho,fun g=>absurd g xj⟩,R.Own.KU ww⟩,by omega⟩
      · rw [oK (fun g=>ho (g.2.2.1 k xj).1)]
        (refine ad ?_;(repeat' first|refine And.intro ?_ ?_|intro _);all_goals refine ah.mk ?_)
        refine iW [(0,false),(1,true),(2,false),(3,false),(4,false),(5,false),(6,false),(7,false),(8,false),(9,false),(10,false),(11,false),(12,false),(13,true),(14,false),(15,false)] R.mixed wx aj ?_
        (refine ad ?_;(repeat' first|refine And.intro ?_ ?_|intro _);all_goals refine ah.mk ?_)
        all_goals first
          | exact ⟨rfl,R.Own.below ww⟩
          | (have h:(!BC (nth L k))=false:=by assumption
             exact absurd (by simpa using h) ho)
    · obtain rfl:k=n:=by omega
      have e:(((k:Nat):Int)-1).toNat=k-1:=by omega
      (refine ad ?_;(repeat' first|refine And.intro ?_ ?_|intro _);all_goals refine ah.mk ?_)
      · rename_i h0
        refine ⟨?_,R.Own.below ww⟩
        rw [e]
        by_cases hx:(nth L (k-1)).a=(nth L (k-1)).b
        · rw [decide_eq_true hx,Jz ⟨by omega,by omega,fun i hi=>hall i xj,h0,by rw [← hn];exact hx⟩]
        · rw [decide_eq_false hx,oK (fun g=>hx (by have:=g.2.2.2.2;rwa [← hn] at this))]
      · have h0:¬ (nth L (Int.toNat 0)).a=0:=by assumption
        rw [oK (fun g=>h0 g.2.2.2.1)]
        exact ⟨rfl,R.Own.below ww⟩
  · rw [oK (fun g=>hl ⟨by rw [hn];exact g.1,by rw [hn];exact g.2.1⟩)]
    refine aa (fn:=Tryz.f77) Tryz.func77 rfl Tryz.ntmps77 (Nat.le_of_ble_eq_true rfl) ?_
    (refine ak ?_;(repeat' first|refine And.intro ?_ ?_|intro _);all_goals refine ah.mk ?_;(all_goals (try (exact ⟨rfl,R.Own.below ww⟩))))
    all_goals (exfalso;omega)
instance ZW (A:Option Addr) (n c:Nat):bj Tryz.prog 77 #[.slice A n c] (List P2) (fun L w=>gn [] w A n 2 (L.flatMap kI)∧n=L.length∧n≤9223372036854775807∧∀ x∈L,ao x.a∧ao x.b) (fun L=>.bool (rf L)):=⟨fun L w h=>Lr A n c L w h.1 h.2.1 h.2.2.1 h.2.2.2⟩
noncomputable def kg (v:Int) (L:List P2):List Int:=if xE v&&rf L then eN v L else []
noncomputable def pD (v:Int) (L:List P2):Int:=if xE v then (if rf L then 0 else 1) else 10
theorem D6 (v:Int) (L:List P2) (k:Nat):(List.range (k+1)).map (e9 v L)=(List.range k).map (e9 v L)++[e9 v L k]:=by
  rw [List.range_succ,List.map_append,List.map_singleton]
theorem Po {v:Int} {p:P2} (hv:0≤v) (h:BC p=true):qG v p.a p.b=kU v p:=by
  obtain ⟨h1,h2,h3⟩:=sA h
  unfold qG
  rw [if_neg (by unfold oN;omega)]
  rfl
set_option maxHeartbeats 2000000 in
theorem D7 (v:Int) (hv:ao v) (A:Option Addr) (n c:Nat) (L:List P2) (w:World) (hA:gn [] w A n 2 (L.flatMap kI)) (hn:n=L.length) (hb:n≤c) (hb2:n≤9223372036854775807) (hG:∀ x∈L,ao x.a∧ao x.b):Calls Tryz.prog 39 #[.int .i64 v,.slice A n c] w fun e w'=>∃ A1 c1,e=.returned (.tuple #[.slice A1 (kg v L).length c1,.int .i64 (pD v L)])∧iV w w' A1 (kg v L).length c1 3 1 ((kg v L).flatMap R.cI):=by
  have hM:=R.Own.start [] w
  by_cases ho:xE v=true
  · by_cases hc:rf L=true
    · rw [show kg v L=eN v L by unfold kg;rw [ho,hc];rfl,show pD v L=0 by unfold pD;rw [if_pos ho,if_pos hc]]
      have hP:=P8 hc
      have hvr:=Hq ho
      have hl1:=hP.1
      have hl2:=hP.2.1
      have hI:=hA.mH (lo:=1) (m:=c) xj hb
      have hdr:(L.flatMap kI).drop (1*2)=(L.drop 1).flatMap kI:=by
        cases L with
        | nil=>rfl
        | cons x L=>rfl
      rw [hdr] at hI
      have hnth:∀ i,nth (L.drop 1) i=nth L (i+1):=fun i=>by
        unfold nth
        rw [List.getD_eq_getElem?_getD,List.getD_eq_getElem?_getD,List.getElem?_drop,Nat.add_comm]
      refine aa (fn:=Tryz.f39) Tryz.func39 rfl Tryz.ntmps39 (Nat.le_of_ble_eq_true rfl) ?_
      (refine ak ?_;(repeat' first|refine And.intro ?_ ?_|intro _);all_goals refine ah.mk ?_)
      · rename_i h
        rw [ho] at h
        cases h
      · rename_i h
        rw [hc] at h
        cases h
      refine au (fun s:Nat×Option Addr×Nat=>[(0,.int .i64 v),(4,.slice none 0 0),(5,.int .i64 0),(6,.slice s.2.1 s.1 s.2.2),(7,.int .i64 (kU v (nth L s.1))),(21,.slice (R.mH A c 1 2) (n-1) (c-1)),(22,.int .i64 ((n-1:Nat):Int)),(23,.int .i64 (s.1:Nat))])
        (fun s w2=>s.1≤n-1∧R.Own [] w w2 [.row s.2.1 s.1 s.2.2 3 1 (((List.range s.1).map (e9 v L)).flatMap R.cI)]) (fun s=>n-1-s.1) ⟨(0,none,0),⟨rfl,rfl,rfl,rfl,aF rfl (Hr hP).symm,rfl,rfl,rfl,trivial⟩,by dsimp only;omega,R.Own.nil aj _ _⟩ ?_
      clear hM
      rintro ⟨k,A1,c1⟩ f w2 ⟨hk,hM⟩
      dsimp only at hk hM ⊢
      by_cases hlt:k<n-1
      · have m1:=(hP.2.2.1 (k+1) xj).1
        have eq1:(if xE v then qG v (nth (L.drop 1) k).a (nth (L.drop 1) k).b else 0)=kU v (nth L (k+1)):=by rw [if_pos ho,hnth,Po hvr.1 m1]
        have b1:=ui hvr.1 m1
        have b2:=ui hvr.1 (hP.2.2.1 k xj).1
        have g1:ao (nth (L.drop 1) k).a∧ao (nth (L.drop 1) k).b:=by rw [hnth];exact hG _ (R.aB xj)
        obtain ⟨g2,g3⟩:=g1
        (refine ak ?_;(repeat' first|refine And.intro ?_ ?_|intro _);all_goals refine ah.mk ?_)
        rename_i hM
        rw [eq1,show kU v (nth L (k+1))-kU v (nth L k)=e9 v L k from rfl,← D6] at hM
        exact ⟨(k+1,_,_),⟨rfl,rfl,rfl,rfl,aF rfl eq1,rfl,rfl,aF rfl xj,trivial⟩,⟨by dsimp only;omega,hM.tl⟩,by dsimp only;omega⟩
      · obtain rfl:k=n-1:=by omega
        have hl:(eN v L).length=n-1:=by unfold eN;rw [List.length_map,List.length_range,hn]
        have hg:((List.range (n-1)).map (e9 v L))=eN v L:=by unfold eN;rw [hn]
        rw [hg] at hM
        (refine ak ?_;(repeat' first|refine And.intro ?_ ?_|intro _);all_goals refine ah.mk ?_)
        exact ⟨A1,c1,by rw [hl],by rw [hl];exact hM.gives⟩
    · have hc:rf L=false:=by simpa using hc
      rw [show kg v L=[] by unfold kg;rw [ho,hc];rfl,show pD v L=1 by unfold pD;rw [if_pos ho,hc];rfl]
      refine aa (fn:=Tryz.f39) Tryz.func39 rfl Tryz.ntmps39 (Nat.le_of_ble_eq_true rfl) ?_
      (refine ak ?_;(repeat' first|refine And.intro ?_ ?_|intro _);all_goals refine ah.mk ?_)
      · rename_i h
        rw [ho] at h
        cases h
      · rename_i hM _
        exact ⟨none,0,rfl,(R.Own.nil aj _ _).gives⟩
      · rename_i h
        rw [hc] at h
        cases h
  · have ho:xE v=false:=by simpa using ho
    rw [show kg v L=[] by unfold kg;rw [ho];rfl,show pD v L=10 by unfold pD;rw [ho];rfl]
    refine aa (fn:=Tryz.f39) Tryz.func39 rfl Tryz.ntmps39 (Nat.le_of_ble_eq_true rfl) ?_
    (refine ak ?_;(repeat' first|refine And.intro ?_ ?_|intro _);all_goals refine ah.mk ?_)
    all_goals first
      | exact ⟨none,0,rfl,(R.Own.nil aj _ _).gives⟩
      | (have h:(!xE v)=false:=by assumption
         rw [ho] at h
         cases h)
end Go.Proofs.YtlmabdegojeheaaGreatDoor
