/- WholeTurned: parts of its proof (Ua Uv Zm). -/
import Derived.Test.YtlmabdegojeheaaGreatDoorPtmPto
import Derived.Test.YtlmabdegojeheaaGreatDoorUlUo
import Derived.Test.YtlmabdegojeheaaGreatDoorZfNt
import Derived.Test.YtlmabdegojeheaaGreatDoorRjUu
namespace Go.Proofs.YtlmabdegojeheaaGreatDoor
open R Go.RowKit
section
def GPt (_:World) (z:Pt):Prop:=(Lit.int .i64 z.x).wf=true∧(Lit.int .i64 z.y).wf=true
instance aei:xy Tryz.prog 32 Pt cr GPt:=Dm (o0:=0) (t0:=3) (n0:=1) (o1:=1) (t1:=3) (n1:=1) wq wq rfl rfl wq Pt.mk (fun _ _=>rfl) (fun _ _ _ h1 h2=>⟨h1,h2⟩)
instance acT:xy Tryz.prog 27 (Sl Pt) iH (KT cr 2 GPt):=rU (e:=32) wq wq
structure Road where
 dG:Int
 p:Sl Pt
 q:Sl Int
 both:Bool
instance:Inhabited Road:=⟨⟨0,⟨none,0,0,[]⟩,⟨none,0,0,[]⟩,false⟩⟩
def fy (x:Road):List Value:=[.int .i64 x.dG,.slice x.p.A x.p.n x.p.c,.slice x.q.A x.q.n x.q.c,.bool x.both]
instance ZQ:cA fy 4:=⟨fun _=>rfl,by simp [fy,Value.oneCell'],by decide⟩
instance ZR:iU Tryz.prog 30 Road fy 4:={}
def ka (W:World) (z:Road):Prop:=(Lit.int .i64 z.dG).wf=true∧KT cr 2 GPt W z.p∧KT R.cI 1 GI W z.q∧GB W z.both
instance aa8:xy Tryz.prog 30 Road fy ka:=Dn (o0:=0) (t0:=3) (n0:=1) (o1:=1) (t1:=27) (n1:=1) (o2:=2) (t2:=28) (n2:=1) (o3:=3) (t3:=4) (n3:=1) wq wq wq wq rfl rfl rfl rfl wq Road.mk (fun _ _ _ _=>rfl) (fun _ _ _ _ _ h1 h2 h3 h4=>⟨h1,h2,h3,h4⟩)
instance ZS:xy Tryz.prog 22 (Sl Road) iH (KT fy 4 ka):=rU (e:=30) wq wq
section
variable (A:Option Addr) (n c:Nat) (L:List Road) (w:World) (hA:gn [] w A n 4 (L.flatMap fy)) (hn:n=L.length) (hb:n≤9223372036854775807) (hG:∀ x∈L,ka w x)
include hA hn hb hG
theorem Lk:Calls Tryz.prog 12 #[.slice A n c] w fun en w'=>∃ b:Bool,en=.returned (.bool b)∧w=w'∧(b=true→n≤210∧∀ x∈L,x.p.n≤110∧x.q.n≤110):=by
 have hM:=R.Own.start [] w
 refine aa (fn:=Tryz.f12) Tryz.func12 rfl Tryz.ntmps12 (Nat.le_of_ble_eq_true rfl) ?_
 (refine ak ?_;(repeat' first|refine And.intro ?_ ?_|intro _);all_goals refine ah.mk ?_)
 refine au (fun s:Nat×Int=>[(0,.slice A n c),(2,.bool false),(3,.int .i64 s.2),(4,.int .i64 (s.1:Nat))])
  (fun s w1=>s.1≤n∧s.1≤211∧w=w1∧0≤s.2∧s.2≤110*s.1∧∀ x∈L.take s.1,x.p.n≤110∧x.q.n≤110) (fun s=>n-s.1) ⟨(0,0),⟨rfl,rfl,rfl,rfl,trivial⟩,by dsimp only;omega,by dsimp only;omega,rfl,by dsimp only;omega,by dsimp only;omega,by simp⟩ ?_
 rintro ⟨k,v⟩ f w1 ⟨hk,hk2,rfl,h0,h1,hall⟩
 dsimp only at hk hk2 h0 h1 hall ⊢
 by_cases hlt:k<n
 ·have hmem:=R.aB (L:=L) (i:=k) xj
  obtain ⟨g1,g2,g3,_⟩:=hG _ hmem
  (refine ak ?_;(repeat' first|refine And.intro ?_ ?_|intro _);all_goals refine ah.mk ?_)
  ·exact ⟨_,rfl,rfl,fun h=>by cases h⟩
  ·exact ⟨_,rfl,rfl,fun h=>by cases h⟩
  ·rename_i h1 h2 h3
   refine ⟨(k+1,v+(nth L k).p.n),⟨rfl,rfl,rfl,aF rfl (by dsimp only;omega),trivial⟩,⟨by dsimp only;omega,by dsimp only;omega,rfl,by dsimp only;omega,by dsimp only;omega,?_⟩,by dsimp only;omega⟩
   rw [cd (by omega:k<L.length)]
   intro x hx
   rcases List.mem_append.1 hx with h|h
   ·exact hall x h
   ·rw [List.mem_singleton.1 h];omega
  exact ⟨_,rfl,rfl,fun h=>by first|cases h|(exfalso;simp at h;omega)⟩
 ·obtain rfl:k=n:=by omega
  rw [hn,List.take_length] at hall
  (refine ak ?_;(repeat' first|refine And.intro ?_ ?_|intro _);all_goals refine ah.mk ?_)
  ·exact ⟨_,rfl,rfl,fun _=>⟨by omega,hall⟩⟩
  ·exact ⟨_,rfl,rfl,fun h=>by first|cases h|(exfalso;simp at h;omega)⟩
end
def T6 (v:Int):Bool:=decide (-536870912≤v)&&decide (v≤536870912)
def gq (p:Pt):Bool:=T6 p.x&&T6 p.y
def qL (v:Int):Bool:=decide (v<0)||decide (2147483648<v)
def tf (L:List Pt):Prop:=∃ k,k+1<L.length∧nth L (k+1)=nth L k
noncomputable def mS (L:List Pt):Bool:=@decide (tf L) (Classical.propDecidable _)
theorem qM {L:List Pt} (h:tf L):mS L=true:=by unfold mS;exact @decide_eq_true _ (Classical.propDecidable _) h
theorem uc {L:List Pt} (h:¬ tf L):mS L=false:=by unfold mS;exact @decide_eq_false _ (Classical.propDecidable _) h
def Bh (x:Road):Bool:=decide (x.dG<1)||decide (1048576<x.dG)||decide (x.p.n<2)||decide (100<x.p.n)||decide (x.q.n+1≠x.p.n)
noncomputable def de (x:Road):Int :=
 if Bh x=true then 1 else if (x.p.L.any fun p=>!gq p)=true then 6 else if mS x.p.L=true then 1 else if x.q.L.any qL=true then 10 else 0
instance ZT (p:Pt):bj Tryz.prog 93 #[.agg (cr p).toArray] Unit (fun _ _=>True) (fun _=>.bool (gq p)):=⟨fun _ w _=>by
 have hM:=R.Own.start [] w
 refine aa (fn:=Tryz.f93) Tryz.func93 rfl Tryz.ntmps93 (Nat.le_of_ble_eq_true rfl) ?_
 (refine ak ?_;(repeat' first|refine And.intro ?_ ?_|intro _);all_goals refine ah.mk ?_)
 all_goals exact ⟨by simp [gq,T6, *],R.Own.below aj⟩⟩
instance ZU (p:Pt):bj Tryz.prog 15 #[.agg (cr p).toArray] Unit (fun _ _=>True) (fun _=>.bool (gq p)):=⟨fun _ w _=>by
 have hM:=R.Own.start [] w
 refine aa (fn:=Tryz.f15) Tryz.func15 rfl Tryz.ntmps15 (Nat.le_of_ble_eq_true rfl) ?_
 (refine ak ?_;(repeat' first|refine And.intro ?_ ?_|intro _);all_goals refine ah.mk ?_)
 all_goals exact ⟨by simp [gq,T6, *],R.Own.below aj⟩⟩
theorem DX (p:Pt) (w:World):Calls Tryz.prog 92 #[.agg (cr p).toArray] w fun e w'=>e=.returned (.bool (!gq p))∧Below w.heap.size w w':=by
 have hM:=R.Own.start [] w
 refine aa (fn:=Tryz.f92) Tryz.func92 rfl Tryz.ntmps92 (Nat.le_of_ble_eq_true rfl) ?_
 (refine ak ?_;(repeat' first|refine And.intro ?_ ?_|intro _);all_goals refine ah.mk ?_;(all_goals (try (exact ⟨rfl,R.Own.below ww⟩))))
theorem DY (v:Int) (w:World):Calls Tryz.prog 96 #[.int .i64 v] w fun e w'=>e=.returned (.bool (qL v))∧Below w.heap.size w w':=by
 have hM:=R.Own.start [] w
 refine aa (fn:=Tryz.f96) Tryz.func96 rfl Tryz.ntmps96 (Nat.le_of_ble_eq_true rfl) ?_
 (refine ak ?_;(repeat' first|refine And.intro ?_ ?_|intro _);all_goals refine ah.mk ?_)
 all_goals exact ⟨by simp [qL, *],R.Own.below aj⟩
theorem OZ (A:Option Addr) (n c:Nat) (L:List Pt) (w:World) (hA:gn [] w A n 2 (L.flatMap cr)) (hn:n=L.length) (hb:n≤1000000000):Calls Tryz.prog 94 #[.slice A n c] w fun e w'=>e=.returned (.bool (mS L))∧Below w.heap.size w w':=by
 have hM:=R.Own.start [] w
 refine aa (fn:=Tryz.f94) Tryz.func94 rfl Tryz.ntmps94 (Nat.le_of_ble_eq_true rfl) ?_
 (refine ak ?_;(repeat' first|refine And.intro ?_ ?_|intro _);all_goals refine ah.mk ?_)
 refine au (fun k:Nat=>[(0,.slice A n c),(2,.bool false),(3,.int .i64 ((k+1:Nat):Int))])
  (fun k w1=>(k+1≤n∨k=0)∧R.Own [] w w1 []∧∀ j,j<k→nth L (j+1)≠nth L j) (fun k=>n-k) ⟨0,⟨rfl,rfl,rfl,trivial⟩,.inr rfl,hM,fun j hj=>absurd hj (Nat.not_lt_zero _)⟩ ?_
 clear hM
 rintro k f w1 ⟨hk,hM,hall⟩
 have e1:(((k+1:Nat):Int)-1).toNat=k:=by omega
 by_cases hlt:k+1<n
 ·(refine ak ?_;(repeat' first|refine And.intro ?_ ?_|intro _);all_goals refine ah.mk ?_)
  ·rename_i hh
   rw [e1] at hh
   rw [qM ⟨k,by omega,hh⟩]
   exact ⟨rfl,R.Own.below aj⟩
  ·rename_i hh
   rw [e1] at hh
   refine ⟨k+1,⟨rfl,rfl,aF rfl xj,trivial⟩,⟨by omega,aj,fun j hj=>?_⟩,by omega⟩
   rcases Nat.lt_succ_iff_lt_or_eq.1 hj with h|rfl
   ·exact hall j h
   ·exact hh
 ·(refine ak ?_;(repeat' first|refine And.intro ?_ ?_|intro _);all_goals refine ah.mk ?_)
  rw [uc (fun ⟨j,h1,h2⟩=>hall j xj h2)]
  exact ⟨rfl,R.Own.below aj⟩
theorem YG {x:Road} (h:x.dG<1∨1048576<x.dG∨x.p.n<2∨100<x.p.n∨x.q.n+1≠x.p.n):Bh x=true:=by
 unfold Bh
 simp only [Bool.or_eq_true,decide_eq_true_eq]
 omega
theorem wg {x:Road} (h:¬ (x.dG<1∨1048576<x.dG∨x.p.n<2∨100<x.p.n∨x.q.n+1≠x.p.n)):Bh x=false:=by
 rw [Bool.eq_false_iff]
 intro hb
 unfold Bh at hb
 simp only [Bool.or_eq_true,decide_eq_true_eq] at hb
 omega
theorem GX {x:Road} (h:x.dG<1∨1048576<x.dG∨x.p.n<2∨100<x.p.n∨x.q.n+1≠x.p.n):de x=1:=by
 unfold de
 rw [if_pos (YG h)]
theorem O4 {x:Road} (h:¬ (x.dG<1∨1048576<x.dG∨x.p.n<2∨100<x.p.n∨x.q.n+1≠x.p.n)) (h6:(x.p.L.any fun p=>!gq p)=true):de x=6:=by
 unfold de
 rw [wg h,if_neg vj,if_pos h6]
theorem O5 {x:Road} (h:¬ (x.dG<1∨1048576<x.dG∨x.p.n<2∨100<x.p.n∨x.q.n+1≠x.p.n)) (h6:(x.p.L.any fun p=>!gq p)=false) (ht:mS x.p.L=true):de x=1:=by
 unfold de
 rw [wg h,if_neg vj,h6,if_neg vj,if_pos ht]
theorem Bi {x:Road} (h:¬ (x.dG<1∨1048576<x.dG∨x.p.n<2∨100<x.p.n∨x.q.n+1≠x.p.n)) (h6:(x.p.L.any fun p=>!gq p)=false) (ht:mS x.p.L=false) (hq:x.q.L.any qL=true):de x=10:=by
 unfold de
 rw [wg h,if_neg vj,h6,if_neg vj,ht,if_neg vj,if_pos hq]
theorem O6 {x:Road} (h:¬ (x.dG<1∨1048576<x.dG∨x.p.n<2∨100<x.p.n∨x.q.n+1≠x.p.n)) (h6:(x.p.L.any fun p=>!gq p)=false) (ht:mS x.p.L=false) (hq:x.q.L.any qL=false):de x=0:=by
 unfold de
 rw [wg h,if_neg vj,h6,if_neg vj,ht,if_neg vj,hq,if_neg (by decide)]
theorem O7 {T:Type} [Inhabited T] {L:List T} {p:T→Bool} {k:Nat} (hk:k<L.length) (h:p (nth L k)=true):L.any p=true:=List.any_eq_true.2 ⟨_,R.aB hk,h⟩
theorem VY {T:Type} [Inhabited T] {L:List T} {p:T→Bool} (h:∀ j,j<L.length→p (nth L j)=false):L.any p=false:=by
 rw [List.any_eq_false]
 intro x hx
 obtain ⟨j,hj,rfl⟩:=List.getElem_of_mem hx
 have:=h j hj
 rw [show nth L j=L[j] by unfold nth;rw [List.getD_eq_getElem?_getD,List.getElem?_eq_getElem hj];rfl] at this
 rw [this]
 decide
theorem GZ (x:Road) (w:World) (hx:ka w x):Calls Tryz.prog 57 #[.agg (fy x).toArray] w fun e w'=>e=.returned (.int .i64 (de x))∧Below w.heap.size w w':=by
 have hM:=R.Own.start [] w
 obtain ⟨g1,⟨hp,hpl,hpc,hpg⟩,⟨hq,hql,hqc,hqg⟩,_⟩:=hx
 refine aa (fn:=Tryz.f57) Tryz.func57 rfl Tryz.ntmps57 (Nat.le_of_ble_eq_true rfl) ?_
 (refine ak ?_;(repeat' first|refine And.intro ?_ ?_|intro _);all_goals refine ah.mk ?_)
 all_goals first
  | exact ⟨by rw [GX (by omega)],R.Own.below aj⟩
  | skip
 have hf:¬ (x.dG<1∨1048576<x.dG∨x.p.n<2∨100<x.p.n∨x.q.n+1≠x.p.n):=by omega
 refine ar rfl rfl vv vv ?_
 refine (tF x.p.A x.p.n x.p.c x.p.L 92 [] (fun p=>!gq p) _ (R.Own.gi aj hp) hpl xj (fun p w1 _ _=>DX p w1)).mono ?_
 rintro _ w3 ⟨rfl,hb⟩
 have hM:=R.Own.call aj hb
 refine ⟨_,rfl,?_⟩
 (refine ak ?_;(repeat' first|refine And.intro ?_ ?_|intro _);all_goals refine ah.mk ?_)
 ·rename_i h6
  exact ⟨by rw [O4 hf h6],R.Own.below aj⟩
 rename_i h6
 refine aA rfl rfl vv ?_
 refine (OZ x.p.A x.p.n x.p.c x.p.L _ (R.Own.gi aj hp) hpl xj).mono ?_
 rintro _ w4 ⟨rfl,hb⟩
 have hM:=R.Own.call aj hb
 refine ⟨_,rfl,?_⟩
 (refine ak ?_;(repeat' first|refine And.intro ?_ ?_|intro _);all_goals refine ah.mk ?_)
 ·rename_i ht
  exact ⟨by rw [O5 hf h6 ht],R.Own.below aj⟩
 rename_i ht
 refine ar rfl rfl vv vv ?_
 refine (sj x.q.A x.q.n x.q.c x.q.L 96 [] qL _ (R.Own.gi aj hq) hql xj (fun v w1 _ _=>DY v w1)).mono ?_
 rintro _ w5 ⟨rfl,hb⟩
 have hM:=R.Own.call aj hb
 refine ⟨_,rfl,?_⟩
 (refine ak ?_;(repeat' first|refine And.intro ?_ ?_|intro _);all_goals refine ah.mk ?_)
 ·rename_i hq
  exact ⟨by rw [Bi hf h6 ht hq],R.Own.below aj⟩
 ·rename_i hq
  exact ⟨by rw [O6 hf h6 ht hq],R.Own.below aj⟩
theorem Bj (x:Road) (w:World) (hx:ka w x) (hlq:x.q.n≤1000000000):Calls Tryz.prog 13 #[.agg (fy x).toArray] w fun e w'=>e=.returned (.int .i64 (de x))∧Below w.heap.size w w':=by
 have hM:=R.Own.start [] w
 obtain ⟨g1,⟨hp,hpl,hpc,hpg⟩,⟨hq,hql,hqc,hqg⟩,_⟩:=hx
 refine aa (fn:=Tryz.f13) Tryz.func13 rfl Tryz.ntmps13 (Nat.le_of_ble_eq_true rfl) ?_
 (refine ak ?_;(repeat' first|refine And.intro ?_ ?_|intro _);all_goals refine ah.mk ?_)
 all_goals first
  | exact ⟨by rw [GX (by omega)],R.Own.below aj⟩
  | skip
 rename_i b _ _ _ _ _ _ _
 have hf:¬ (x.dG<1∨1048576<x.dG∨x.p.n<2∨100<x.p.n∨x.q.n+1≠x.p.n):=by omega
 refine au (fun k:Nat=>[(1,.pointer (some ⟨b,0,none⟩)),(2,.int .i64 0),(3,.int .i64 (k:Nat))])
  (fun k w1=>k≤x.p.n∧R.Own [] w w1 [.blk b 30 (fy x)]∧∀ j,j<k→(!gq (nth x.p.L j))=false) (fun k=>x.p.n-k) ⟨0,⟨rfl,rfl,rfl,trivial⟩,Nat.zero_le _,aj,fun j hj=>absurd hj (Nat.not_lt_zero _)⟩ ?_
 rintro k f w1 ⟨hk,hM,hall⟩
 by_cases hlt:k<x.p.n
 ·(refine ak ?_;(repeat' first|refine And.intro ?_ ?_|intro _);all_goals refine ah.mk ?_)
  ·rename_i hh
   exact ⟨by rw [O4 hf (O7 (k:=k) xj (by simp [hh]))],R.Own.below aj⟩
  ·rename_i hh
   refine ⟨k+1,⟨rfl,rfl,aF rfl xj,trivial⟩,⟨by omega,aj,fun j hj=>?_⟩,by omega⟩
   rcases Nat.lt_succ_iff_lt_or_eq.1 hj with h|rfl
   ·exact hall j h
   ·simp [hh]
 obtain rfl:k=x.p.n:=by omega
 have h6:(x.p.L.any fun p=>!gq p)=false:=VY fun j hj=>hall j xj
 clear hall hk hlt
 (refine ak ?_;(repeat' first|refine And.intro ?_ ?_|intro _);all_goals refine ah.mk ?_)
 refine au (fun k:Nat=>[(1,.pointer (some ⟨b,0,none⟩)),(2,.int .i64 0),(4,.int .i64 ((k+1:Nat):Int))])
  (fun k w1=>(k+1≤x.p.n)∧R.Own [] w w1 [.blk b 30 (fy x)]∧∀ j,j<k→nth x.p.L (j+1)≠nth x.p.L j) (fun k=>x.p.n-k) ⟨0,⟨rfl,rfl,rfl,trivial⟩,by omega,aj,fun j hj=>absurd hj (Nat.not_lt_zero _)⟩ ?_
 clear hM
 rintro k f w1 ⟨hk,hM,hall⟩
 have e1:(((k+1:Nat):Int)-1).toNat=k:=by omega
 by_cases hlt:k+1<x.p.n
 ·(refine ak ?_;(repeat' first|refine And.intro ?_ ?_|intro _);all_goals refine ah.mk ?_)
  ·rename_i hh
   rw [e1] at hh
   exact ⟨by rw [O5 hf h6 (qM ⟨k,by omega,hh⟩)],R.Own.below aj⟩
  ·rename_i hh
   rw [e1] at hh
   refine ⟨k+1,⟨rfl,rfl,aF rfl xj,trivial⟩,⟨by omega,aj,fun j hj=>?_⟩,by omega⟩
   rcases Nat.lt_succ_iff_lt_or_eq.1 hj with h|rfl
   ·exact hall j h
   ·exact hh
 have ht:mS x.p.L=false:=uc (fun ⟨j,h1,h2⟩=>hall j xj h2)
 clear hall
 (refine ak ?_;(repeat' first|refine And.intro ?_ ?_|intro _);all_goals refine ah.mk ?_)
 refine au (fun k:Nat=>[(1,.pointer (some ⟨b,0,none⟩)),(2,.int .i64 0),(5,.int .i64 (k:Nat))])
  (fun k w1=>k≤x.q.n∧R.Own [] w w1 [.blk b 30 (fy x)]∧∀ j,j<k→qL (nth x.q.L j)=false) (fun k=>x.q.n-k) ⟨0,⟨rfl,rfl,rfl,trivial⟩,Nat.zero_le _,aj,fun j hj=>absurd hj (Nat.not_lt_zero _)⟩ ?_
 clear hM hlt hk
 rintro k f w1 ⟨hk,hM,hall⟩
 by_cases hlt:k<x.q.n
 ·(refine ak ?_;(repeat' first|refine And.intro ?_ ?_|intro _);all_goals refine ah.mk ?_)
  ·exact ⟨by rw [Bi hf h6 ht (O7 (k:=k) xj (by simp [qL, *]))],R.Own.below aj⟩
  ·exact ⟨by rw [Bi hf h6 ht (O7 (k:=k) xj (by simp [qL, *]))],R.Own.below aj⟩
  ·rename_i h0 h1
   refine ⟨k+1,⟨rfl,rfl,aF rfl xj,trivial⟩,⟨by omega,aj,fun j hj=>?_⟩,by omega⟩
   rcases Nat.lt_succ_iff_lt_or_eq.1 hj with h|rfl
   ·exact hall j h
   ·simp [qL];omega
 have hq0:x.q.L.any qL=false:=VY fun j hj=>hall j xj
 (refine ak ?_;(repeat' first|refine And.intro ?_ ?_|intro _);all_goals refine ah.mk ?_)
 exact ⟨by rw [O6 hf h6 ht hq0],R.Own.below aj⟩
theorem ka.now {W w:World} {l:List bX} {x:Road} (hM:R.Own [] W w l) (h:ka W x):ka w x:=⟨h.1,⟨R.Own.gi hM h.2.1.1,h.2.1.2.1,h.2.1.2.2.1,h.2.1.2.2.2⟩,⟨R.Own.gi hM h.2.2.1.1,h.2.2.1.2.1,h.2.2.1.2.2.1,h.2.2.1.2.2.2⟩,h.2.2.2⟩
theorem jE {x:Road} (h:de x=0):1≤x.dG∧x.dG≤1048576∧2≤x.p.n∧x.p.n≤100∧x.q.n+1=x.p.n:=by
 by_cases hf:x.dG<1∨1048576<x.dG∨x.p.n<2∨100<x.p.n∨x.q.n+1≠x.p.n
 ·rw [GX hf] at h
  cases h
 ·omega
noncomputable def gV:List Road→Int
 | []=>0
 | x::l=>if de x=0 then gV l else de x
theorem wh {L:List Road} (h:∀ x∈L,de x=0):gV L=0:=by
 induction L with
 | nil=>rfl
 | cons x l ih =>
  unfold gV
  rw [if_pos (h x (.head _)),ih fun y hy=>h y (.tail _ hy)]
theorem DZ {L:List Road} {k:Nat} (hk:k<L.length) (h:∀ j,j<k→de (nth L j)=0) (hn:de (nth L k)≠0):gV L=de (nth L k):=by
 induction L generalizing k with
 | nil=>exact absurd hk (Nat.not_lt_zero _)
 | cons x l ih =>
  unfold gV
  cases k with
  | zero =>
   have hx:de x≠0:=hn
   rw [if_neg hx]
   rfl
  | succ k =>
   have hx:de x=0:=h 0 (Nat.succ_pos _)
   rw [if_pos hx]
   exact ih (Nat.lt_of_succ_lt_succ hk) (fun j hj=>h (j+1) (Nat.succ_lt_succ hj)) hn
theorem nI {L:List Road} {x:Road} (h:x∈L):∃ j,j<L.length∧nth L j=x:=by
 obtain ⟨j,hj,rfl⟩:=List.getElem_of_mem h
 exact ⟨j,hj,by unfold nth;rw [List.getD_eq_getElem?_getD,List.getElem?_eq_getElem hj];rfl⟩
def dw:List Road→Nat
 | []=>0
 | x::l=>x.q.n+dw l
theorem yn (a b:List Road):dw (a++b)=dw a+dw b:=by
 induction a with
 | nil=>simp [dw]
 | cons x l ih =>
  simp only [List.cons_append,dw,ih]
  omega
theorem kc {L:List Road} {k:Nat} (hk:k<L.length):dw (L.take (k+1))=dw (L.take k)+(nth L k).q.n:=by
 rw [cd hk,yn]
 rfl
theorem Jg {L:List Road} {k:Nat} (h:∀ j,j<k→de (nth L j)=0) (h0:de (nth L k)=0):∀ j,j<k+1→de (nth L j)=0:=fun j hj=>by
 rcases Nat.lt_succ_iff_lt_or_eq.1 hj with h1|rfl
 ·exact h j h1
 ·exact h0
def qN (L:List Road) (k:Nat):Prop:=∀ j,j+1<k→(nth L j).dG<(nth L (j+1)).dG
noncomputable def cZ (L:List Road):Int :=
 if 200<L.length then 4 else if gV L≠0 then gV L else if @decide (qN L L.length) (Classical.propDecidable _)=false then 1 else if 400<dw L then 4 else 0
theorem wi {L:List Road} (h:200<L.length):cZ L=4:=by
 unfold cZ
 rw [if_pos h]
theorem D2 {L:List Road} (h:¬ 200<L.length) {k:Nat} (hk:k<L.length) (h0:∀ j,j<k→de (nth L j)=0) (hn:de (nth L k)≠0):cZ L=de (nth L k):=by
 unfold cZ
 rw [if_neg h,DZ hk h0 hn,if_pos hn]
theorem wj {L:List Road} (h:¬ 200<L.length) (h0:∀ j,j<L.length→de (nth L j)=0) (hr:¬ qN L L.length):cZ L=1:=by
 unfold cZ
 rw [if_neg h,wh (fun x hx=>by obtain ⟨j,hj,rfl⟩:=nI hx;exact h0 j hj),if_neg vj,if_pos (@decide_eq_false _ (Classical.propDecidable _) hr)]
theorem qO {L:List Road} (h:¬ 200<L.length) (h0:∀ j,j<L.length→de (nth L j)=0) (hr:qN L L.length):cZ L=if 400<dw L then 4 else 0:=by
 unfold cZ
 rw [if_neg h,wh (fun x hx=>by obtain ⟨j,hj,rfl⟩:=nI hx;exact h0 j hj),if_neg vj,@decide_eq_true _ (Classical.propDecidable _) hr,if_neg (by decide)]
section
variable (A:Option Addr) (n c:Nat) (L:List Road) (w:World) (hA:gn [] w A n 4 (L.flatMap fy)) (hn:n=L.length) (hb:n≤1000000000) (hG:∀ x∈L,ka w x)
include hA hn hb hG
set_option maxHeartbeats 1000000 in
theorem T7:Calls Tryz.prog 33 #[.slice A n c] w fun e w'=>e=.returned (.int .i64 (cZ L))∧Below w.heap.size w w':=by
 have hM:=R.Own.start [] w
 refine aa (fn:=Tryz.f33) Tryz.func33 rfl Tryz.ntmps33 (Nat.le_of_ble_eq_true rfl) ?_
 (refine ak ?_;(repeat' first|refine And.intro ?_ ?_|intro _);all_goals refine ah.mk ?_)
 ·exact ⟨by rw [wi (by omega)],R.Own.below aj⟩
 have h200:¬ 200<L.length:=by omega
 refine au (fun k:Nat=>[(0,.slice A n c),(2,.int .i64 0),(3,.int .i64 (dw (L.take k):Nat)),(4,.int .i64 0),(13,.slice A n c),(14,.int .i64 (n:Nat)),(15,.int .i64 (k:Nat))])
  (fun k w1=>k≤n∧R.Own [] w w1 []∧dw (L.take k)≤100*k∧∀ j,j<k→de (nth L j)=0) (fun k=>n-k) ⟨0,⟨rfl,rfl,rfl,rfl,rfl,rfl,rfl,trivial⟩,Nat.zero_le _,hM,Nat.le_refl _,fun j hj=>absurd hj (Nat.not_lt_zero _)⟩ ?_
 clear hM
 rintro k f w1 ⟨hk,hM,hl,hall⟩
 by_cases hlt:k<n
 ·have hx:=hG _ (R.aB (L:=L) (i:=k) xj)
  have hsn:=kc (L:=L) (k:=k) xj
  (refine ak ?_;(repeat' first|refine And.intro ?_ ?_|intro _);all_goals refine ah.mk ?_)
  refine aA rfl rfl vv ?_
  refine (GZ (nth L k) _ (ka.now aj hx)).mono ?_
  rintro _ w2 ⟨rfl,hb2⟩
  have hM:=R.Own.call aj hb2
  refine ⟨_,rfl,?_⟩
  by_cases he0:de (nth L k)≠0
  ·(refine ak ?_;(repeat' first|refine And.intro ?_ ?_|intro _);all_goals refine ah.mk ?_)
   exact ⟨by rw [D2 h200 xj hall he0],R.Own.below aj⟩
  have he0:de (nth L k)=0:=Decidable.not_not.1 he0
  have hok:=jE he0
  (refine ak ?_;(repeat' first|refine And.intro ?_ ?_|intro _);all_goals refine ah.mk ?_)
  refine ⟨k+1,⟨rfl,rfl,aF rfl xj,rfl,rfl,rfl,aF rfl xj,trivial⟩,⟨by omega,R.Own.tl aj,by omega,fun j hj=>?_⟩,by omega⟩
  exact Jg hall he0 j hj
 have hall:∀ j,j<L.length→de (nth L j)=0:=fun j hj=>hall j xj
 have hln:dw (L.take k)=dw L:=by rw [List.take_of_length_le (by omega)]
 rw [hln] at hl
 (refine ak ?_;(repeat' first|refine And.intro ?_ ?_|intro _);all_goals refine ah.mk ?_)
 refine au (fun s:Nat×Int=>[(2,.int .i64 0),(3,.int .i64 (dw L:Nat)),(4,.int .i64 s.2),(30,.slice A n c),(31,.int .i64 (n:Nat)),(32,.int .i64 (s.1:Nat))])
  (fun s w1=>s.1≤n∧R.Own [] w w1 []∧qN L s.1∧(s.1=0→s.2=0)∧(0<s.1→s.2=(nth L (s.1-1)).dG)) (fun s=>n-s.1) ⟨(0,0),⟨rfl,aF rfl xj,rfl,rfl,rfl,rfl,trivial⟩,Nat.zero_le _,aj,fun j hj=>by dsimp only at hj;omega,fun _=>rfl,fun h=>by dsimp only at h;omega⟩ ?_
 clear hM hlt hk hln
 rintro ⟨k,v⟩ f w1 ⟨hk,hM,hr,hv0,hv1⟩
 dsimp only at hk hM hr hv0 hv1 ⊢
 by_cases hlt:k<n
 ·have hok:=jE (hall k xj)
  (refine ak ?_;(repeat' first|refine And.intro ?_ ?_|intro _);all_goals refine ah.mk ?_)
  ·rename_i hle
   have hr2:¬ qN L L.length:=fun hr=>by
    rcases Nat.eq_zero_or_pos k with h0|h0
    ·rw [hv0 h0] at hle
     omega
    ·have:=hr (k-1) xj
     rw [hv1 h0] at hle
     rw [show k-1+1=k by omega] at this
     omega
   exact ⟨by rw [wj h200 hall hr2],R.Own.below aj⟩
  ·rename_i hle
   refine ⟨(k+1,(nth L k).dG),⟨rfl,rfl,rfl,rfl,rfl,aF rfl (by dsimp only;omega),trivial⟩,⟨by dsimp only;omega,R.Own.tl aj,fun j hj=>?_,fun h=>absurd h (Nat.succ_ne_zero _),fun _=>rfl⟩,by dsimp only;omega⟩
   dsimp only at hj
   by_cases h:j+1<k
   ·exact hr j h
   ·obtain rfl:k=j+1:=by omega
    rw [hv1 (by omega)] at hle
    rw [show j+1-1=j by omega] at hle
    omega
 obtain rfl:k=L.length:=by omega
 have h5:=qO h200 hall hr
 (refine ak ?_;(repeat' first|refine And.intro ?_ ?_|intro _);all_goals refine ah.mk ?_)
 ·exact ⟨by rw [h5,if_pos (by omega)],R.Own.below aj⟩
 ·exact ⟨by rw [h5,if_neg (by omega)],R.Own.below aj⟩
theorem Ll (hq:∀ x∈L,x.q.n≤1000000000):Calls Tryz.prog 5 #[.slice A n c] w fun e w'=>e=.returned (.int .i64 (cZ L))∧Below w.heap.size w w':=by
 have hM:=R.Own.start [] w
 refine aa (fn:=Tryz.f5) Tryz.func5 rfl Tryz.ntmps5 (Nat.le_of_ble_eq_true rfl) ?_
 (refine ak ?_;(repeat' first|refine And.intro ?_ ?_|intro _);all_goals refine ah.mk ?_)
 ·exact ⟨by rw [wi (by omega)],R.Own.below aj⟩
 have h200:¬ 200<L.length:=by omega
 refine au (fun s:Nat×Bool=>[(0,.slice A n c),(2,.int .i64 0),(3,.int .i64 (dw (L.take s.1):Nat)),(4,.bool s.2),(5,.int .i64 (s.1:Nat))])
  (fun s w1=>s.1≤n∧R.Own [] w w1 []∧dw (L.take s.1)≤100*s.1∧(∀ j,j<s.1→de (nth L j)=0)∧(s.2=true↔qN L s.1)) (fun s=>n-s.1) ⟨(0,true),⟨rfl,rfl,rfl,rfl,rfl,trivial⟩,Nat.zero_le _,hM,Nat.le_refl _,fun j hj=>by dsimp only at hj;omega,fun _ j hj=>by dsimp only at hj;omega,fun _=>rfl⟩ ?_
 clear hM
 rintro ⟨k,r⟩ f w1 ⟨hk,hM,hl,hall,hr⟩
 dsimp only at hk hM hl hall hr ⊢
 by_cases hlt:k<n
 ·have hx:=hG _ (R.aB (L:=L) (i:=k) xj)
  have hq1:=hq _ (R.aB (L:=L) (i:=k) xj)
  have hsn:=kc (L:=L) (k:=k) xj
  (refine ak ?_;(repeat' first|refine And.intro ?_ ?_|intro _);all_goals refine ah.mk ?_)
  refine aA rfl rfl vv ?_
  refine (Bj (nth L k) _ (ka.now aj hx) hq1).mono ?_
  rintro _ w2 ⟨rfl,hb2⟩
  have hM:=R.Own.call aj hb2
  refine ⟨_,rfl,?_⟩
  by_cases he0:de (nth L k)≠0
  ·(refine ak ?_;(repeat' first|refine And.intro ?_ ?_|intro _);all_goals refine ah.mk ?_)
   exact ⟨by rw [D2 h200 xj hall he0],R.Own.below aj⟩
  have he0:de (nth L k)=0:=Decidable.not_not.1 he0
  have hok:=jE he0
  have e1:((k:Int)-1).toNat=k-1:=by omega
  (refine ak ?_;(repeat' first|refine And.intro ?_ ?_|intro _);all_goals refine ah.mk ?_)
  ·rename_i hr1 hk0
   refine ⟨(k+1,true),⟨rfl,rfl,aF rfl (by dsimp only;omega),xo rfl (by simp [*]),aF rfl (by dsimp only;omega),trivial⟩,⟨by dsimp only;omega,aj,by dsimp only;omega,Jg hall he0,fun _ j hj=>by dsimp only at hj;omega,fun _=>rfl⟩,by dsimp only;omega⟩
  ·rename_i hr1 hk0
   refine ⟨(k+1,decide ((nth L (k-1)).dG<(nth L k).dG)),⟨rfl,rfl,aF rfl (by dsimp only;omega),xo rfl (by simp [*]),aF rfl (by dsimp only;omega),trivial⟩,⟨by dsimp only;omega,aj,by dsimp only;omega,Jg hall he0,?_⟩,by dsimp only;omega⟩
   dsimp only
   rw [decide_eq_true_eq]
   constructor
   ·intro h j hj
    by_cases h2:j+1<k
    ·exact hr.1 hr1 j h2
    ·obtain rfl:k=j+1:=by omega
     exact h
   ·intro h
    have:=h (k-1) xj
    rw [show k-1+1=k by omega] at this
    exact this
  ·rename_i hr1
   refine ⟨(k+1,false),⟨rfl,rfl,aF rfl (by dsimp only;omega),xo rfl (by simp [*]),aF rfl (by dsimp only;omega),trivial⟩,⟨by dsimp only;omega,aj,by dsimp only;omega,Jg hall he0,?_⟩,by dsimp only;omega⟩
   dsimp only
   constructor
   ·intro h
    cases h
   ·intro h
    have:=hr.2 fun j hj=>h j xj
    rw [hr1] at this
    cases this
 obtain rfl:k=n:=by omega
 have hln:dw (L.take k)=dw L:=by rw [List.take_of_length_le (by omega)]
 have hall:∀ j,j<L.length→de (nth L j)=0:=fun j hj=>hall j xj
 rw [hln] at hl
 cases r
 ·have hr2:¬ qN L L.length:=fun h=>by
   rw [← hn] at h
   have:=hr.2 h
   cases this
  (refine ak ?_;(repeat' first|refine And.intro ?_ ?_|intro _);all_goals refine ah.mk ?_)
  exact ⟨by rw [wj h200 hall hr2],R.Own.below aj⟩
 have h5:=qO h200 hall (by rw [← hn];exact hr.1 rfl)
 (refine ak ?_;(repeat' first|refine And.intro ?_ ?_|intro _);all_goals refine ah.mk ?_)
 ·exact ⟨by rw [h5,if_pos (by omega)],R.Own.below aj⟩
 ·exact ⟨by rw [h5,if_neg (by omega)],R.Own.below aj⟩
end
def oD (x:Road) (i:Nat):iX:=⟨x.dG,(i:Nat),⟨nth x.p.L i,nth x.p.L (i+1)⟩,nth x.q.L i,x.both⟩
def c9 (x:Road) (j:Nat):List iX:=(List.range j).map (oD x)
def bN (L:List Road):List iX:=L.flatMap fun x=>c9 x x.q.n
theorem tg (x:Road) (j:Nat):(c9 x j).length=j:=by simp [c9]
theorem qP (x:Road) (j:Nat):c9 x (j+1)=c9 x j++[oD x j]:=by simp [c9,List.range_succ]
theorem th (L:List Road):(bN L).length=dw L:=by
 induction L with
 | nil=>rfl
 | cons x l ih =>
  unfold bN at ih ⊢
  rw [List.flatMap_cons,List.length_append,ih,tg]
  rfl
theorem mI {L:List Road} {k:Nat} (hk:k<L.length):bN (L.take (k+1))=bN (L.take k)++c9 (nth L k) (nth L k).q.n:=by
 unfold bN
 rw [cd hk,List.flatMap_append]
 simp
theorem lY {L:List Road} (h:cZ L=0):L.length≤200∧(∀ j,j<L.length→de (nth L j)=0)∧qN L L.length∧dw L≤400:=by
 by_cases h1:200<L.length
 ·rw [wi h1] at h
  cases h
 by_cases h2:∀ j,j<L.length→de (nth L j)=0
 ·by_cases h3:qN L L.length
  ·rw [qO h1 h2 h3] at h
   split at h
   ·cases h
   ·exact ⟨by omega,h2,h3,by omega⟩
  ·rw [wj h1 h2 h3] at h
   cases h
 ·exfalso
  unfold cZ at h
  rw [if_neg h1] at h
  have hf:gV L≠0:=fun hz=>h2 (fun j hj=>by
   clear h h1 h2
   induction L generalizing j with
   | nil=>exact absurd hj (Nat.not_lt_zero _)
   | cons x l ih =>
    unfold gV at hz
    by_cases hx:de x=0
    ·rw [if_pos hx] at hz
     cases j with
     | zero=>exact hx
     | succ j=>exact ih hz j (Nat.lt_of_succ_lt_succ hj)
    ·rw [if_neg hx] at hz
     exact absurd hz hx)
  rw [if_pos hf] at h
  exact hf h
theorem O8 (L:List Road) (k:Nat):dw (L.take k)≤dw L:=by
 have:=yn (L.take k) (L.drop k)
 rw [List.take_append_drop] at this
 omega
section
variable (A:Option Addr) (n c:Nat) (L:List Road) (w:World) (hA:gn [] w A n 4 (L.flatMap fy)) (hn:n=L.length) (hb:n≤1000000000) (hG:∀ x∈L,ka w x)
include hA hn hb hG
set_option maxHeartbeats 2000000 in
theorem wk:Calls Tryz.prog 16 #[.slice A n c] w fun e w'=>∃ A1 c1 M,M=(if cZ L=0 then bN L else [])∧e=.returned (.tuple #[.slice A1 M.length c1,.int .i64 (cZ L)])∧iV w w' A1 M.length c1 58 8 (M.flatMap dz):=by
 have hM:=R.Own.start [] w
 refine aa (fn:=Tryz.f16) Tryz.func16 rfl Tryz.ntmps16 (Nat.le_of_ble_eq_true rfl) ?_
 (refine ak ?_;(repeat' first|refine And.intro ?_ ?_|intro _);all_goals refine ah.mk ?_)
 refine aA rfl rfl vv ?_
 refine (T7 A n c L w hA hn hb hG).mono ?_
 rintro _ w2 ⟨rfl,hb2⟩
 have hM:=R.Own.call hM hb2
 refine ⟨_,rfl,?_⟩
 by_cases he:cZ L≠0
 ·(refine ak ?_;(repeat' first|refine And.intro ?_ ?_|intro _);all_goals refine ah.mk ?_)
  exact ⟨none,0,[],by rw [if_neg he],rfl,(R.Own.nil aj _ _).gives⟩
 have he:cZ L=0:=Decidable.not_not.1 he
 obtain ⟨h200,hall,hr,h400⟩:=lY he
 (refine ak ?_;(repeat' first|refine And.intro ?_ ?_|intro _);all_goals refine ah.mk ?_)
 refine au (fun s:Nat×Option Addr×Nat=>[(2,.slice none 0 0),(3,.int .i64 0),(5,.slice s.2.1 (bN (L.take s.1)).length s.2.2),(15,.slice A n c),(16,.int .i64 (n:Nat)),(17,.int .i64 (s.1:Nat))])
  (fun s w1=>s.1≤n∧R.Own [] w w1 [.row s.2.1 (bN (L.take s.1)).length s.2.2 58 8 ((bN (L.take s.1)).flatMap dz)]) (fun s=>n-s.1) ⟨(0,none,0),⟨rfl,rfl,rfl,rfl,rfl,rfl,trivial⟩,Nat.zero_le _,R.Own.nil aj _ _⟩ ?_
 clear hM
 rintro ⟨k,A1,c1⟩ f w3 ⟨hk,hM⟩
 dsimp only at hk hM ⊢
 by_cases hlt:k<n
 ·obtain ⟨g1,⟨hp,hpl,hpc,hpg⟩,⟨hq,hql,hqc,hqg⟩,_⟩:=hG _ (R.aB (L:=L) (i:=k) xj)
  have hok:=jE (hall k xj)
  have hsl:=th (L.take k)
  have hle:=O8 L k
  (refine ak ?_;(repeat' first|refine And.intro ?_ ?_|intro _);all_goals refine ah.mk ?_)
  rename_i y _ _ _ hM
  refine au (fun s:Nat×Option Addr×Nat=>[(2,.slice none 0 0),(3,.int .i64 0),(5,.slice s.2.1 (bN (L.take k)++c9 (nth L k) s.1).length s.2.2),(7,.pointer (some ⟨y,0,none⟩)),(15,.slice A n c),(16,.int .i64 (n:Nat)),(17,.int .i64 (k:Nat)),(22,.slice (nth L k).q.A (nth L k).q.n (nth L k).q.c),(23,.int .i64 ((nth L k).q.n:Nat)),(24,.int .i64 (s.1:Nat))])
   (fun s w1=>s.1≤(nth L k).q.n∧R.Own [] w w1 [.row s.2.1 (bN (L.take k)++c9 (nth L k) s.1).length s.2.2 58 8 ((bN (L.take k)++c9 (nth L k) s.1).flatMap dz),.blk y 30 (fy (nth L k))]) (fun s=>(nth L k).q.n-s.1)
   ⟨(0,A1,c1),⟨rfl,rfl,qD rfl (by simp [c9]),rfl,rfl,rfl,rfl,rfl,rfl,rfl,trivial⟩,Nat.zero_le _,by simpa [c9] using R.Own.swap hM⟩ ?_
  clear hM
  rintro ⟨j,A2,c2⟩ f w4 ⟨hj,hM⟩
  dsimp only at hj hM ⊢
  have hl2:(bN (L.take k)++c9 (nth L k) j).length≤20000:=by rw [List.length_append,tg];omega
  by_cases hjt:j<(nth L k).q.n
  ·(refine ad ?_;(repeat' first|refine And.intro ?_ ?_|intro _);all_goals refine ah.mk ?_)
   refine nT [(0,false),(1,false),(2,false),(3,false),(4,false),(5,false),(6,false),(7,false),(8,false),(9,false),(10,false),(11,false),(12,false),(13,false),(14,false),(15,false),(16,false),(17,false),(18,false),(19,false),(20,true),(21,true),(22,false)] R.mixed wx aj ?_
   (refine ad ?_;(repeat' first|refine And.intro ?_ ?_|intro _);all_goals refine ah.mk ?_)
   rename_i A7 c7 _ hM
   have hM:R.Own [] w _ [.row A7 1 c7 58 8 (dz (oD (nth L k) j)),.row A2 (bN (L.take k)++c9 (nth L k) j).length c2 58 8 ((bN (L.take k)++c9 (nth L k) j).flatMap dz),.blk y 30 (fy (nth L k))]:=hM
   (refine ad ?_;(repeat' first|refine And.intro ?_ ?_|intro _);all_goals refine ah.mk ?_)
   rename_i A8 c8 _ hM
   refine ⟨(j+1,A8,c8),⟨rfl,rfl,qD rfl (by dsimp only;rw [qP,← List.append_assoc,List.length_append (bs:=[_])];rfl),rfl,rfl,rfl,rfl,rfl,rfl,aF rfl (by dsimp only;omega),trivial⟩,⟨by dsimp only;omega,?_⟩,by dsimp only;omega⟩
   dsimp only
   rw [qP,← List.append_assoc,List.length_append (bs:=[_])]
   exact hM
  ·(refine ad ?_;(repeat' first|refine And.intro ?_ ?_|intro _);all_goals refine ah.mk ?_)
   obtain rfl:j=(nth L k).q.n:=by omega
   have hsn:=mI (L:=L) (k:=k) xj
   refine ⟨(k+1,A2,c2),⟨rfl,rfl,qD rfl (by dsimp only;rw [hsn]),rfl,rfl,aF rfl (by dsimp only;omega),trivial⟩,⟨by dsimp only;omega,?_⟩,by dsimp only;omega⟩
   dsimp only
   rw [hsn]
   exact R.Own.tl (R.Own.swap hM)
 ·(refine ad ?_;(repeat' first|refine And.intro ?_ ?_|intro _);all_goals refine ah.mk ?_)
  have hlk:L.take k=L:=List.take_of_length_le xj
  rw [hlk] at hM ⊢
  exact ⟨A1,c1,bN L,by rw [if_pos he],by rw [he],hM.gives⟩
end
end
section
section
variable (A:Option Addr) (n c:Nat) (L:List Road) (w:World) (hA:gn [] w A n 4 (L.flatMap fy)) (hn:n=L.length) (hb:n≤9223372036854775807) (hG:∀ x∈L,ka w x)
include hA hn hb hG
theorem US:Calls Tryz.prog 4 #[.slice A n c,.int .i64 20] w fun en w'=>∃ b:Bool,en=.returned (.bool b)∧w=w'∧(b=true→n≤20∧dw L≤20∧∀ x∈L,x.p.n≤110∧x.q.n≤110):=by
 have hM:=R.Own.start [] w
 refine aa (fn:=Tryz.f4) Tryz.func4 rfl Tryz.ntmps4 (Nat.le_of_ble_eq_true rfl) ?_
 (refine ad ?_;(repeat' first|refine And.intro ?_ ?_|intro _);all_goals refine ah.mk ?_)
 refine au (fun s:Nat×Int=>[(0,.slice A n c),(1,.int .i64 20),(4,.bool false),(5,.int .i64 s.2),(6,.int .i64 (s.1:Nat))])
  (fun s w1=>s.1≤n∧s.1≤21∧w=w1∧((∀ x∈L.take s.1,x.q.n≤110)→s.2=dw (L.take s.1)∧dw (L.take s.1)≤110*s.1)) (fun s=>n-s.1) ⟨(0,0),⟨rfl,rfl,rfl,rfl,rfl,trivial⟩,by dsimp only;omega,by dsimp only;omega,rfl,fun _=>⟨rfl,Nat.zero_le _⟩⟩ ?_
 rintro ⟨k,v⟩ f w1 ⟨hk,hk2,rfl,hv⟩
 dsimp only at hk hk2 hv ⊢
 by_cases hlt:k<n
 ·have hmem:=R.aB (L:=L) (i:=k) xj
  obtain ⟨g1,g2,⟨g3,g4,g5,_⟩,_⟩:=hG _ hmem
  have hsn:=kc (L:=L) (k:=k) xj
  (refine ad ?_;(repeat' first|refine And.intro ?_ ?_|intro _);all_goals refine ah.mk ?_)
  ·refine y8 rfl rfl rfl ?_
   (refine ad ?_;(repeat' first|refine And.intro ?_ ?_|intro _);all_goals refine ah.mk ?_)
   refine ⟨(k+1,IntKind.i64.wrap (v+((nth L k).q.n:Nat))),⟨rfl,rfl,rfl,rfl,aF rfl (by dsimp only;omega),trivial⟩,⟨by dsimp only;omega,by dsimp only;omega,rfl,fun h=>?_⟩,by dsimp only;omega⟩
   dsimp only at h ⊢
   rw [cd (by omega:k<L.length)] at h
   obtain ⟨h1,h2⟩:=hv fun x hx=>h x (List.mem_append_left _ hx)
   have h3:=h (nth L k) (by simp)
   rw [R.wrap_i64 ⟨by omega,by omega⟩,hsn]
   omega
  ·exact ⟨false,rfl,rfl,fun h=>by cases h⟩
 ·obtain rfl:k=n:=by omega
  (refine ad ?_;(repeat' first|refine And.intro ?_ ?_|intro _);all_goals refine ah.mk ?_)
  ·refine aA rfl rfl vv ?_
   refine (Lk A k c L _ hA hn hb hG).mono ?_
   rintro _ w2 ⟨b,rfl,rfl,hl⟩
   refine ⟨_,rfl,?_⟩
   rename_i hv20
   have hfin:b=true→k≤20∧dw L≤20∧∀ x∈L,x.p.n≤110∧x.q.n≤110:=fun h=>by
    obtain ⟨_,h2⟩:=hl h
    obtain ⟨h3,h4⟩:=hv fun x hx=>(h2 x (List.mem_of_mem_take hx)).2
    rw [hn,List.take_length] at h3 h4
    exact ⟨by omega,by omega,h2⟩
   (refine ad ?_;(repeat' first|refine And.intro ?_ ?_|intro _);all_goals refine ah.mk ?_)
   exact ⟨b,rfl,rfl,hfin⟩
  ·exact ⟨false,rfl,rfl,fun h=>by cases h⟩
  ·exact ⟨false,rfl,rfl,fun h=>by cases h⟩
end
def xD:Nat→Pt→Pt
 | 0,p=>p
 | m+1,p=>tP (xD m p)
set_option maxHeartbeats 1000000 in
theorem Hb (p:Pt) (q:Int) (w:World) (hp:gq p=true) (h0:0≤q):Calls Tryz.prog 7 #[.agg (cr p).toArray,.int .i64 q] w fun e w'=>e=.returned (.agg (cr (xD (q % 4).toNat p)).toArray)∧Below w.heap.size w w':=by
 have hM:=R.Own.start [] w
 have hpt:=hp
 unfold gq T6 at hp
 simp only [Bool.and_eq_true,decide_eq_true_eq] at hp
 refine aa (fn:=Tryz.f7) Tryz.func7 rfl Tryz.ntmps7 (Nat.le_of_ble_eq_true rfl) ?_
 (refine ad ?_;(repeat' first|refine And.intro ?_ ?_|intro _);all_goals refine ah.mk ?_)
 ·exfalso
  have h:(!gq p)=true:=by assumption
  rw [hpt] at h
  cases h
 ·have e:(q % 4).toNat=1:=by omega
  rw [e]
  exact ⟨rfl,R.Own.below aj⟩
 ·have e:(q % 4).toNat=2:=by omega
  rw [e]
  exact ⟨rfl,R.Own.below aj⟩
 ·have e:(q % 4).toNat=3:=by omega
  rw [e]
  refine ⟨?_,R.Own.below aj⟩
  simp [xD,tP,cr]
 ·have e:(q % 4).toNat=0:=by omega
  rw [e]
  exact ⟨rfl,R.Own.below aj⟩
end
theorem JU {α:Type} (r:α→α→Prop) (p:α→Prop) (tri:∀ a b,p a→p b→r a b∨a=b∨r b a) (tr:∀ a b c,p a→p b→p c→r a b→r b c→r a c):∀ (l:List α),(∀ a∈l,p a)→∃ L:List α,L.Pairwise r∧∀ x,x∈L↔x∈l
 | [],_=>⟨[],.nil,fun _=>Iff.rfl⟩
 | a::l,h=>by
  classical
  obtain ⟨L,h1,h2⟩:=JU r p tri tr l fun x hx=>h x (by simp [hx])
  have pL:∀ x∈L,p x:=fun x hx=>h x (List.mem_cons_of_mem _ ((h2 x).1 hx))
  have pa:=h a (by simp)
  refine ⟨L.filter (fun x=>decide (r x a))++a::L.filter (fun x=>decide (r a x)),?_,fun x=>?_⟩
  ·refine List.pairwise_append.2 ⟨h1.filter _,List.pairwise_cons.2 ⟨fun x hx=>of_decide_eq_true (List.mem_filter.1 hx).2,h1.filter _⟩,fun x hx y hy=>?_⟩
   have hxa:=of_decide_eq_true (List.mem_filter.1 hx).2
   rcases List.mem_cons.1 hy with rfl|hy
   ·exact hxa
   ·have hay:=of_decide_eq_true (List.mem_filter.1 hy).2
    exact tr x a y (pL x (List.mem_filter.1 hx).1) pa (pL y (List.mem_filter.1 hy).1) hxa hay
  ·rw [List.mem_append,List.mem_cons,List.mem_filter,List.mem_filter,decide_eq_true_iff,decide_eq_true_iff,List.mem_cons,h2]
   constructor
   ·rintro (⟨h3,_⟩|h3|⟨h3,_⟩)
    ·exact .inr h3
    ·exact .inl h3
    ·exact .inr h3
   ·rintro (h3|h3)
    ·exact .inr (.inl h3)
    ·rcases tri x a (h x (by simp [h3])) pa with c|c|c
     ·exact .inl ⟨h3,c⟩
     ·exact .inr (.inl c)
     ·exact .inr (.inr ⟨h3,c⟩)
theorem QK {α:Type}:∀ l:List α,∃ K:List α,K.Nodup∧∀ x,x∈K↔x∈l
 | []=>⟨[],.nil,fun _=>Iff.rfl⟩
 | a::l=>by
  classical
  obtain ⟨K,h1,h2⟩:=QK l
  by_cases c:a∈K
  ·refine ⟨K,h1,fun x=>?_⟩
   rw [h2,List.mem_cons]
   exact ⟨.inr,fun h=>h.elim (fun e=>e▸(h2 a).1 c) id⟩
  ·exact ⟨a::K,List.nodup_cons.2 ⟨c,h1⟩,fun x=>by rw [List.mem_cons,List.mem_cons,h2]⟩
theorem Zx (Q:List Rw):∃ E,ZX Q E:=by
 obtain ⟨K,h1,h2⟩:=QK (Q.map Rw.key)
 exact ⟨_,QI h1 fun k=>by rw [h2,List.mem_map]⟩
theorem QL {S:List HJ} {rows:List (List Ct)} {nodes:List Sp} {E:List Ed} (hS:∀ s∈S,aK s.g) (h:gm S rows nodes E):∃ rows' nodes' E',gm (S.map tT) rows' nodes' E':=by
 have hS':∀ s∈S.map tT,aK s.g:=fun s hs=>by
  obtain ⟨x,hx,rfl⟩:=List.mem_map.1 hs
  exact BV (hS x hx)
 have hg:(S.map tT).map (·.g)=(S.map (·.g)).map tG:=by
  rw [List.map_map,List.map_map]
  rfl
 have hrow:∀ i,i<S.length→kW ((S.map tT).map (·.g)) i (nth (rows.map (List.map tC)) i):=fun i hi=>by
  rw [hg,bW (by rw [h.len];exact hi)]
  refine V8 (by simpa using hi) (fun j hj=>?_) (h.row i hi)
  rw [bW hi]
  exact JS (hS _ (aB hi))
 have hmay:∀ s∈(rows.map (List.map tC)).flatMap (fun C=>C.map (·.s)),bo s=true:=fun s hs=>by
  obtain ⟨C',hC',hs⟩:=List.mem_flatMap.1 hs
  obtain ⟨c',hc',rfl⟩:=List.mem_map.1 hs
  obtain ⟨i,hi,e⟩:=List.getElem_of_mem hC'
  have hi2:i<S.length:=by rw [List.length_map,h.len] at hi;exact hi
  rw [← e,← av] at hc'
  have ok:=oL (i:=i) (rp hS') (by simpa using hi2) (((hrow i hi2).mem c').1 hc')
  obtain ⟨h1,h2,h3,h4,h5,_⟩:=ok
  have hl:=rp hS' (nth ((S.map tT).map (·.g)) i) (aB (by simpa using hi2))
  rw [h5]
  exact sG hl.1 hl.2.1 h1 h2 h3 h4
 obtain ⟨nodes',h1,h2⟩:=JU (fun a b=>d9 a b<0) (fun s=>bo s=true) (fun a b ha hb=>by
  by_cases c1:d9 a b<0
  ·exact .inl c1
  ·by_cases c2:d9 b a<0
   ·exact .inr (.inr c2)
   ·exact .inr (.inl (sH ha hb c1 c2))) (fun a b c ha hb hc=>wN ha hb hc) _ hmay
 obtain ⟨E',hE⟩:=Zx (iK (S.map tT) (rows.map (List.map tC)) nodes')
 refine ⟨rows.map (List.map tC),nodes',E',⟨by rw [List.length_map,List.length_map,h.len],fun i hi=>hrow i (by simpa using hi),h1,fun x=>?_,hE⟩⟩
 rw [h2,List.mem_flatMap]
 exact ⟨fun ⟨C,hC,hx⟩=>⟨C,hC,List.mem_map.1 hx⟩,fun ⟨C,hC,hx⟩=>⟨C,hC,List.mem_map.2 hx⟩⟩
def LV:Nat→HJ→HJ
 | 0,s=>s
 | m+1,s=>tT (LV m s)
theorem JV (S:List HJ) (m:Nat):(S.map (LV m)).map tT=S.map (LV (m+1)):=by
 rw [List.map_map]
 rfl
theorem Fi {S:List HJ} (hS:∀ s∈S,aK s.g):∀ m,∀ s∈S.map (LV m),aK s.g
 | 0=>fun s hs=>by
  obtain ⟨x,hx,rfl⟩:=List.mem_map.1 hs
  exact hS x hx
 | m+1=>fun s hs=>by
  rw [← JV] at hs
  obtain ⟨x,hx,rfl⟩:=List.mem_map.1 hs
  exact BV (Fi hS m x hx)
structure rz (nodes nodes':List Sp) (E E':List Ed):Prop where
 len:E'.length=E.length
 all:m7 E' E'.length=m7 E E.length
 one:kJ E' E'.length=kJ E E.length
 cnt:i9 (ec E' nodes'.length E'.length)=i9 (ec E nodes.length E.length)
theorem rz.symm {a b:List Sp} {c d:List Ed} (h:rz a b c d):rz b a d c:=⟨h.len.symm,h.all.symm,h.one.symm,h.cnt.symm⟩
theorem rz.trans {a b b':List Sp} {c d d':List Ed} (h:rz a b c d) (h':rz b b' d d'):rz a b' c d':=⟨h'.len.trans h.len,h'.all.trans h.all,h'.one.trans h.one,h'.cnt.trans h.cnt⟩
theorem HV {S:List HJ} {rows rows':List (List Ct)} {nodes nodes':List Sp} {E E':List Ed} (hS:∀ s∈S,aK s.g) (h:gm S rows nodes E) (h':gm (S.map tT) rows' nodes' E'):rz nodes nodes' E E':=by
 obtain ⟨h1,h2,h3,h4⟩:=QB hS h h'
 exact ⟨h1,h2,h3,h4⟩
theorem QM {S:List HJ} {rows:List (List Ct)} {nodes:List Sp} {E:List Ed} (hS:∀ s∈S,aK s.g) (h:gm S rows nodes E):∀ m,(∃ rows' nodes' E',gm (S.map (LV m)) rows' nodes' E')∧∀ rows' nodes' E',gm (S.map (LV m)) rows' nodes' E'→rz nodes nodes' E E'
 | 0=>by
  have e:S.map (LV 0)=S:=List.map_id S
  rw [e]
  refine ⟨⟨_,_,_,h⟩,fun rows' nodes' E' h'=>?_⟩
  obtain ⟨r,n,e,k⟩:=QL hS h
  exact (HV hS h k).trans (HV hS h' k).symm
 | m+1=>by
  obtain ⟨⟨r,n,e,k⟩,hm⟩:=QM hS h m
  have hS2:=Fi hS m
  rw [← JV]
  exact ⟨QL hS2 k,fun rows' nodes' E' h'=>(hm _ _ _ k).trans (HV hS2 k h')⟩
end Go.Proofs.YtlmabdegojeheaaGreatDoor
