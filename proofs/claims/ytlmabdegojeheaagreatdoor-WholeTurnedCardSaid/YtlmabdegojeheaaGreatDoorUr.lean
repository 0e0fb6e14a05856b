/- WholeTurned: parts of its proof (Ur). -/
import Derived.Test.YtlmabdegojeheaaGreatDoorRjUu
import Derived.Test.YtlmabdegojeheaaGreatDoorUgUk
namespace Go.Proofs.YtlmabdegojeheaaGreatDoor
open R
section
open Go.RowKit
theorem Jo {α:Type} (l1 Y M:List α) (z:α):(l1++((Y++[z])++M)).Perm (z::(l1++(Y++M))):=by
 have:=List.perm_middle (a:=z) (l₁:=l1++Y) (l₂:=M)
 simpa using this
theorem lZ {F:List Nat} {W w:World} {l:List bX} {A:Option Addr} {n c sz:Nat} {e:TypeId} {cs:List Value} (h:R.Own F W w l) (hm:.row A n c e sz cs∈l):n≤c∧c≤9223372036854775807:=by
 have hr:w.ownsRow 0 e sz (.slice A n c) n cs:=h.ok _ hm
 rcases hr.2 with ⟨hv,hn⟩|⟨g,cap,cur,hv,_,_,hc,hx,_⟩
 ·injection hv with _ _ e3
  omega
 ·injection hv with _ _ e3
  have hx:cap≤9223372036854775807:=hx
  omega
theorem YQ {a:Int} (h:ao a):(Lit.int .i64 a).wf=true:=by
 unfold ao at h
 simp [Lit.wf,IntKind.min,IntKind.max,IntKind.signed,IntKind.bits]
 omega
instance aba:iU Tryz.prog 84 (Sl Pc) iH 1:={}
instance abb:iU Tryz.prog 67 (Sl Rw) iH 1:={}
attribute [local irreducible] Rd gn aq LY e9 eN mf oV
set_option maxHeartbeats 4000000 in
theorem EE (A:Option Addr) (n0 c0:Nat) (St:List iX) (w:World)
  (hStr:∀ w1,Below w.heap.size w w1→Calls Tryz.prog 16 #[.slice A n0 c0] w1 fun e w'=>∃ A1 c1,e=.returned (.tuple #[.slice A1 St.length c1,.int .i64 0])∧iV w1 w' A1 St.length c1 58 8 (St.flatMap dz))
  (hl:St.length≤20) (hS:∀ s∈St,aK s.g∧xE s.w=true) :
  Calls Tryz.prog 8 #[.slice A n0 c0] w fun e w'=>∃ x:Nt,∃ rows,e=.returned (.tuple #[.agg (L2 x).toArray,.int .i64 0])∧(∃ l,R.Own [] w w' l∧∀ W w2 l2,R.Own [] W w2 l2→(∀ r∈l,r∈l2)→JW w2 x)∧gm (St.map su) rows x.s.L x.e.L∧tE x=true∧x.s.n≤16040∧x.e.n≤16040:=by
 have hM:=R.Own.start [] w
 refine aa (fn:=Tryz.f8) Tryz.func8 rfl Tryz.ntmps8 (Nat.le_of_ble_eq_true rfl) ?_
 (refine ad ?_;(repeat' first|refine And.intro ?_ ?_|intro _);all_goals refine ah.mk ?_)
 rename_i gR w1 hM
 refine aA rfl rfl vv ?_
 refine (hStr _ hM.below).mono ?_
 rintro _ w2 ⟨A1,c1,rfl,hG⟩
 have hM:=R.Own.pv hM hG
 clear hG hStr
 refine ⟨_,rfl,?_⟩
 (refine ad ?_;(repeat' first|refine And.intro ?_ ?_|intro _);all_goals refine ah.mk ?_)
 obtain ⟨n,hn⟩:∃ n,n=St.length:=⟨_,rfl⟩
 obtain ⟨S,hSe⟩:∃ S,S=St.map (·.g):=⟨_,rfl⟩
 rw [← hn] at hM hl ⊢
 have hSl:S.length=n:=by rw [hSe,List.length_map,hn]
 have hSn:∀ i,i<n→nth S i=(nth St i).g:=fun i hi=>by rw [hSe];exact bW xj
 refine au (fun x:Nat×Option Addr×Nat=>[(2,.pointer (some ⟨gR,0,none⟩)),(3,.int .i64 0),(4,.slice A1 n c1),(6,.slice x.2.1 (S.take x.1).length x.2.2),(35,.slice A1 n c1),(36,.int .i64 (n:Nat)),(37,.int .i64 (x.1:Nat))])
  (fun x w1=>x.1≤n∧R.Own [] w w1 [.row x.2.1 (S.take x.1).length x.2.2 56 4 ((S.take x.1).flatMap bD),.row A1 n c1 58 8 (St.flatMap dz),.blk gR 38 [.slice none 0 0,.slice none 0 0,.slice none 0 0]]) (fun x=>n-x.1)
  ⟨(0,none,0),⟨rfl,rfl,rfl,rfl,rfl,rfl,rfl,trivial⟩,Nat.zero_le _,R.Own.nil hM _ _⟩ ?_
 clear hM
 rintro ⟨k,B,c2⟩ f w3 ⟨hk,hM⟩
 dsimp only at hk hM ⊢
 by_cases hkt:k<n
 ·have hsn:S.take (k+1)=S.take k++[(nth St k).g]:=by rw [cd xj,hSn k hkt]
  have htl:(S.take k).length=k:=by rw [List.length_take];omega
  generalize S.take k=T at hM hsn htl ⊢
  (refine ad ?_;(repeat' first|refine And.intro ?_ ?_|intro _);all_goals refine ah.mk ?_)
  rename_i gt _ _ _ _ A7 c7 w5 hM
  have hM:R.Own [] w w5 [.row A7 1 c7 56 4 (bD (nth St k).g),.blk gt 58 (dz (nth St k)),.row B T.length c2 56 4 (T.flatMap bD),.row A1 n c1 58 8 (St.flatMap dz),.blk gR 38 [.slice none 0 0,.slice none 0 0,.slice none 0 0]]:=hM
  (refine ad ?_;(repeat' first|refine And.intro ?_ ?_|intro _);all_goals refine ah.mk ?_)
  rename_i A8 c8 w6 hM
  refine ⟨(k+1,A8,c8),⟨rfl,rfl,rfl,qD rfl (by dsimp only;rw [hsn,List.length_append];rfl),rfl,rfl,aF rfl (by dsimp only;omega),trivial⟩,⟨by dsimp only;omega,?_⟩,by dsimp only;omega⟩
  dsimp only
  rw [hsn,List.length_append]
  exact dr (.blk gt _ _) hM
 ·obtain rfl:k=n:=by omega
  rw [← hSl,List.take_length,hSl] at hM ⊢
  (refine ad ?_;(repeat' first|refine And.intro ?_ ?_|intro _);all_goals refine ah.mk ?_)
  refine aA rfl rfl vv ?_
  have hLS:∀ s∈S,aK s:=fun s hs=>by
   rw [hSe] at hs
   obtain ⟨t,ht,rfl⟩:=List.mem_map.1 hs
   exact (hS t ht).1
  refine (Lp B k c2 S _ (R.Own.wW hM (.head _)) hSl.symm hl hLS).mono ?_
  rintro _ w4 ⟨B1,c3,Ms,rfl,hMl,hMs,hO⟩
  have hM:=R.Own.ti hM hO
  clear hO
  have hM:R.Own [] w w4 (.row B1 k c3 69 1 (Ms.flatMap iH)::.row A1 k c1 58 8 (St.flatMap dz)::.blk gR 38 [.slice none 0 0,.slice none 0 0,.slice none 0 0]::gr 115 28 eO Ms):=pk (r:=.row B1 _ _ _ _ _) (dr (.row B _ _ _ _ _) hM)
  refine ⟨_,rfl,?_⟩
  have hok:∀ i,i<k→∀ c∈(nth Ms i).L,oY (nth S i) c:=fun i hi c hc=>oL hLS xj (((hMs i hi).2.2.mem c).1 hc)
  have hidx:∀ x∈Ms,∃ i,i<k∧nth Ms i=x:=fun x hx=>by
   obtain ⟨i,hi,e⟩:=List.getElem_of_mem hx
   exact ⟨i,by omega,by rw [av hi];exact e⟩
  have hmayC:∀ i,i<k→∀ c∈(nth Ms i).L,bo c.s=true:=fun i hi c hc=>by
   obtain ⟨h1,h2,h3,h4,h5,_⟩:=hok i hi c hc
   have hs:=hLS (nth S i) (R.aB xj)
   rw [h5]
   exact sG hs.1 hs.2.1 h1 h2 h3 h4
  (refine ad ?_;(repeat' first|refine And.intro ?_ ?_|intro _);all_goals refine ah.mk ?_)
  refine aA rfl rfl vv ?_
  refine (Pn B1 k c3 Ms _ (R.Own.wW hM (.head _)) hMl.symm hl (fun x hx=>?_)).mono ?_
  ·obtain ⟨i,hi,rfl⟩:=hidx x hx
   exact ⟨R.Own.wW hM (.tail _ (.tail _ (.tail _ (qR xj)))),(hMs i hi).1,(hMs i hi).2.1,hmayC i hi⟩
  rintro _ w5 ⟨An,cn,b,esS,clkS,D,rfl,hDl,hDs,hDm,hIS,hO⟩
  have hM:=R.Own.ti hM hO
  clear hO
  have hM:R.Own [] w w5 (.map b esS clkS::.row An D.length cn 113 26 (D.flatMap bF)::.row B1 k c3 69 1 (Ms.flatMap iH)::.row A1 k c1 58 8 (St.flatMap dz)::.blk gR 38 [.slice none 0 0,.slice none 0 0,.slice none 0 0]::gr 115 28 eO Ms):=hM.perm (List.perm_append_comm (l₁:=[_,_]) (l₂:=_::_::_::_))
  refine ⟨_,rfl,?_⟩
  have hDn:D.Nodup:=hDs.imp_of_mem fun {a b} ha _ hab e=>by
   subst e
   obtain ⟨C,hC,hs⟩:=List.mem_flatMap.1 ((hDm a).1 ha)
   obtain ⟨x,hx,rfl⟩:=List.mem_map.1 hC
   obtain ⟨i,hi,rfl⟩:=hidx x hx
   obtain ⟨c,hc,rfl⟩:=List.mem_map.1 hs
   exact rn (hmayC i hi c hc) hab
  have hin:∀ i,i<k→∀ c∈(nth Ms i).L,c.s∈D:=fun i hi c hc=>(hDm _).2 (List.mem_flatMap.2 ⟨(nth Ms i).L,List.mem_map.2 ⟨_,R.aB xj,rfl⟩,List.mem_map.2 ⟨c,hc,rfl⟩⟩)
  (refine ad ?_;(repeat' first|refine And.intro ?_ ?_|intro _);all_goals refine ah.mk ?_)
  refine sr rfl aj ?_
  intro a w6 hM
  (refine ad ?_;(repeat' first|refine And.intro ?_ ?_|intro _);all_goals refine ah.mk ?_)
  obtain ⟨Cs,hCs⟩:∃ Cs,Cs=Ms.map (·.L):=⟨_,rfl⟩
  have hCn:∀ i,i<k→nth Cs i=(nth Ms i).L:=fun i hi=>by rw [hCs];exact bW xj
  refine au (fun x:Nat×Option Addr×Nat×List (Sl Rw)×Array MapEntry×Nat×List (En×Ed)=>[(2,.pointer (some ⟨gR,0,none⟩)),(3,.int .i64 0),(9,.slice B1 k c3),(11,.slice An D.length cn),(12,.map (some b)),(13,.map (some a)),(14,.slice x.2.1 x.1 x.2.2.1),(58,.slice A1 k c1),(59,.int .i64 (k:Nat)),(60,.int .i64 (x.1:Nat))])
   (fun x w1=>(x.1≤k∧x.2.2.2.1.length=x.1∧(∀ i,i<x.1→(nth x.2.2.2.1 i).n=(nth Ms i).n-1∧(nth x.2.2.2.1 i).L=fX (su (nth St i)) (nth Ms i).L D)∧jF lg Pm x.2.2.2.2.1 x.2.2.2.2.2.1 x.2.2.2.2.2.2∧EB x.2.2.2.2.2.2 (PA St Cs D x.1))∧R.Own [] w w1 (.row x.2.1 x.1 x.2.2.1 67 1 (x.2.2.2.1.flatMap iH)::.map a x.2.2.2.2.1 x.2.2.2.2.2.1::.map b esS clkS::.row An D.length cn 113 26 (D.flatMap bF)::.row B1 k c3 69 1 (Ms.flatMap iH)::.row A1 k c1 58 8 (St.flatMap dz)::.blk gR 38 [.slice none 0 0,.slice none 0 0,.slice none 0 0]::(gr 73 5 tj x.2.2.2.1++gr 115 28 eO Ms))) (fun x=>k-x.1)
   ⟨(0,none,0,[],#[],0,[]),⟨rfl,rfl,rfl,rfl,rfl,rfl,rfl,rfl,rfl,rfl,trivial⟩,⟨⟨Nat.zero_le _,rfl,fun i hi=>absurd hi (Nat.not_lt_zero _),pE _ _,Px⟩,R.Own.nil hM _ _⟩⟩ ?_
  clear hM
  rintro ⟨i,Y,cy,Ys,es,clk,L⟩ f w7 ⟨⟨hi,hYl,hYs,hI,hG⟩,hM⟩
  dsimp only at hi hYl hYs hI hG hM ⊢
  by_cases hit:i<k
  ·obtain ⟨m1,m2,m3⟩:=hMs i hit
   have hst:=hS (nth St i) (R.aB xj)
   have hm2:=Vo hLS xj m3 xj
   (refine ad ?_;(repeat' first|refine And.intro ?_ ?_|intro _);all_goals refine ah.mk ?_)
   rename_i gt _ _ _ _ w8 hM
   refine fF rfl rfl vv vv vv ?_
   refine (UA (nth St i) (nth Ms i).A (nth Ms i).n (nth Ms i).c b (nth Ms i).L D esS clkS _ (hM.ok _ (.tail _ (.tail _ (.tail _ (.head _))))) hIS hDn (hin i hit)
    (R.Own.wW hM (.tail _ (.tail _ (.tail _ (.tail _ (.tail _ (.tail _ (.tail _ (.tail _ (List.mem_append_right _ (qR xj)))))))))))
    m1 xj (fun c hc=>?_) (sJ hLS xj m3 xj) hst.2).mono ?_
   ·obtain ⟨r1,r2,r3,r4,_⟩:=hok i hit c hc
    exact ⟨r1,by omega,r2,r4⟩
   rintro _ w9 ⟨B2,c4,rfl,hGv⟩
   have hM:=R.Own.pv hM hGv
   clear hGv
   refine ⟨_,rfl,?_⟩
   rw [m1,UJ,← m1] at hM
   have hrl:(fX (su (nth St i)) (nth Ms i).L D).length=(nth Ms i).n-1:=by unfold fX;rw [List.length_map,List.length_range,m1]
   obtain ⟨z,hz⟩:∃ z:Sl Rw,z=⟨B2,(nth Ms i).n-1,c4,fX (su (nth St i)) (nth Ms i).L D⟩:=⟨_,rfl⟩
   have hzn:z.n=(nth Ms i).n-1:=by rw [hz]
   have hzL:z.L=fX (su (nth St i)) (nth Ms i).L D:=by rw [hz]
   have hzl:z.L.length=z.n:=by rw [hzL,hzn,hrl]
   have hM:R.Own [] w w9 (m6 73 5 tj z::.blk gt 58 (dz (nth St i))::.row Y i cy 67 1 (Ys.flatMap iH)::.map a es clk::.map b esS clkS::.row An D.length cn 113 26 (D.flatMap bF)::.row B1 k c3 69 1 (Ms.flatMap iH)::.row A1 k c1 58 8 (St.flatMap dz)::.blk gR 38 [.slice none 0 0,.slice none 0 0,.slice none 0 0]::(gr 73 5 tj Ys++gr 115 28 eO Ms)):=by rw [hz];exact hM
   have e1:Value.slice B2 ((nth Ms i).n-1) c4=.slice z.A z.n z.c:=by rw [hz]
   rw [e1]
   (refine ad ?_;(repeat' first|refine And.intro ?_ ?_|intro _);all_goals refine ah.mk ?_)
   rename_i A7 c7 w10 hM
   have hM:R.Own [] w w10 (.row A7 1 c7 67 1 (iH z)::m6 73 5 tj z::.row Y i cy 67 1 (Ys.flatMap iH)::.map a es clk::.map b esS clkS::.row An D.length cn 113 26 (D.flatMap bF)::.row B1 k c3 69 1 (Ms.flatMap iH)::.row A1 k c1 58 8 (St.flatMap dz)::.blk gR 38 [.slice none 0 0,.slice none 0 0,.slice none 0 0]::(gr 73 5 tj Ys++gr 115 28 eO Ms)):=dr (.blk gt _ _) hM
   (refine ad ?_;(repeat' first|refine And.intro ?_ ?_|intro _);all_goals refine ah.mk ?_)
   rename_i Y2 cy2 w11 hM
   obtain ⟨l0,hl0⟩:∃ l0:List bX,l0=.row Y2 (i+1) cy2 67 1 ((Ys++[z]).flatMap iH)::.map b esS clkS::.row An D.length cn 113 26 (D.flatMap bF)::.row B1 k c3 69 1 (Ms.flatMap iH)::.row A1 k c1 58 8 (St.flatMap dz)::.blk gR 38 [.slice none 0 0,.slice none 0 0,.slice none 0 0]::(gr 73 5 tj Ys++gr 115 28 eO Ms):=⟨_,rfl⟩
   have hM:R.Own [] w w11 (.map a es clk::.row z.A z.n z.c 73 5 (z.L.flatMap tj)::l0):=by rw [hl0];exact pk (r:=.map a _ _) hM
   have hzb:z.n≤802:=by omega
   refine au (fun x:Nat×Array MapEntry×Nat×List (En×Ed)=>[(2,.pointer (some ⟨gR,0,none⟩)),(3,.int .i64 0),(9,.slice B1 k c3),(11,.slice An D.length cn),(12,.map (some b)),(13,.map (some a)),(14,.slice Y2 (i+1) cy2),(58,.slice A1 k c1),(59,.int .i64 (k:Nat)),(60,.int .i64 (i:Nat)),(76,.slice z.A z.n z.c),(77,.int .i64 (z.n:Nat)),(78,.int .i64 (x.1:Nat))])
    (fun x w1=>(x.1≤z.n∧jF lg Pm x.2.1 x.2.2.1 x.2.2.2∧EB x.2.2.2 (PA St Cs D i++z.L.take x.1))∧R.Own [] w w1 (.map a x.2.1 x.2.2.1::.row z.A z.n z.c 73 5 (z.L.flatMap tj)::l0)) (fun x=>z.n-x.1)
    ⟨(0,es,clk,L),⟨rfl,rfl,rfl,rfl,rfl,rfl,rfl,rfl,rfl,rfl,rfl,rfl,rfl,trivial⟩,⟨Nat.zero_le _,hI,by rw [List.take_zero,List.append_nil];exact hG⟩,hM⟩ ?_
   clear hM hI hG
   rintro ⟨j,es,clk,L⟩ f w12 ⟨⟨hj,hI,hG⟩,hM⟩
   dsimp only at hj hI hG hM ⊢
   by_cases hjt:j<z.n
   ·have hG2:=Lx hG (nth z.L j)
    rw [List.append_assoc,← cd (by omega)] at hG2
    (refine ad ?_;(repeat' first|refine And.intro ?_ ?_|intro _);all_goals refine ah.mk ?_)
    rename_i gx _ _ w13 hM
    have hM:=pk (r:=.map a _ _) hM
    refine ar rfl rfl vv vv ?_
    refine (Lv a (nth z.L j) es clk L hI hM).mono ?_
    rintro _ w14 ⟨es2,clk2,rfl,hI2,hM⟩
    refine ⟨_,rfl,?_⟩
    (refine ad ?_;(repeat' first|refine And.intro ?_ ?_|intro _);all_goals refine ah.mk ?_)
    exact ⟨(j+1,es2,clk2,_),⟨rfl,rfl,rfl,rfl,rfl,rfl,rfl,rfl,rfl,rfl,rfl,rfl,aF rfl (by dsimp only;omega),trivial⟩,⟨⟨by dsimp only;omega,hI2,hG2⟩,dr (.blk gx _ _) aj⟩,by dsimp only;omega⟩
   ·obtain rfl:j=z.n:=by omega
    (refine ad ?_;(repeat' first|refine And.intro ?_ ?_|intro _);all_goals refine ah.mk ?_)
    rw [← hzl,List.take_length] at hG
    have hM:=pk (r:=.row Y2 _ _ _ _ _) (by rw [hl0] at hM;exact hM)
    refine ⟨(i+1,Y2,cy2,Ys++[z],es,clk,L),⟨rfl,rfl,rfl,rfl,rfl,rfl,rfl,rfl,rfl,aF rfl (by dsimp only;omega),trivial⟩,⟨⟨by dsimp only;omega,by dsimp only;rw [List.length_append,hYl];rfl,fun j hj=>?_,hI,?_⟩,?_⟩,by dsimp only;omega⟩
    ·dsimp only at hj ⊢
     by_cases hji:j<i
     ·rw [av (by rw [List.length_append];omega),List.getElem_append_left xj,← av]
      exact hYs j hji
     ·obtain rfl:j=i:=by omega
      rw [av (by rw [List.length_append];simp only [List.length_cons,List.length_nil];omega),List.getElem_append_right (by omega)]
      simp [hYl,hz]
    ·dsimp only
     rw [ED,hCn i hit,← hzL]
     exact hG
    ·dsimp only
     rw [oF]
     exact hM.perm (List.Perm.cons _ (List.Perm.cons _ (Jo [_,_,_,_,_] _ _ _)))
  ·obtain rfl:i=k:=by omega
   (refine ad ?_;(repeat' first|refine And.intro ?_ ?_|intro _);all_goals refine ah.mk ?_)
   rename_i gN _ _ w8 hM
   obtain ⟨Q,hQ⟩:∃ Q,Q=PA St Cs D i:=⟨_,rfl⟩
   rw [← hQ] at hG
   have hQl:Q.length≤16040:=by
    have h1:=Jm (St:=St) (Cs:=Cs) (nodes:=D) (b:=802) i fun j hj=>by
     rw [hCn j hj,← (hMs j hj).1,(hMs j hj).1]
     exact (hMs j hj).2.1
    rw [← hQ] at h1
    omega
   have hLl:L.length≤16040:=Nat.le_trans hG.len hQl
   have hM:R.Own [] w w8 (.blk gN 38 [.slice An D.length cn,.slice none 0 0,.slice none 0 0]::.row Y i cy 67 1 (Ys.flatMap iH)::.map a es clk::.row An D.length cn 113 26 (D.flatMap bF)::.blk gR 38 [.slice none 0 0,.slice none 0 0,.slice none 0 0]::gr 73 5 tj Ys) :=
    hM.sub (.cons_cons _ (.cons_cons _ (.cons_cons _ (.cons _ (.cons_cons _ (.cons _ (.cons _ (.cons_cons _ (List.sublist_append_left _ _)))))))))
   refine sr rfl hM ?_
   intro p w9 hM
   (refine ad ?_;(repeat' first|refine And.intro ?_ ?_|intro _);all_goals refine ah.mk ?_)
   refine aA rfl rfl vv ?_
   refine (Pw a _).mono ?_
   rintro _ w10 ⟨g,rfl,hO⟩
   have hM:=R.Own.ti aj hO
   clear hO
   have hM:R.Own [] w w10 (.blk g 65 [.map (some a)]::.map p #[] 0::.blk gN 38 [.slice An D.length cn,.slice none 0 0,.slice none 0 0]::.row Y i cy 67 1 (Ys.flatMap iH)::.map a es clk::.row An D.length cn 113 26 (D.flatMap bF)::.blk gR 38 [.slice none 0 0,.slice none 0 0,.slice none 0 0]::gr 73 5 tj Ys):=hM.perm (List.perm_append_comm (l₁:=[_]) (l₂:=_::_::_::_::_::_::_))
   refine ⟨_,rfl,?_⟩
   (refine ad ?_;(repeat' first|refine And.intro ?_ ?_|intro _);all_goals refine ah.mk ?_)
   refine ar rfl rfl vv vv ?_
   have hcell:w10.cell? ⟨g,0,none⟩=some (.map (some a)):=cell_of_row _ _ 0 _ _ _ (hM.ok _ (.head _))
   have hgl:g<w10.heap.size:=(Array.getElem?_eq_some_iff.1 (hM.ok _ (.head _))).1
   refine (G9 g a es clk L _ hI xj hcell hgl (hM.ok _ (.tail _ (.tail _ (.tail _ (.tail _ (.head _))))))).mono ?_
   rintro _ w11 ⟨K,cK,Dk,rfl,hDk,hDs2,hO⟩
   have hM:=R.Own.ti hM.tl hO
   clear hO
   have hDkl:Dk.length≤16040:=by rw [hDk.length_eq,List.length_map];exact hLl
   have hDkn:Dk.Nodup:=hDk.nodup_iff.2 hI.nd
   refine ⟨_,rfl,?_⟩
   (refine ad ?_;(repeat' first|refine And.intro ?_ ?_|intro _);all_goals refine ah.mk ?_)
   have hM:R.Own [] w w11 (.blk gN 38 [.slice An D.length cn,.slice none 0 0,.slice none 0 0]::.map p #[] 0::.row K Dk.length cK 71 2 (Dk.flatMap lg)::.map a es clk::.row Y i cy 67 1 (Ys.flatMap iH)::.row An D.length cn 113 26 (D.flatMap bF)::.blk gR 38 [.slice none 0 0,.slice none 0 0,.slice none 0 0]::gr 73 5 tj Ys):=pk (r:=.blk gN _ _) (pk (r:=.map p _ _) (pk (r:=.row K _ _ _ _ _) (pk (r:=.map a _ _) (hM.perm (List.perm_append_comm (l₁:=[_]) (l₂:=_::_::_::_::_::_::_))))))
   refine au (fun x:Nat×Option Addr×Nat×Array MapEntry×Nat=>[(2,.pointer (some ⟨gR,0,none⟩)),(3,.int .i64 0),(13,.map (some a)),(14,.slice Y i cy),(20,.pointer (some ⟨gN,0,none⟩)),(21,.map (some p)),(92,.slice K Dk.length cK),(93,.int .i64 (Dk.length:Nat)),(94,.int .i64 (x.1:Nat))])
    (fun x w1=>(x.1≤Dk.length∧jF lg vI x.2.2.2.1 x.2.2.2.2 (UH Dk x.1))∧R.Own [] w w1 (.row x.2.1 (mh Q (Dk.take x.1)).length x.2.2.1 82 5 ((mh Q (Dk.take x.1)).flatMap B6)::.blk gN 38 [.slice An D.length cn,.slice x.2.1 (mh Q (Dk.take x.1)).length x.2.2.1,.slice none 0 0]::.map p x.2.2.2.1 x.2.2.2.2::.row K Dk.length cK 71 2 (Dk.flatMap lg)::.map a es clk::.row Y i cy 67 1 (Ys.flatMap iH)::.row An D.length cn 113 26 (D.flatMap bF)::.blk gR 38 [.slice none 0 0,.slice none 0 0,.slice none 0 0]::gr 73 5 tj Ys)) (fun x=>Dk.length-x.1)
    ⟨(0,none,0,#[],0),⟨rfl,rfl,rfl,rfl,rfl,rfl,rfl,rfl,rfl,trivial⟩,⟨Nat.zero_le _,pE _ _⟩,R.Own.nil hM _ _⟩ ?_
   clear hM
   rintro ⟨j,E,cE,es2,clk2⟩ f w12 ⟨⟨hj,hI2⟩,hM⟩
   dsimp only at hj hI2 hM ⊢
   by_cases hjt:j<Dk.length
   ·have hsn:mh Q (Dk.take (j+1))=mh Q (Dk.take j)++[aP Q (YP (nth Dk j))]:=by rw [cd hjt];unfold mh;rw [List.map_append];rfl
    have hel:(mh Q (Dk.take j)).length=j:=by unfold mh;rw [List.length_map,List.length_take];omega
    have hgt:=UF hG (hDk.subset (R.aB hjt))
    generalize mh Q (Dk.take j)=T at hM hsn hel ⊢
    (refine ad ?_;(repeat' first|refine And.intro ?_ ?_|intro _);all_goals refine ah.mk ?_)
    rename_i ge _ _ w13 hM
    refine ue (encK:=lg) (encV:=vI) (k:=nth Dk j) (v:=((j:Nat):Int)) (l':=fun es' clk'=>.blk ge 71 (lg (nth Dk j))::.row E T.length cE 82 5 (T.flatMap B6)::.blk gN 38 [.slice An D.length cn,.slice E T.length cE,.slice none 0 0]::.map p es' clk'::.row K Dk.length cK 71 2 (Dk.flatMap lg)::.map a es clk::.row Y i cy 67 1 (Ys.flatMap iH)::.row An D.length cn 113 26 (D.flatMap bF)::.blk gR 38 [.slice none 0 0,.slice none 0 0,.slice none 0 0]::gr 73 5 tj Ys) rfl rfl rfl rfl hM hI2 (fun es' clk'=>.tail (.tail (.tail .head))) (fun es' clk' w14 hI3 hM=>?_)
    rw [EC hDkn hjt] at hI3
    (refine ad ?_;(repeat' first|refine And.intro ?_ ?_|intro _);all_goals refine ah.mk ?_)
    have hM:=pk (r:=.row E _ _ _ _ _) hM
    refine kf [(0,false),(1,false),(2,false),(3,false),(4,true),(5,true),(6,true),(7,false),(8,true)] R.mixed wx aj ?_
    (refine ad ?_;(repeat' first|refine And.intro ?_ ?_|intro _);all_goals refine ah.mk ?_)
    rename_i w15 hM
    refine YM (encK:=lg) (encV:=Pm) (k:=nth Dk j) (L:=L) (es:=es) (clk:=clk) (b:=a) rfl rfl rfl hM (by simp) hI ?_
    rw [hgt]
    refine ⟨hM.tl,?_⟩
    (refine ad ?_;(repeat' first|refine And.intro ?_ ?_|intro _);all_goals refine ah.mk ?_)
    rename_i E2 cE2 _ _ w16 hM
    refine ⟨(j+1,E2,cE2,es',clk'),⟨rfl,rfl,rfl,rfl,rfl,rfl,rfl,rfl,aF rfl (by dsimp only;omega),trivial⟩,⟨⟨by dsimp only;omega,hI3⟩,?_⟩,by dsimp only;omega⟩
    dsimp only
    rw [hsn,List.length_append]
    exact dr (.blk ge _ _) hM
   ·obtain rfl:j=Dk.length:=by omega
    (refine ad ?_;(repeat' first|refine And.intro ?_ ?_|intro _);all_goals refine ah.mk ?_)
    rw [List.take_length] at hM
    have hel:(mh Q Dk).length≤16040:=by unfold mh;rw [List.length_map];exact hDkl
    have hM:R.Own [] w w12 (.blk gN 38 [.slice An D.length cn,.slice E (mh Q Dk).length cE,.slice none 0 0]::.map p es2 clk2::.row E (mh Q Dk).length cE 82 5 ((mh Q Dk).flatMap B6)::.row Y i cy 67 1 (Ys.flatMap iH)::.row An D.length cn 113 26 (D.flatMap bF)::.blk gR 38 [.slice none 0 0,.slice none 0 0,.slice none 0 0]::gr 73 5 tj Ys):=pk (r:=.blk gN _ _) (pk (r:=.map p _ _) (dr (.row K _ _ _ _ _) (dr (.map a _ _) hM)))
    have hmemQ:∀ j,j<i→∀ r∈(nth Ys j).L,kh r∈Dk:=fun j hj r hr=>by
     rw [(hYs j hj).2] at hr
     refine hDk.symm.subset ((hG.key _).2 ⟨r,?_,rfl⟩)
     rw [hQ]
     refine List.mem_flatMap.2 ⟨j,List.mem_range.2 hj,?_⟩
     rw [hCn j hj]
     exact hr
    have hYn:∀ j,j<i→(nth Ys j).n=(nth Ys j).L.length∧(nth Ys j).n≤802:=fun j hj=>by
     obtain ⟨h1,h2⟩:=hYs j hj
     obtain ⟨h3,h4,_⟩:=hMs j hj
     rw [h1,h2]
     unfold fX
     rw [List.length_map,List.length_range]
     omega
    obtain ⟨pl,hpl⟩:∃ pl:En→Int,pl=fun e=>((Dk.idxOf e:Nat):Int):=⟨_,rfl⟩
    refine au (fun x:Nat×Option Addr×Nat×List (Sl Pc)=>[(2,.pointer (some ⟨gR,0,none⟩)),(3,.int .i64 0),(20,.pointer (some ⟨gN,0,none⟩)),(21,.map (some p)),(111,.slice Y i cy),(112,.int .i64 (i:Nat)),(113,.int .i64 (x.1:Nat))])
     (fun x w1=>(x.1≤i∧x.2.2.2.length=x.1∧∀ j,j<x.1→(nth x.2.2.2 j).n=(nth Ys j).n∧(nth x.2.2.2 j).L=LZ pl (nth Ys j).L (nth Ys j).n)∧R.Own [] w w1 (.row x.2.1 x.1 x.2.2.1 84 1 (x.2.2.2.flatMap iH)::.blk gN 38 [.slice An D.length cn,.slice E (mh Q Dk).length cE,.slice x.2.1 x.1 x.2.2.1]::.map p es2 clk2::.row E (mh Q Dk).length cE 82 5 ((mh Q Dk).flatMap B6)::.row Y i cy 67 1 (Ys.flatMap iH)::.row An D.length cn 113 26 (D.flatMap bF)::.blk gR 38 [.slice none 0 0,.slice none 0 0,.slice none 0 0]::(gr 127 3 yE x.2.2.2++gr 73 5 tj Ys))) (fun x=>i-x.1)
     ⟨(0,none,0,[]),⟨rfl,rfl,rfl,rfl,rfl,rfl,rfl,trivial⟩,⟨Nat.zero_le _,rfl,fun j hj=>absurd hj (Nat.not_lt_zero _)⟩,R.Own.nil hM _ _⟩ ?_
    clear hM
    rintro ⟨j,Pa,cP,Zs⟩ f w13 ⟨⟨hj,hZl,hZs⟩,hM⟩
    dsimp only at hj hZl hZs hM ⊢
    by_cases hjt:j<i
    ·(refine ad ?_;(repeat' first|refine And.intro ?_ ?_|intro _);all_goals refine ah.mk ?_)
     refine kf [(0,false),(1,false),(2,false),(3,false),(4,true),(5,true),(6,true),(7,false),(8,true)] R.mixed wx aj ?_
     (refine ad ?_;(repeat' first|refine And.intro ?_ ?_|intro _);all_goals refine ah.mk ?_)
     rename_i w14 hM
     obtain ⟨y1,y2⟩:=hYn j hjt
     refine ar rfl rfl vv vv ?_
     refine (Lw (nth Ys j).A (nth Ys j).n (nth Ys j).c p (nth Ys j).L pl es2 clk2 (UH Dk Dk.length) _ (hM.ok _ (.tail _ (.tail _ (.head _)))) hI2 (fun r hr=>by rw [hpl];exact UI hDkn (hmemQ j hjt r hr))
      (R.Own.wW hM (.tail _ (.tail _ (.tail _ (.tail _ (.tail _ (.tail _ (.tail _ (List.mem_append_right _ (qR xj)))))))))) y1 y2).mono ?_
     rintro _ w15 ⟨B3,c5,rfl,hGv⟩
     have hM:=R.Own.pv hM hGv
     clear hGv
     refine ⟨_,rfl,hM.tl.tl,?_⟩
     (refine ad ?_;(repeat' first|refine And.intro ?_ ?_|intro _);all_goals refine ah.mk ?_)
     rename_i A7 c7 w16 hM
     obtain ⟨z,hz⟩:∃ z:Sl Pc,z=⟨B3,(nth Ys j).n,c5,LZ pl (nth Ys j).L (nth Ys j).n⟩:=⟨_,rfl⟩
     have hM:R.Own [] w w16 (.row A7 1 c7 84 1 (iH z)::.row Pa j cP 84 1 (Zs.flatMap iH)::m6 127 3 yE z::.blk gN 38 [.slice An D.length cn,.slice E (mh Q Dk).length cE,.slice Pa j cP]::.map p es2 clk2::.row E (mh Q Dk).length cE 82 5 ((mh Q Dk).flatMap B6)::.row Y i cy 67 1 (Ys.flatMap iH)::.row An D.length cn 113 26 (D.flatMap bF)::.blk gR 38 [.slice none 0 0,.slice none 0 0,.slice none 0 0]::(gr 127 3 yE Zs++gr 73 5 tj Ys)):=by
      rw [hz]
      exact pk (r:=.row A7 _ _ _ _ _) (pk (r:=.row Pa _ _ _ _ _) hM)
     (refine ad ?_;(repeat' first|refine And.intro ?_ ?_|intro _);all_goals refine ah.mk ?_)
     rename_i Pa2 kI _ _ w17 hM
     have hM:=pk (r:=.row Pa2 _ _ _ _ _) hM
     refine ⟨(j+1,Pa2,kI,Zs++[z]),⟨rfl,rfl,rfl,rfl,rfl,rfl,aF rfl (by dsimp only;omega),trivial⟩,⟨⟨by dsimp only;omega,by dsimp only;rw [List.length_append,hZl];rfl,fun q hq=>?_⟩,?_⟩,by dsimp only;omega⟩
     ·dsimp only at hq ⊢
      by_cases hqj:q<j
      ·rw [av (by rw [List.length_append];omega),List.getElem_append_left xj,← av]
       exact hZs q hqj
      ·obtain rfl:q=j:=by omega
       rw [av (by rw [List.length_append];simp only [List.length_cons,List.length_nil];omega),List.getElem_append_right (by omega)]
       simp [hZl,hz]
     ·dsimp only
      rw [oF]
      exact hM.perm (List.Perm.cons _ (Jo [_,_,_,_,_,_] _ _ _))
    ·obtain rfl:j=i:=by omega
     (refine ad ?_;(repeat' first|refine And.intro ?_ ?_|intro _);all_goals refine ah.mk ?_)
     rename_i wz hM
     have hQ2:Q=PA St Cs D St.length:=by rw [← hn];exact hQ
     have hlen:Cs.length=St.length:=by rw [hCs,List.length_map,hMl];exact hn
     have hrow:∀ t,t<St.length→kW (St.map (·.g)) t (nth Cs t):=fun t ht=>by rw [hCn t xj,← hSe];exact (hMs t xj).2.2
     have hle:∀ t,t<St.length→(nth Cs t).length≤802:=fun t ht=>by rw [hCn t (by omega)];exact (hMs t xj).2.1
     have hDm2:∀ x,x∈D↔x∈ea Cs:=by rw [hCs];exact hDm
     have hZi:∀ l∈Zs,∃ t,t<j∧nth Zs t=l:=fun l hl=>by
      obtain ⟨t,ht,e⟩:=List.getElem_of_mem hl
      exact ⟨t,by omega,by rw [av ht];exact e⟩
     have hpc:∀ l∈Zs,∀ p∈l.L,∃ r∈Q,p.e=((Dk.idxOf (kh r):Nat):Int)∧p.w=r.w:=fun l hl q hq=>by
      obtain ⟨t,ht,rfl⟩:=hZi l hl
      rw [(hZs t ht).2] at hq
      obtain ⟨r,hr,rfl⟩:=List.mem_map.1 hq
      have hr:=List.mem_of_mem_take hr
      rw [(hYs t ht).2] at hr
      refine ⟨r,?_,by rw [hpl],rfl⟩
      rw [hQ]
      refine List.mem_flatMap.2 ⟨t,List.mem_range.2 ht,?_⟩
      rw [hCn t ht]
      exact hr
     have hel2:(mh Q Dk).length=Dk.length:=List.length_map ..
     obtain ⟨x,hx⟩:∃ x:Nt,x=⟨⟨An,D.length,cn,D⟩,⟨E,(mh Q Dk).length,cE,mh Q Dk⟩,⟨Pa,j,cP,Zs⟩⟩:=⟨_,rfl⟩
     have hmay:KP x:=PE hS hlen hrow hle hDs hDm2 hQ2 hG hI.nd hDk hDs2 (by rw [hx]) (by rw [hx]) (by rw [hx]) (by rw [hx];exact hel2) (by rw [hx];exact hl) xj xj (by rw [hx];exact hpc)
     have hnet:=wE hlen hrow hDs hDm2 hQ2 hG hI.nd hDk
     have hed:=wF hS hlen hrow hle hDs hDm2 hQ2 hG hI.nd hDk hDs2
     obtain ⟨_,hW⟩:=sw hS hlen hrow hle hDs hDm2 hQ2 hG hI.nd hDk
     have c1:=lZ hM (.head _)
     have c2:=lZ hM (.tail _ (.tail _ (.tail _ (.head _))))
     have c3:=lZ hM (.tail _ (.tail _ (.tail _ (.tail _ (.tail _ (.head _))))))
     refine ⟨x,Cs,by rw [hx];rfl,⟨.row Pa j cP 84 1 (Zs.flatMap iH)::.blk gN 38 [.slice An D.length cn,.slice E (mh Q Dk).length cE,.slice Pa j cP]::.map p es2 clk2::.row E (mh Q Dk).length cE 82 5 ((mh Q Dk).flatMap B6)::.row Y j cy 67 1 (Ys.flatMap iH)::.row An D.length cn 113 26 (D.flatMap bF)::.blk gR 38 [.slice An D.length cn,.slice E (mh Q Dk).length cE,.slice Pa j cP]::(gr 127 3 yE Zs++gr 73 5 tj Ys),hM,fun W w2 l2 hO hs=>?_⟩,by rw [hx];exact hnet,Gi hmay,by rw [hx];exact hDl,by rw [hx];exact hel⟩
     rw [hx]
     refine ⟨⟨R.Own.wW hO (hs _ (.tail _ (.tail _ (.tail _ (.tail _ (.tail _ (.head _))))))),rfl,c3,fun _ _=>trivial⟩,⟨R.Own.wW hO (hs _ (.tail _ (.tail _ (.tail _ (.head _))))),rfl,c2,fun e he=>?_⟩,⟨R.Own.wW hO (hs _ (.head _)),hZl.symm,c1,fun l hl=>?_⟩⟩
     ·obtain ⟨t,ht,rfl⟩:=List.getElem_of_mem he
      have ht2:t<(mh Q Dk).length:=ht
      obtain ⟨p1,p2,p3,⟨p4,p5⟩,_⟩:=hed t xj
      rw [av ht2] at p1 p2 p3 p4 p5
      show GEd _ ((mh Q Dk)[t]'ht2)
      generalize (mh Q Dk)[t]'ht2=y at p1 p2 p3 p4 p5 ⊢
      exact ⟨YQ ⟨by omega,by omega⟩,YQ ⟨by omega,by omega⟩,YQ ⟨by omega,by omega⟩⟩
     ·obtain ⟨t,ht,rfl⟩:=hZi l hl
      have hmem:m6 127 3 yE (nth Zs t)∈gr 127 3 yE Zs:=qR xj
      have hmem2:=List.mem_append_left (gr 73 5 tj Ys) hmem
      refine ⟨R.Own.wW hO (hs _ (.tail _ (.tail _ (.tail _ (.tail _ (.tail _ (.tail _ (.tail _ hmem2)))))))),?_,lZ hM (.tail _ (.tail _ (.tail _ (.tail _ (.tail _ (.tail _ (.tail _ hmem2))))))),fun q hq=>?_⟩
      ·rw [(hZs t ht).1,(hZs t ht).2,Br (Nat.le_of_eq (hYn t ht).1)]
      ·obtain ⟨r,hr,e1,e2⟩:=hpc _ hl q hq
       have hw:=hW r hr
       have hlt:Dk.idxOf (kh r)<Dk.length:=List.idxOf_lt_length_iff.2 (hDk.symm.subset ((hG.key _).2 ⟨r,hr,rfl⟩))
       exact ⟨YQ ⟨by rw [e1];omega,by rw [e1];omega⟩,YQ ⟨by rw [e2];omega,by rw [e2];omega⟩⟩
end
end Go.Proofs.YtlmabdegojeheaaGreatDoor
