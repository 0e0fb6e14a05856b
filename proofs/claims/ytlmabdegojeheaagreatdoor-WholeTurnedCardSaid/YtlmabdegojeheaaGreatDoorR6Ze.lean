/- WholeTurned: parts of its proof (R6 Sq Zc Zd Ze). -/
import Derived.Test.YtlmabdegojeheaaGreatDoorGcS5
import Derived.Test.YtlmabdegojeheaaGreatDoorOvQt
import Derived.Test.YtlmabdegojeheaaGreatDoorWxWy
namespace Go.Proofs.YtlmabdegojeheaaGreatDoor
open R Go.RowKit
section
theorem sd (a:Wd):qW a (W 1)=a:=Wd.lq (by rw [QR,oP (fV vj),Nat.div_one])
end
section
end
section
def gS (x y:Sg) (w:Wd):Wd:=rR (rR x.br y.br) w
def nH (x y:Sg) (w:Wd):Sp:=⟨a8 (⟨x.neg,qW x.br (gS x y w)⟩:Sg).z,a8 (⟨y.neg,qW y.br (gS x y w)⟩:Sg).z,qW w (gS x y w)⟩
attribute [local irreducible] aq in
set_option maxHeartbeats 2000000 in
theorem aea (x y:Sg) (m:Wd) (w:World):Calls Tryz.prog 119 #[.agg (cS x).toArray,.agg (cS y).toArray,.agg (cW m).toArray] w fun e w'=>e=.returned (.agg (bF (nH x y m)).toArray)∧Below w.heap.size w w':=by
 have hM:=R.Own.start [] w
 refine aa (fn:=Tryz.f119) Tryz.func119 rfl Tryz.ntmps119 (Nat.le_of_ble_eq_true rfl) ?_
 (refine ad ?_;(repeat' first|refine And.intro ?_ ?_|intro _);all_goals refine ah.mk ?_)
 refine ub (ι:=Nat×Nat×Nat×Nat×Nat) (fun i=>[(3,.pointer (some ⟨i.2.2.2.2,0,none⟩)),(4,.pointer (some ⟨i.2.2.2.1,0,none⟩)),(5,.pointer (some ⟨i.2.2.1,0,none⟩)),(6,.pointer (some ⟨i.2.1,0,none⟩)),(7,.pointer (some ⟨i.1,0,none⟩))])
  (fun i w2=>R.Own [] w w2 [.blk i.1 109 (cW (gS x y m)),.blk i.2.1 113 (bF ⟨⟨false,W 0⟩,⟨false,W 0⟩,W 0⟩),.blk i.2.2.1 109 (cW m),.blk i.2.2.2.1 111 (cS y),.blk i.2.2.2.2 111 (cS x)]) ?h1 ?h2
 case h1 =>
  refine nN (.q 0 (.q 1 (.q 2 (.q 3 (.q 5 (.f 4 7 (.f 6 7 (.e 7 (.e 8 .nil)) (.e 6 (.e 8 .nil))) (.e 4 (.e 6 (.e 8 .nil))))))))) R.mixed wx aj ?_
  (refine ad ?_;(repeat' first|refine And.intro ?_ ?_|intro _);all_goals refine ah.mk ?_)
  all_goals
   rename_i hM
   exact ⟨rfl,(_,_,_,_,_),⟨rfl,rfl,rfl,rfl,rfl,trivial⟩,hM⟩
 case h2 =>
  rintro ⟨g7,g6,g5,g4,g3⟩ f w2 hM
  dsimp only at hM ⊢
  (refine ad ?_;(repeat' first|refine And.intro ?_ ?_|intro _);all_goals refine ah.mk ?_)
  refine bB [(0,false),(1,false),(3,false),(4,false),(2,true),(6,false),(5,true),(7,true),(8,false),(9,true)] R.mixed wx aj ?_
  (refine ad ?_;(repeat' first|refine And.intro ?_ ?_|intro _);all_goals refine ah.mk ?_;(all_goals (try (exact ⟨rfl,R.Own.below ww⟩))))
instance OW (x y:Sg) (m:Wd):bj Tryz.prog 119 #[.agg (cS x).toArray,.agg (cS y).toArray,.agg (cW m).toArray] Unit (fun _ _=>True) (fun _=>.agg (bF (nH x y m)).toArray):=⟨fun _ w _=>aea x y m w⟩
def iy (n:Nat):Bool:=decide (((bitLen n:Nat):Int)≤120)
def bo (a:Sp):Bool:=!decide (a.w.n=0)&&(iy a.x.br.n&&(iy a.y.br.n&&(iy a.w.n&&decide (a=nH a.x a.y a.w))))
section
variable {a:Sp}
theorem aeb (h:a.w.n=0):bo a=false:=by unfold bo;rw [decide_eq_true h];rfl
theorem aec (h:¬ ((bitLen a.x.br.n:Nat):Int)≤120):bo a=false:=by unfold bo iy;rw [decide_eq_false h];simp
theorem aed (h:¬ ((bitLen a.y.br.n:Nat):Int)≤120):bo a=false:=by unfold bo iy;rw [decide_eq_false h];simp
theorem aee (h:¬ ((bitLen a.w.n:Nat):Int)≤120):bo a=false:=by unfold bo iy;rw [decide_eq_false h];simp
theorem aef (h0:¬ a.w.n=0) (hx:((bitLen a.x.br.n:Nat):Int)≤120) (hy:((bitLen a.y.br.n:Nat):Int)≤120) (hw:((bitLen a.w.n:Nat):Int)≤120):bo a=decide (a=nH a.x a.y a.w):=by
 unfold bo iy
 rw [decide_eq_false h0,decide_eq_true hx,decide_eq_true hy,decide_eq_true hw]
 rfl
end
attribute [local irreducible] aq in
set_option maxHeartbeats 2000000 in
theorem aeg (a:Sp) (w:World):Calls Tryz.prog 71 #[.agg (bF a).toArray] w fun e w'=>e=.returned (.bool (bo a))∧Below w.heap.size w w':=by
 have hM:=R.Own.start [] w
 refine aa (fn:=Tryz.f71) Tryz.func71 rfl Tryz.ntmps71 (Nat.le_of_ble_eq_true rfl) ?_
 (refine ad ?_;(repeat' first|refine And.intro ?_ ?_|intro _);all_goals refine ah.mk ?_)
 rename_i g _ _ A c w1 hM
 obtain ⟨L,hL⟩:∃ L,L=[a.x.br,a.y.br,a.w]:=⟨_,rfl⟩
 have hM:R.Own [] w w1 [.row A 3 c 109 8 (L.flatMap cW),.blk g 113 (bF a)]:=by rw [hL];exact hM
 have hlen:L.length=3:=by rw [hL];rfl
 have hf:∀ k,k<3→¬ ((bitLen (nth L k).n:Nat):Int)≤120→bo a=false:=fun k hk h=>by
  match k,hk with
  | 0,_=>rw [hL] at h;exact aec h
  | 1,_=>rw [hL] at h;exact aed h
  | 2,_=>rw [hL] at h;exact aee h
 refine au (fun k:Nat=>[(1,.pointer (some ⟨g,0,none⟩)),(2,.bool false),(13,.slice A 3 c),(14,.int .i64 3),(15,.int .i64 (k:Nat))])
  (fun k w2=>k≤3∧(∀ i,i<k→((bitLen (nth L i).n:Nat):Int)≤120)∧R.Own [] w w2 [.row A 3 c 109 8 (L.flatMap cW),.blk g 113 (bF a)]) (fun k=>3-k) ⟨0,⟨rfl,rfl,rfl,rfl,rfl,trivial⟩,by omega,fun i hi=>absurd hi (Nat.not_lt_zero _),hM⟩ ?_
 clear hM
 rintro k f w2 ⟨hk,hall,hM⟩
 by_cases hlt:k<3
 ·(refine ad ?_;(repeat' first|refine And.intro ?_ ?_|intro _);all_goals refine ah.mk ?_)
  ·rename_i h _ hM
   rw [hf k hlt (by omega)]
   exact ⟨rfl,R.Own.below ww⟩
  ·rename_i h _ hM
   refine ⟨k+1,⟨rfl,rfl,rfl,rfl,aF rfl xj,trivial⟩,⟨by omega,fun i hi=>?_,(by first|assumption|exact R.Own.tl ww)⟩,by omega⟩
   rcases Nat.lt_or_ge i k with h1|h1
   ·exact hall i h1
   ·obtain rfl:i=k:=by omega
    omega
 obtain rfl:k=3:=by omega
 have hx:((bitLen a.x.br.n:Nat):Int)≤120:=by have:=hall 0 xj;rw [hL] at this;exact this
 have hy:((bitLen a.y.br.n:Nat):Int)≤120:=by have:=hall 1 xj;rw [hL] at this;exact this
 have hw:((bitLen a.w.n:Nat):Int)≤120:=by have:=hall 2 xj;rw [hL] at this;exact this
 clear hall hf
 (refine ad ?_;(repeat' first|refine And.intro ?_ ?_|intro _);all_goals refine ah.mk ?_)
 refine bB [(0,false),(1,false),(2,true),(3,false),(4,false),(5,false),(6,false),(7,false),(8,false),(9,false),(10,false),(11,false),(12,true),(13,false),(14,false),(15,false)] R.mixed wx aj ?_
 (refine ad ?_;(repeat' first|refine And.intro ?_ ?_|intro _);all_goals refine ah.mk ?_;(all_goals (try (exact ⟨rfl,R.Own.below ww⟩))))
 ·rename_i h _ _
  rw [aef (a:=a) (by simpa using h) hx hy hw]
  exact ⟨rfl,R.Own.below ww⟩
 ·rename_i h
  rw [aeb (a:=a) (by simpa using h)]
  exact ⟨rfl,R.Own.below ww⟩
instance OX (a:Sp):bj Tryz.prog 71 #[.agg (bF a).toArray] Unit (fun _ _=>True) (fun _=>.bool (bo a)):=⟨fun _ w _=>aeg a w⟩
attribute [local irreducible] aq in
theorem YB (a:Sg) (m:Wd) (w:World):Calls Tryz.prog 124 #[.agg (cS a).toArray,.agg (cW m).toArray] w fun e w'=>e=.returned (.agg (cS (b7 (a.z*(⟨false,m⟩:Sg).z))).toArray)∧Below w.heap.size w w':=by
 have hM:=R.Own.start [] w
 refine aa (fn:=Tryz.f124) Tryz.func124 rfl Tryz.ntmps124 (Nat.le_of_ble_eq_true rfl) ?_
 (refine ad ?_;(repeat' first|refine And.intro ?_ ?_|intro _);all_goals refine ah.mk ?_;(all_goals (try (exact ⟨rfl,R.Own.below ww⟩))))
instance YC (a:Sg) (m:Wd):bj Tryz.prog 124 #[.agg (cS a).toArray,.agg (cW m).toArray] Unit (fun _ _=>True) (fun _=>.agg (cS (b7 (a.z*(⟨false,m⟩:Sg).z))).toArray):=⟨fun _ w _=>YB a m w⟩
def Lj (a b:Sg) (v m:Wd):Int:=aR (b7 (a.z*(⟨false,m⟩:Sg).z)).z (b7 (b.z*(⟨false,v⟩:Sg).z)).z
def te (a b:Int):Int:=if a≠0 then a else b
def d9 (a b:Sp):Int:=te (Lj a.x b.x a.w b.w) (Lj a.y b.y a.w b.w)
def ZP (L:List Int):Int:=L.foldr te 0
instance YD (A:Option Addr) (n c:Nat):Dt Tryz.prog 44 #[.slice A n c] (List Int) (fun L w=>gn [] w A n 1 (L.flatMap R.cI)∧n=L.length∧n≤1000000000) (fun L=>.int .i64 (ZP L)):=⟨fun L w ⟨hA,hn,hb⟩=>by
 have hM:=R.Own.start [] w
 refine aa (fn:=Tryz.f44) Tryz.func44 rfl Tryz.ntmps44 (Nat.le_of_ble_eq_true rfl) ?_
 (refine ak ?_;(repeat' first|refine And.intro ?_ ?_|intro _);all_goals refine ah.mk ?_)
 refine au (fun k:Nat=>[(2,.int .i64 0),(3,.int .i64 0),(6,.slice A n c),(7,.int .i64 (n:Nat)),(8,.int .i64 (k:Nat))])
  (fun k w1=>k≤n∧w=w1∧ZP (L.drop k)=ZP L) (fun k=>n-k) ⟨0,⟨rfl,rfl,rfl,rfl,rfl,trivial⟩,by omega,rfl,rfl⟩ ?_
 rintro k f w1 ⟨hk,rfl,ho⟩
 by_cases hlt:k<n
 ·have e:L.drop k=nth L k::L.drop (k+1):=by rw [av (by omega)];exact List.drop_eq_getElem_cons xj
  have e2:ZP L=te (nth L k) (ZP (L.drop (k+1))):=by rw [← ho,e];rfl
  (refine ak ?_;(repeat' first|refine And.intro ?_ ?_|intro _);all_goals refine ah.mk ?_)
  ·rename_i h
   rw [e2,te,if_pos h]
   exact ⟨rfl,rfl⟩
  ·rename_i h
   refine ⟨k+1,⟨rfl,rfl,rfl,rfl,aF rfl xj,trivial⟩,⟨by omega,rfl,?_⟩,by omega⟩
   rw [e2,te,if_neg h]
 ·obtain rfl:k=n:=by omega
  rw [hn,List.drop_length] at ho
  (refine ak ?_;(repeat' first|refine And.intro ?_ ?_|intro _);all_goals refine ah.mk ?_)
  rw [← ho]
  exact ⟨rfl,rfl⟩⟩
theorem we (A:Option Addr) (c:Nat) (u v:Int) (w:World) (hA:gn [] w A 2 1 ([Value.int .i64 u]++([Value.int .i64 v]++[]))):Calls Tryz.prog 44 #[.slice A 2 c] w fun e w'=>e=.returned (.int .i64 (te u v))∧w=w':=by
 refine ((YD A 2 c).h [u,v] w ⟨hA,rfl,by omega⟩).mono ?_
 rintro e w' ⟨rfl,rfl⟩
 refine ⟨?_,rfl⟩
 unfold ZP te
 by_cases hv:v=0
 ·simp [hv]
 ·simp [hv]
attribute [local irreducible] aq in
set_option maxHeartbeats 2000000 in
theorem DW (a b:Sp) (w:World):Calls Tryz.prog 74 #[.agg (bF a).toArray,.agg (bF b).toArray] w fun e w'=>e=.returned (.int .i64 (d9 a b))∧Below w.heap.size w w':=by
 have hM:=R.Own.start [] w
 refine aa (fn:=Tryz.f74) Tryz.func74 rfl Tryz.ntmps74 (Nat.le_of_ble_eq_true rfl) ?_
 (refine ad ?_;(repeat' first|refine And.intro ?_ ?_|intro _);all_goals refine ah.mk ?_)
 refine bB [(0,false),(1,false),(2,false),(3,false),(5,false),(6,false),(7,false),(8,false),(11,false),(12,false),(13,false),(14,false),(16,false),(17,false),(18,false),(19,false),(4,true),(9,true),(10,true),(15,true),(20,true),(21,true),(22,true),(23,true),(24,false)] R.mixed wx aj ?_
 (refine ad ?_;(repeat' first|refine And.intro ?_ ?_|intro _);all_goals refine ah.mk ?_)
 rename_i hM
 refine aA rfl rfl vv ?_
 refine (we _ _ _ _ _ (R.Own.wW hM (.head _))).mono ?_
 rintro e w' ⟨rfl,rfl⟩
 refine ⟨_,rfl,?_⟩
 (refine ad ?_;(repeat' first|refine And.intro ?_ ?_|intro _);all_goals refine ah.mk ?_;(all_goals (try (exact ⟨rfl,R.Own.below ww⟩))))
instance Bf (a b:Sp):bj Tryz.prog 74 #[.agg (bF a).toArray,.agg (bF b).toArray] Unit (fun _ _=>True) (fun _=>.int .i64 (d9 a b)):=⟨fun _ w _=>DW a b w⟩
attribute [local irreducible] aq in
set_option maxHeartbeats 2000000 in
theorem YE (a b:Sp) (w:World):Calls Tryz.prog 138 #[.agg (bF a).toArray,.agg (bF b).toArray] w fun e w'=>e=.returned (.tuple #[.int .i64 (if bo a&&bo b then d9 a b else 0),.int .i64 (aaZ (bo a&&bo b))])∧Below w.heap.size w w':=by
 have hM:=R.Own.start [] w
 refine aa (fn:=Tryz.f138) Tryz.func138 rfl Tryz.ntmps138 (Nat.le_of_ble_eq_true rfl) ?_
 (refine ad ?_;(repeat' first|refine And.intro ?_ ?_|intro _);all_goals refine ah.mk ?_;(all_goals (try (exact ⟨rfl,R.Own.below ww⟩))))
 all_goals first
  | (rw [Yr (p:=bo a) (q:=bo b) ww (by assumption)];exact ⟨rfl,R.Own.below ww⟩)
  | (rw [Yq (p:=bo a) (q:=bo b) (by assumption)];exact ⟨rfl,R.Own.below ww⟩)
  | (rw [Yp (p:=bo a) (q:=bo b) (by assumption)];exact ⟨rfl,R.Own.below ww⟩)
instance YF (a b:Sp):bj Tryz.prog 138 #[.agg (bF a).toArray,.agg (bF b).toArray] Unit (fun _ _=>True) (fun _=>.tuple #[.int .i64 (if bo a&&bo b then d9 a b else 0),.int .i64 (aaZ (bo a&&bo b))]):=⟨fun _ w _=>YE a b w⟩
attribute [local irreducible] aq in
theorem OY (a b:Sp) (w:World):Calls Tryz.prog 83 #[.agg (bF a).toArray,.agg (bF b).toArray] w fun e w'=>e=.returned (.int .i64 (if bo a&&bo b then d9 a b else 0))∧Below w.heap.size w w':=by
 have hM:=R.Own.start [] w
 refine aa (fn:=Tryz.f83) Tryz.func83 rfl Tryz.ntmps83 (Nat.le_of_ble_eq_true rfl) ?_
 (refine ad ?_;(repeat' first|refine And.intro ?_ ?_|intro _);all_goals refine ah.mk ?_;(all_goals (try (exact ⟨rfl,R.Own.below ww⟩))))
instance T5 (a b:Sp):bj Tryz.prog 83 #[.agg (bF a).toArray,.agg (bF b).toArray] Unit (fun _ _=>True) (fun _=>.int .i64 (if bo a&&bo b then d9 a b else 0)):=⟨fun _ w _=>OY a b w⟩
end
theorem E6 {α:Type} {lt:α→α→Prop} (anti:∀ a b,lt a b→lt b a→False) {l l':List α} (h:l.Pairwise lt) (h':l'.Pairwise lt) (hm:∀ x,x∈l↔x∈l'):l=l':=by
 have nd:∀ {l:List α},l.Pairwise lt→l.Nodup:=fun h=>h.imp fun {a b} hab e=>by
  subst e
  exact anti a a hab hab
 exact List.Perm.eq_of_pairwise (le:=lt) (fun a b _ _ h1 h2=>(anti a b h1 h2).elim) h h' ((List.perm_ext_iff_of_nodup (nd h) (nd h')).2 hm)
def bL (p:Pt):Prop:=-536870912≤p.x∧p.x≤536870912∧-536870912≤p.y∧p.y≤536870912
def aK (s:bJ):Prop:=bL s.a∧bL s.b∧s.a≠s.b
def tP (p:Pt):Pt:=⟨-p.y,p.x⟩
def tG (s:bJ):bJ:=⟨tP s.a,tP s.b⟩
def dx (a b c:Pt):Int:=(b.x-a.x)*(c.y-a.y)-(b.y-a.y)*(c.x-a.x)
def b9 (a b c:Pt):Int:=(b.x-a.x)*(c.x-a.x)+(b.y-a.y)*(c.y-a.y)
theorem Pt.gW {a b:Pt}:a=b↔a.x=b.x∧a.y=b.y:=by
 cases a;cases b;simp
theorem Hz {a b:Pt}:tP a=tP b↔a=b:=by
 rw [Pt.gW,Pt.gW]
 show -a.y=-b.y∧a.x=b.x↔_
 omega
theorem Qs {p:Pt} (h:bL p):bL (tP p):=by
 unfold bL at *
 show -536870912≤-p.y∧-p.y≤536870912∧-536870912≤p.x∧p.x≤536870912
 omega
theorem BV {s:bJ} (h:aK s):aK (tG s):=⟨Qs h.1,Qs h.2.1,fun e=>h.2.2 (Hz.1 e)⟩
theorem wL (a b c:Pt):dx (tP a) (tP b) (tP c)=dx a b c:=by
 unfold dx tP
 simp only
 grind
theorem BW (a b c:Pt):b9 (tP a) (tP b) (tP c)=b9 a b c:=by
 unfold b9 tP
 simp only
 grind
theorem BX {a b:Int} {m:Nat} (h1:-(m:Int)≤a) (h2:a≤m) (h3:-(m:Int)≤b) (h4:b≤m):-((m*m:Nat):Int)≤a*b∧a*b≤((m*m:Nat):Int):=by
 have h5:(a*b).natAbs≤m*m:=by
  rw [Int.natAbs_mul]
  exact Nat.mul_le_mul xj xj
 omega
theorem pK {a b c:Pt} (ha:bL a) (hb:bL b) (hc:bL c):-2305843009213693952≤dx a b c∧dx a b c≤2305843009213693952:=by
 unfold bL at *
 have h1:=BX (a:=b.x-a.x) (b:=c.y-a.y) (m:=1073741824) xj xj xj xj
 have h2:=BX (a:=b.y-a.y) (b:=c.x-a.x) (m:=1073741824) xj xj xj xj
 unfold dx
 omega
theorem Vh {a b c:Pt} (ha:bL a) (hb:bL b) (hc:bL c):-2305843009213693952≤b9 a b c∧b9 a b c≤2305843009213693952:=by
 unfold bL at *
 have h1:=BX (a:=b.x-a.x) (b:=c.x-a.x) (m:=1073741824) xj xj xj xj
 have h2:=BX (a:=b.y-a.y) (b:=c.y-a.y) (m:=1073741824) xj xj xj xj
 unfold b9
 omega
def JN (s:bJ) (p:Pt):Prop:=min s.a.x s.b.x≤p.x∧p.x≤max s.a.x s.b.x∧min s.a.y s.b.y≤p.y∧p.y≤max s.a.y s.b.y
def kA (s:bJ) (p:Pt):Prop:=dx s.a s.b p=0∧JN s p
instance (s:bJ) (p:Pt):Decidable (kA s p):=by unfold kA JN;infer_instance
theorem kV {s:bJ} {p:Pt}:kA (tG s) (tP p)↔kA s p:=by
 unfold kA
 show dx (tP s.a) (tP s.b) (tP p)=0∧_↔_
 rw [wL]
 refine and_congr Iff.rfl ?_
 show min (-s.a.y) (-s.b.y)≤-p.y∧-p.y≤max (-s.a.y) (-s.b.y)∧min s.a.x s.b.x≤p.x∧p.x≤max s.a.x s.b.x↔min s.a.x s.b.x≤p.x∧p.x≤max s.a.x s.b.x∧min s.a.y s.b.y≤p.y∧p.y≤max s.a.y s.b.y
 omega
def oW (s t:bJ):Prop:=min s.a.x s.b.x≤max t.a.x t.b.x∧min t.a.x t.b.x≤max s.a.x s.b.x∧min s.a.y s.b.y≤max t.a.y t.b.y∧min t.a.y t.b.y≤max s.a.y s.b.y
theorem JO {s t:bJ}:oW (tG s) (tG t)↔oW s t:=by
 unfold oW
 show min (-s.a.y) (-s.b.y)≤max (-t.a.y) (-t.b.y)∧min (-t.a.y) (-t.b.y)≤max (-s.a.y) (-s.b.y)∧min s.a.x s.b.x≤max t.a.x t.b.x∧min t.a.x t.b.x≤max s.a.x s.b.x↔_
 omega
theorem mP {s t:bJ}:oW s t↔oW t s:=by
 unfold oW
 omega
def gX (s t:bJ):Prop:=dx s.a s.b t.a=0∧dx s.a s.b t.b=0
instance (s t:bJ):Decidable (gX s t):=by unfold gX;infer_instance
def gY (s t:bJ):Prop:=(dx s.a s.b t.a<0∧0<dx s.a s.b t.b)∨(0<dx s.a s.b t.a∧dx s.a s.b t.b<0)
instance (s t:bJ):Decidable (gY s t):=by unfold gY;infer_instance
def eE (s t:bJ):Prop:=kA s t.a∨kA s t.b∨kA t s.a∨kA t s.b∨(gY s t∧gY t s)
instance (s t:bJ):Decidable (eE s t):=by unfold eE;infer_instance
theorem E7 {s t:bJ}:gX (tG s) (tG t)↔gX s t:=by
 unfold gX
 show dx (tP s.a) (tP s.b) (tP t.a)=0∧dx (tP s.a) (tP s.b) (tP t.b)=0↔_
 rw [wL,wL]
theorem E8 {s t:bJ}:gY (tG s) (tG t)↔gY s t:=by
 unfold gY
 show (dx (tP s.a) (tP s.b) (tP t.a)<0∧0<dx (tP s.a) (tP s.b) (tP t.b))∨(0<dx (tP s.a) (tP s.b) (tP t.a)∧dx (tP s.a) (tP s.b) (tP t.b)<0)↔_
 rw [wL,wL]
theorem wM {s t:bJ}:eE (tG s) (tG t)↔eE s t:=by
 unfold eE
 rw [E8,E8]
 exact or_congr kV (or_congr kV (or_congr kV (or_congr kV Iff.rfl)))
def Qu (s t:bJ) (p:Pt):Prop:=(p=s.a∨p=s.b∨p=t.a∨p=t.b)∧kA s p∧kA t p
def oX (s t:bJ) (L:List Pt):Prop:=L.Pairwise (fun p q=>b9 s.a s.b p<b9 s.a s.b q)∧∀ p,p∈L↔Qu s t p
theorem Qv {s t:bJ} {L L':List Pt} (h:oX s t L) (h':oX s t L'):L=L' :=
 E6 (fun a b h1 h2=>by omega) h.1 h'.1 fun x=>(h.2 x).trans (h'.2 x).symm
theorem abS {s t:bJ} {L:List Pt} (h:oX s t L):oX (tG s) (tG t) (L.map tP):=by
 refine ⟨List.pairwise_map.2 (h.1.imp fun {p q} hpq=>?_),fun p=>?_⟩
 ·show b9 (tP s.a) (tP s.b) (tP p)<b9 (tP s.a) (tP s.b) (tP q)
  rw [BW,BW]
  exact hpq
 ·rw [List.mem_map]
  unfold Qu
  constructor
  ·rintro ⟨q,hq,rfl⟩
   obtain ⟨h1,h2,h3⟩:=(h.2 q).1 hq
   refine ⟨?_,kV.2 h2,kV.2 h3⟩
   rcases h1 with rfl|rfl|rfl|rfl
   ·exact .inl rfl
   ·exact .inr (.inl rfl)
   ·exact .inr (.inr (.inl rfl))
   ·exact .inr (.inr (.inr rfl))
  ·rintro ⟨h1,h2,h3⟩
   rcases h1 with rfl|rfl|rfl|rfl
   ·exact ⟨s.a,(h.2 _).2 ⟨.inl rfl,kV.1 h2,kV.1 h3⟩,rfl⟩
   ·exact ⟨s.b,(h.2 _).2 ⟨.inr (.inl rfl),kV.1 h2,kV.1 h3⟩,rfl⟩
   ·exact ⟨t.a,(h.2 _).2 ⟨.inr (.inr (.inl rfl)),kV.1 h2,kV.1 h3⟩,rfl⟩
   ·exact ⟨t.b,(h.2 _).2 ⟨.inr (.inr (.inr rfl)),kV.1 h2,kV.1 h3⟩,rfl⟩
inductive Mt where
 | no
 | at_ (n d:Int)
 | over (p q:Pt)
def Mt.t:Mt→Mt
 | .no=>.no
 | .at_ n d=>.at_ n d
 | .over p q=>.over (tP p) (tP q)
def tt (s:bJ):List Pt→Mt
 | []=>.no
 | [p]=>.at_ (if p=s.a then 0 else 1) 1
 | p::q::l=>.over p ((q::l).getLast (by simp))
theorem Vi (s:bJ):∀ L:List Pt,tt (tG s) (L.map tP)=(tt s L).t
 | []=>rfl
 | [p]=>by
  show Mt.at_ (if tP p=tP s.a then 0 else 1) 1=Mt.at_ (if p=s.a then 0 else 1) 1
  by_cases c:p=s.a
  ·rw [if_pos c,if_pos (by rw [c])]
  ·rw [if_neg c,if_neg (fun e=>c (Hz.1 e))]
 | p::q::l=>by
  show Mt.over (tP p) (((q::l).map tP).getLast _)=Mt.over (tP p) (tP ((q::l).getLast _))
  rw [List.getLast_map]
def E9 (n d:Int):Mt:=if d<0 then .at_ (-n) (-d) else .at_ n d
inductive fK (s t:bJ):Mt→Prop
 | no:¬ eE s t→fK s t .no
 | over {L}:eE s t→gX s t→oX s t L→fK s t (tt s L)
 | at_:eE s t→¬ gX s t→fK s t (E9 (dx t.a t.b s.a) (dx t.a t.b s.a-dx t.a t.b s.b))
theorem pM {s t:bJ} {x y:Mt} (h:fK s t x) (h':fK s t y):x=y:=by
 cases h with
 | no a =>
  cases h' with
  | no=>rfl
  | over b=>exact absurd b a
  | at_ b=>exact absurd b a
 | over a b c =>
  cases h' with
  | no a'=>exact absurd a a'
  | over _ _ c'=>rw [Qv c c']
  | at_ _ b'=>exact absurd b b'
 | at_ a b =>
  cases h' with
  | no a'=>exact absurd a a'
  | over _ b'=>exact absurd b' b
  | at_=>rfl
theorem JP {s t:bJ} {x:Mt} (h:fK s t x):fK (tG s) (tG t) x.t:=by
 cases h with
 | no a=>exact .no (fun b=>a (wM.1 b))
 | over a b c =>
  rw [← Vi]
  exact .over (wM.2 a) (E7.2 b) (abS c)
 | at_ a b =>
  have:=fK.at_ (wM.2 a) (fun k=>b (E7.1 k))
  have e1:dx (tG t).a (tG t).b (tG s).a=dx t.a t.b s.a:=wL _ _ _
  have e2:dx (tG t).a (tG t).b (tG s).b=dx t.a t.b s.b:=wL _ _ _
  rw [e1,e2] at this
  have e:(E9 (dx t.a t.b s.a) (dx t.a t.b s.a-dx t.a t.b s.b)).t=E9 (dx t.a t.b s.a) (dx t.a t.b s.a-dx t.a t.b s.b):=by
   unfold E9
   split <;> rfl
  rw [e]
  exact this
theorem Fa {n:Nat} (h:n<2 ^ 128):n<aq:=Nat.lt_of_lt_of_le h (vy (k:=2) (m:=8) vj)
def tS (a:Sp):Sp:=⟨a8 (-a.y.z),a.x,a.w⟩
theorem tu (z:Int):(a8 (-z)).br=(a8 z).br:=by
 unfold a8
 rw [Int.natAbs_neg]
theorem LN (a b:Wd):rR a b=rR b a:=Wd.lq (by rw [gU,gU,Nat.gcd_comm])
def qS (z:Int) (g:Wd):Sg:=a8 (⟨(a8 z).neg,qW (a8 z).br g⟩:Sg).z
theorem Y9 {z:Int} (g:Wd):qS (-z) g=a8 (-(qS z g).z):=by
 unfold qS
 rw [OH,tu]
 unfold Sg.z a8
 simp only
 by_cases h0:z=0
 ·subst h0
  have h0:(qW (W 0) g).n=0:=by
   rw [QR,oP bK,Nat.zero_div]
  simp [h0]
 ·by_cases h:z<0
  ·rw [show decide (-z<0)=false from decide_eq_false xj,show decide (z<0)=true from decide_eq_true h]
   simp
  ·rw [show decide (-z<0)=true from decide_eq_true xj,show decide (z<0)=false from decide_eq_false h]
   simp
theorem BZ (x y:Int) (w:Wd):nH (a8 x) (a8 y) w=⟨qS x (gS (a8 x) (a8 y) w),qS y (gS (a8 x) (a8 y) w),qW w (gS (a8 x) (a8 y) w)⟩:=rfl
theorem aeO (x y:Int) (w:Wd):gS (a8 (-y)) (a8 x) w=gS (a8 x) (a8 y) w:=by
 unfold gS
 rw [tu,LN (a8 y).br]
theorem Zn (x y:Int) (w:Wd):nH (a8 (-y)) (a8 x) w=tS (nH (a8 x) (a8 y) w):=by
 rw [BZ,BZ,aeO]
 unfold tS
 simp only
 rw [Y9]
def HA (s:bJ) (n d:Int):Int:=s.a.x*d+(s.b.x-s.a.x)*n
def HF (s:bJ) (n d:Int):Int:=s.a.y*d+(s.b.y-s.a.y)*n
def ca (s:bJ) (n d:Int):Sp:=nH (a8 (HA s n d)) (a8 (HF s n d)) (W d.toNat)
theorem Qw (s:bJ) (n d:Int):ca (tG s) n d=tS (ca s n d):=by
 unfold ca
 rw [← Zn]
 have e1:HA (tG s) n d=-HF s n d:=by
  unfold HA HF tG tP
  simp only
  grind
 have e2:HF (tG s) n d=HA s n d:=rfl
 rw [e1,e2]
structure Ct where
 n:Int
 d:Int
 s:Sp
theorem Ct.gW {a b:Ct}:a=b↔a.n=b.n∧a.d=b.d∧a.s=b.s:=by
 cases a;cases b;simp
instance:DecidableEq Ct:=fun a b=>decidable_of_iff (a.n=b.n∧a.d=b.d∧a.s=b.s) Ct.gW.symm
instance:Inhabited Ct:=⟨⟨0,0,default⟩⟩
def tC (c:Ct):Ct:=⟨c.n,c.d,tS c.s⟩
def LO (n d:Int):Prop:=0≤n∧1≤d∧n≤d
instance (n d:Int):Decidable (LO n d):=by unfold LO;infer_instance
def nP (n d:Int):Int:=if LO n d then n / (Int.gcd n d:Nat) else 0
def ky (n d:Int):Int:=if LO n d then d / (Int.gcd n d:Nat) else 1
def bT (s:bJ) (n d:Int):Ct:=⟨nP n d,ky n d,ca s (nP n d) (ky n d)⟩
theorem mQ (s:bJ) (n d:Int):bT (tG s) n d=tC (bT s n d):=by
 unfold bT tC
 rw [Qw]
def xG (s:bJ):Mt→List Ct
 | .no=>[]
 | .at_ n d=>[bT s n d]
 | .over p q=>[bT s (b9 s.a s.b p) (b9 s.a s.b s.b),bT s (b9 s.a s.b q) (b9 s.a s.b s.b)]
theorem V6 (s:bJ) (x:Mt):xG (tG s) x.t=(xG s x).map tC:=by
 have e:∀ p,b9 (tG s).a (tG s).b (tP p)=b9 s.a s.b p:=fun p=>BW _ _ _
 have e2:b9 (tG s).a (tG s).b (tG s).b=b9 s.a s.b s.b:=BW _ _ _
 cases x with
 | no=>rfl
 | at_ n d =>
  show [bT (tG s) n d]=[tC (bT s n d)]
  rw [mQ]
 | over p q =>
  show [bT (tG s) (b9 (tG s).a (tG s).b (tP p)) (b9 (tG s).a (tG s).b (tG s).b),bT (tG s) (b9 (tG s).a (tG s).b (tP q)) (b9 (tG s).a (tG s).b (tG s).b)]=[tC (bT s _ _),tC (bT s _ _)]
  rw [e,e,e2,mQ,mQ]
def tI (S:List bJ) (i:Nat) (c:Ct):Prop:=c=bT (nth S i) 0 1∨c=bT (nth S i) 1 1∨∃ j,j<S.length∧j≠i∧oW (nth S i) (nth S j)∧∃ x,fK (nth S i) (nth S j) x∧c∈xG (nth S i) x
def V7 (a b:Ct):Prop:=a.n*b.d<b.n*a.d
structure kW (S:List bJ) (i:Nat) (C:List Ct):Prop where
 QS:C.Pairwise V7
 mem:∀ c,c∈C↔tI S i c
theorem bW {α β:Type} [Inhabited α] [Inhabited β] {f:α→β} {l:List α} {i:Nat} (h:i<l.length):nth (l.map f) i=f (nth l i):=by
 rw [av (by rw [List.length_map];exact h),av h,List.getElem_map]
theorem Qx {S:List bJ} {i:Nat} {C C':List Ct} (h:kW S i C) (h':kW S i C'):C=C' :=
 E6 (fun a b h1 h2=>by unfold V7 at h1 h2;omega) h.QS h'.QS fun x=>(h.mem x).trans (h'.mem x).symm
theorem Zo {S:List bJ} {i:Nat} (hi:i<S.length) {c:Ct} (h:tI S i c):tI (S.map tG) i (tC c):=by
 unfold tI
 rw [bW hi,mQ,mQ,List.length_map]
 rcases h with rfl|rfl|⟨j,hj,hne,hn,x,hx,hc⟩
 ·exact .inl rfl
 ·exact .inr (.inl rfl)
 ·refine .inr (.inr ⟨j,hj,hne,?_,x.t,?_,?_⟩)
  ·rw [bW hj]
   exact JO.2 hn
  ·rw [bW hj]
   exact JP hx
  ·rw [V6]
   exact List.mem_map_of_mem hc
theorem LP {S:List bJ} {i:Nat} (hi:i<S.length) {c':Ct} (hx:∀ j,j<S.length→∃ x,fK (nth S i) (nth S j) x) (h:tI (S.map tG) i c'):∃ c,tI S i c∧c'=tC c:=by
 unfold tI at h
 rw [bW hi,mQ,mQ,List.length_map] at h
 rcases h with rfl|rfl|⟨j,hj,hne,hn,x',hx',hc⟩
 ·exact ⟨_,.inl rfl,rfl⟩
 ·exact ⟨_,.inr (.inl rfl),rfl⟩
 ·rw [bW hj] at hn hx'
  obtain ⟨x,hxx⟩:=hx j hj
  rw [pM hx' (JP hxx),V6] at hc
  obtain ⟨c,hc2,e⟩:=List.mem_map.1 hc
  exact ⟨c,.inr (.inr ⟨j,hj,hne,JO.1 hn,x,hxx,hc2⟩),e.symm⟩
theorem V8 {S:List bJ} {i:Nat} (hi:i<S.length) (hx:∀ j,j<S.length→∃ x,fK (nth S i) (nth S j) x) {C:List Ct} (h:kW S i C):kW (S.map tG) i (C.map tC) where
 QS:=List.pairwise_map.2 (h.QS.imp fun hab=>hab)
 mem:=fun c'=>by
  rw [List.mem_map]
  constructor
  ·rintro ⟨c,hc,rfl⟩
   exact Zo hi ((h.mem c).1 hc)
  ·intro hc
   obtain ⟨c,h1,rfl⟩:=LP hi hx hc
   exact ⟨c,(h.mem c).2 h1,rfl⟩
theorem Vj (n d:Int):0≤nP n d∧1≤ky n d∧nP n d≤ky n d∧(1≤d→ky n d≤d):=by
 unfold nP ky
 by_cases h:LO n d
 ·rw [if_pos h,if_pos h]
  obtain ⟨h0,h1,h2⟩:=h
  have hg:0<Int.gcd n d:=Int.gcd_pos_of_ne_zero_right n xj
  have hd:((Int.gcd n d:Nat):Int) ∣ d:=Int.gcd_dvd_right ..
  have hle:((Int.gcd n d:Nat):Int)≤d:=Int.le_of_dvd xj hd
  refine ⟨Int.ediv_nonneg h0 xj,?_,Int.ediv_le_ediv xj h2,fun _=>?_⟩
  ·exact (Int.le_ediv_iff_mul_le xj).2 xj
  ·exact Int.ediv_le_self _ xj
 ·rw [if_neg h,if_neg h]
  omega
theorem Qy (n d:Int):Int.gcd (nP n d) (ky n d)=1:=by
 unfold nP ky
 by_cases h:LO n d
 ·rw [if_pos h,if_pos h]
  obtain ⟨h0,h1,h2⟩:=h
  exact Int.gcd_ediv_gcd_ediv_gcd (Int.gcd_pos_of_ne_zero_right n xj)
 ·rw [if_neg h,if_neg h]
  decide
def oY (s:bJ) (c:Ct):Prop:=0≤c.n∧1≤c.d∧c.n≤c.d∧c.d≤4611686018427387904∧c.s=ca s c.n c.d∧Int.gcd c.n c.d=1
theorem me (s:bJ) {n d:Int} (h:d≤4611686018427387904):oY s (bT s n d):=by
 obtain ⟨h1,h2,h3,h4⟩:=Vj n d
 refine ⟨h1,h2,h3,?_,rfl,Qy n d⟩
 show ky n d≤_
 by_cases hd:1≤d
 ·have:=h4 hd
  omega
 ·have:ky n d=1:=by
   unfold ky
   exact if_neg fun k=>hd k.2.1
  omega
theorem JQ {s:bJ} {n d:Int} (ha:bL s.a) (hb:bL s.b) (h0:0≤n) (h1:n≤d) (h2:d≤4611686018427387904):(HA s n d).natAbs<2 ^ 94∧(HF s n d).natAbs<2 ^ 94:=by
 unfold bL at *
 have key:∀ a b:Int,-536870912≤a→a≤536870912→-536870912≤b→b≤536870912→(a*d+(b-a)*n).natAbs<2 ^ 94:=fun a b a1 a2 b1 b2=>by
  have e1:(a*d).natAbs≤536870912*4611686018427387904:=by
   rw [Int.natAbs_mul]
   exact Nat.mul_le_mul xj xj
  have e2:((b-a)*n).natAbs≤1073741824*4611686018427387904:=by
   rw [Int.natAbs_mul]
   exact Nat.mul_le_mul xj xj
  omega
 exact ⟨key _ _ ha.1 ha.2.1 hb.1 hb.2.1,key _ _ ha.2.2.1 ha.2.2.2 hb.2.2.1 hb.2.2.2⟩
theorem V9 {n:Nat} (h:n<2 ^ 94):n<aq:=Fa xj
theorem abT {z:Int} (hz:z.natAbs<aq) {g:Wd} (hg:g.n ∣ z.natAbs) (h0:g.n≠0):(qS z g).z*(g.n:Int)=z:=by
 unfold qS
 rw [OH]
 obtain ⟨k,hk⟩:=hg
 have hq:(qW (a8 z).br g).n=k:=by
  rw [QR,d8 hz,hk,Nat.mul_div_cancel_left k (by omega)]
 unfold Sg.z
 show (if (a8 z).neg=true then -((qW (a8 z).br g).n:Int) else ((qW (a8 z).br g).n:Int))*_=_
 rw [hq]
 have hn:(a8 z).neg=decide (z<0):=rfl
 rw [hn]
 have hk2:((z.natAbs:Nat):Int)=(g.n:Int)*(k:Int):=by rw [hk];push_cast;rfl
 by_cases h:z<0
 ·rw [if_pos (decide_eq_true h),Int.neg_mul,Int.mul_comm]
  omega
 ·rw [if_neg (by simpa using h),Int.mul_comm]
  omega
theorem Zp {x y:Int} {w:Wd} (hx:x.natAbs<aq) (hy:y.natAbs<aq):(gS (a8 x) (a8 y) w).n=Nat.gcd (Nat.gcd x.natAbs y.natAbs) w.n:=by
 unfold gS
 rw [gU,gU,d8 hx,d8 hy]
theorem sF {s:bJ} {n d:Int} (ha:bL s.a) (hb:bL s.b) (h0:0≤n) (hd:1≤d) (h1:n≤d) (h2:d≤4611686018427387904) :
  ∃ g:Nat,0<g∧g≤d.toNat∧(ca s n d).x.z*(g:Int)=HA s n d∧(ca s n d).y.z*(g:Int)=HF s n d∧(((ca s n d).w.n:Nat):Int)*(g:Int)=d∧Nat.gcd (Nat.gcd (ca s n d).x.z.natAbs (ca s n d).y.z.natAbs) (ca s n d).w.n=1:=by
 obtain ⟨hx,hy⟩:=JQ ha hb h0 h1 h2
 have hx:=V9 hx
 have hy:=V9 hy
 have hw:(W d.toNat).n=d.toNat:=oP (Fa xj)
 have hg:=Zp (w:=W d.toNat) hx hy
 rw [hw] at hg
 generalize hG:gS (a8 (HA s n d)) (a8 (HF s n d)) (W d.toNat)=G at hg
 have hpos:0<Nat.gcd (Nat.gcd (HA s n d).natAbs (HF s n d).natAbs) d.toNat:=Nat.gcd_pos_of_pos_right _ xj
 have hGx:G.n ∣ (HA s n d).natAbs:=by rw [hg];exact Nat.dvd_trans (Nat.gcd_dvd_left _ _) (Nat.gcd_dvd_left _ _)
 have hGy:G.n ∣ (HF s n d).natAbs:=by rw [hg];exact Nat.dvd_trans (Nat.gcd_dvd_left _ _) (Nat.gcd_dvd_right _ _)
 have hGd:G.n ∣ d.toNat:=by rw [hg];exact Nat.gcd_dvd_right _ _
 have e:ca s n d=⟨qS (HA s n d) G,qS (HF s n d) G,qW (W d.toNat) G⟩:=by
  unfold ca
  rw [BZ,hG]
 have ex:=abT hx hGx xj
 have ey:=abT hy hGy xj
 have ew:(qW (W d.toNat) G).n*G.n=d.toNat:=by
  rw [QR,hw]
  exact Nat.div_mul_cancel hGd
 refine ⟨G.n,by omega,Nat.le_of_dvd xj hGd,?_,?_,?_,?_⟩
 ·rw [e]
  exact ex
 ·rw [e]
  exact ey
 ·rw [e]
  show (((qW (W d.toNat) G).n:Nat):Int)*_=_
  have:=congrArg (Int.ofNat) ew
  push_cast at this
  simp at this
  omega
 ·rw [e]
  show Nat.gcd (Nat.gcd (qS (HA s n d) G).z.natAbs (qS (HF s n d) G).z.natAbs) (qW (W d.toNat) G).n=1
  have ax:=congrArg Int.natAbs ex
  have ay:=congrArg Int.natAbs ey
  rw [Int.natAbs_mul,Int.natAbs_natCast] at ax ay
  have h3:Nat.gcd (Nat.gcd ((qS (HA s n d) G).z.natAbs*G.n) ((qS (HF s n d) G).z.natAbs*G.n)) ((qW (W d.toNat) G).n*G.n)=G.n:=by rw [ax,ay,ew,hg]
  rw [Nat.gcd_mul_right,Nat.gcd_mul_right] at h3
  exact Nat.eq_of_mul_eq_mul_right (show 0<G.n by omega) xj
theorem B0 {a b:Int} {g:Nat} (h:a*(g:Int)=b):a.natAbs*g=b.natAbs:=by
 rw [← h,Int.natAbs_mul,Int.natAbs_natCast]
theorem Qz {s:bJ} (hs:aK s) {n d n' d':Int} (h0:0≤n) (hd:1≤d) (h1:n≤d) (h2:d≤4611686018427387904) (h0':0≤n') (hd':1≤d') (h1':n'≤d') (h2':d'≤4611686018427387904) (e:ca s n d=ca s n' d'):n*d'=n'*d:=by
 obtain ⟨g,gp,_,gx,gy,gw,_⟩:=sF hs.1 hs.2.1 h0 hd h1 h2
 obtain ⟨g',gp',_,gx',gy',gw',_⟩:=sF hs.1 hs.2.1 h0' hd' h1' h2'
 rw [← e] at gx' gy' gw'
 generalize (ca s n d).x.z=x at *
 generalize (ca s n d).y.z=y at *
 generalize (((ca s n d).w.n:Nat):Int)=v at *
 have k1:HA s n d*d'=HA s n' d'*d:=by
  rw [← gx,← gx',← gw,← gw']
  grind
 have k2:HF s n d*d'=HF s n' d'*d:=by
  rw [← gy,← gy',← gw,← gw']
  grind
 unfold HA at k1
 unfold HF at k2
 have m1:(s.b.x-s.a.x)*(n*d'-n'*d)=0:=by grind
 have m2:(s.b.y-s.a.y)*(n*d'-n'*d)=0:=by grind
 rcases Int.mul_eq_zero.1 m1 with z1|z1
 ·rcases Int.mul_eq_zero.1 m2 with z2|z2
  ·exact absurd (Pt.gW.2 ⟨by omega,by omega⟩) hs.2.2
  ·omega
 ·omega
theorem JR (z:Int) (g:Wd):a8 (qS z g).z=qS z g:=by
 unfold qS
 rw [OH]
theorem HG {n:Nat} (h:n<2 ^ 120):iy n=true:=by
 unfold iy
 refine decide_eq_true ?_
 have:=fU h
 omega
theorem sG {s:bJ} {n d:Int} (ha:bL s.a) (hb:bL s.b) (h0:0≤n) (hd:1≤d) (h1:n≤d) (h2:d≤4611686018427387904):bo (ca s n d)=true:=by
 obtain ⟨g,gp,gl,gx,gy,gw,gg⟩:=sF ha hb h0 hd h1 h2
 obtain ⟨hx,hy⟩:=JQ ha hb h0 h1 h2
 have cx:a8 (ca s n d).x.z=(ca s n d).x:=JR _ _
 have cy:a8 (ca s n d).y.z=(ca s n d).y:=JR _ _
 generalize ca s n d=a at *
 have bx:a.x.br.n<2 ^ 94:=by
  rw [← a.x.abs]
  have:=B0 gx
  have:=Nat.le_mul_of_pos_right a.x.z.natAbs gp
  omega
 have by_:a.y.br.n<2 ^ 94:=by
  rw [← a.y.abs]
  have:=B0 gy
  have:=Nat.le_mul_of_pos_right a.y.z.natAbs gp
  omega
 have bw:a.w.n<2 ^ 94:=by
  have:=B0 gw
  have:=Nat.le_mul_of_pos_right a.w.n gp
  omega
 have hw0:a.w.n≠0:=by
  intro e
  rw [e] at gw
  simp at gw
  omega
 have hG:gS a.x a.y a.w=W 1:=by
  unfold gS
  refine Wd.lq ?_
  rw [gU,gU,← a.x.abs,← a.y.abs,gg,oP (fV vj)]
 have hl:nH a.x a.y a.w=a:=by
  unfold nH
  rw [hG,sd,sd,sd]
  exact Sp.ext_iff.2 ⟨cx,cy,rfl⟩
 unfold bo
 rw [hl,HG xj,HG xj,HG xj,decide_eq_false hw0,decide_eq_true rfl]
 rfl
end Go.Proofs.YtlmabdegojeheaaGreatDoor
