/- WholeTurned: parts of its proof (Ptb Ptc Ptd). -/
import Derived.Test.YtlmabdegojeheaaGreatDoorUsPta
namespace Go.Proofs.YtlmabdegojeheaaGreatDoor
open R Go.RowKit
theorem oz {x y:Int} (hx:-1073741824≤x∧x≤1073741824) (hy:-1073741824≤y∧y≤1073741824):-1152921504606846976≤x*y∧x*y≤1152921504606846976:=by
 have h1:x.natAbs*y.natAbs≤1073741824*1073741824:=Nat.mul_le_mul xj xj
 have h2:(x*y).natAbs=x.natAbs*y.natAbs:=Int.natAbs_mul x y
 omega
theorem sb {a b:Pt} (ha:bL a) (hb:bL b):(-1073741824≤(yf a b).x∧(yf a b).x≤1073741824)∧(-1073741824≤(yf a b).y∧(yf a b).y≤1073741824):=by
 obtain ⟨h1,h2,h3,h4⟩:=ha
 obtain ⟨h5,h6,h7,h8⟩:=hb
 unfold yf
 dsimp only
 omega
theorem Ye (a b c:Pt):dx a b c=(yf a b).x*(yf a c).y-(yf a b).y*(yf a c).x:=rfl
theorem N6 (a b c:Pt):b9 a b c=(yf a b).x*(yf a c).x+(yf a b).y*(yf a c).y:=rfl
theorem yg {a b c:Pt} (ha:bL a) (hb:bL b) (hc:bL c):bj Tryz.prog 166 #[.agg (cr a).toArray,.agg (cr b).toArray,.agg (cr c).toArray] Unit (fun _ _=>True) (fun _=>.bool true):=by
 have h:=N5 a b c
 rw [(ow a).2 ha,(ow b).2 hb,(ow c).2 hc] at h
 exact h
attribute [local irreducible] aq oT yf in
set_option maxHeartbeats 4000000 in
theorem N7 (a b c:Pt) (w:World) (ha:bL a) (hb:bL b) (hc:bL c):Calls Tryz.prog 109 #[.agg (cr a).toArray,.agg (cr b).toArray,.agg (cr c).toArray] w fun e w'=>e=.returned (.int .i64 (dx a b c))∧Below w.heap.size w w':=by
 have hM:=R.Own.start [] w
 have j:=yg ha hb hc
 obtain ⟨hux,huy⟩:=sb ha hb
 obtain ⟨hvx,hvy⟩:=sb ha hc
 have m1:=oz hux hvy
 have m2:=oz huy hvx
 rw [Ye]
 refine aa (fn:=Tryz.f109) Tryz.func109 rfl Tryz.ntmps109 (Nat.le_of_ble_eq_true rfl) ?_
 (refine ad ?_;(repeat' first|refine And.intro ?_ ?_|intro _);all_goals refine ah.mk ?_)
 refine ub (ι:=Nat×Nat) (fun i=>[(7,.pointer (some ⟨i.1,0,none⟩)),(8,.pointer (some ⟨i.2,0,none⟩))])
  (fun i w2=>R.Own [] w w2 [.blk i.1 32 (cr (yf a b)),.blk i.2 32 (cr (yf a c))]) ?h1 ?h2
 case h1 =>
  refine nN (.q 0 (.q 1 (.q 3 (.q 4 (.g 2 6 7 (.g 5 6 7 (.f 6 7 (.e 7 (.e 8 (.e 9 .nil))) (.e 6 (.e 8 (.e 9 .nil)))) (.f 5 7 (.e 7 (.e 8 (.e 9 .nil))) (.e 5 (.e 8 (.e 9 .nil)))) (.f 5 6 (.e 6 (.e 8 (.e 9 .nil))) (.e 5 (.e 8 (.e 9 .nil))))) (.f 2 7 (.f 5 7 (.e 7 (.e 8 (.e 9 .nil))) (.e 5 (.e 8 (.e 9 .nil)))) (.e 2 (.e 5 (.e 8 (.e 9 .nil))))) (.f 2 6 (.f 5 6 (.e 6 (.e 8 (.e 9 .nil))) (.e 5 (.e 8 (.e 9 .nil)))) (.e 2 (.e 5 (.e 8 (.e 9 .nil)))))))))) R.mixed wx aj ?_
  (refine ad ?_;(repeat' first|refine And.intro ?_ ?_|intro _);all_goals refine ah.mk ?_)
  all_goals
   rename_i hM
   first
    | exact ⟨rfl,(_,_),⟨rfl,rfl,trivial⟩,R.Own.EK hM⟩
    | exact ⟨rfl,(_,_),⟨rfl,rfl,trivial⟩,(R.Own.EK hM).perm (List.Perm.swap _ _ _)⟩
 case h2 =>
  rintro ⟨gu,gv⟩ f w2 hM
  dsimp only at hM ⊢
  (refine ad ?_;(repeat' first|refine And.intro ?_ ?_|intro _);all_goals refine ah.mk ?_;(all_goals (try (exact ⟨rfl,R.Own.below ww⟩))))
attribute [local irreducible] aq oT yf in
set_option maxHeartbeats 4000000 in
theorem Yf (a b c:Pt) (w:World) (ha:bL a) (hb:bL b) (hc:bL c):Calls Tryz.prog 111 #[.agg (cr a).toArray,.agg (cr b).toArray,.agg (cr c).toArray] w fun e w'=>e=.returned (.int .i64 (b9 a b c))∧Below w.heap.size w w':=by
 have hM:=R.Own.start [] w
 have j:=yg ha hb hc
 obtain ⟨hux,huy⟩:=sb ha hb
 obtain ⟨hvx,hvy⟩:=sb ha hc
 have m1:=oz hux hvx
 have m2:=oz huy hvy
 rw [N6]
 refine aa (fn:=Tryz.f111) Tryz.func111 rfl Tryz.ntmps111 (Nat.le_of_ble_eq_true rfl) ?_
 (refine ad ?_;(repeat' first|refine And.intro ?_ ?_|intro _);all_goals refine ah.mk ?_)
 refine ub (ι:=Nat×Nat) (fun i=>[(7,.pointer (some ⟨i.1,0,none⟩)),(8,.pointer (some ⟨i.2,0,none⟩))])
  (fun i w2=>R.Own [] w w2 [.blk i.1 32 (cr (yf a b)),.blk i.2 32 (cr (yf a c))]) ?h1 ?h2
 case h1 =>
  refine nN (.q 0 (.q 1 (.q 3 (.q 4 (.g 2 6 7 (.g 5 6 7 (.f 6 7 (.e 7 (.e 8 (.e 9 .nil))) (.e 6 (.e 8 (.e 9 .nil)))) (.f 5 7 (.e 7 (.e 8 (.e 9 .nil))) (.e 5 (.e 8 (.e 9 .nil)))) (.f 5 6 (.e 6 (.e 8 (.e 9 .nil))) (.e 5 (.e 8 (.e 9 .nil))))) (.f 2 7 (.f 5 7 (.e 7 (.e 8 (.e 9 .nil))) (.e 5 (.e 8 (.e 9 .nil)))) (.e 2 (.e 5 (.e 8 (.e 9 .nil))))) (.f 2 6 (.f 5 6 (.e 6 (.e 8 (.e 9 .nil))) (.e 5 (.e 8 (.e 9 .nil)))) (.e 2 (.e 5 (.e 8 (.e 9 .nil)))))))))) R.mixed wx aj ?_
  (refine ad ?_;(repeat' first|refine And.intro ?_ ?_|intro _);all_goals refine ah.mk ?_)
  all_goals
   rename_i hM
   first
    | exact ⟨rfl,(_,_),⟨rfl,rfl,trivial⟩,R.Own.EK hM⟩
    | exact ⟨rfl,(_,_),⟨rfl,rfl,trivial⟩,(R.Own.EK hM).perm (List.Perm.swap _ _ _)⟩
 case h2 =>
  rintro ⟨gu,gv⟩ f w2 hM
  dsimp only at hM ⊢
  (refine ad ?_;(repeat' first|refine And.intro ?_ ?_|intro _);all_goals refine ah.mk ?_;(all_goals (try (exact ⟨rfl,R.Own.below ww⟩))))
instance Yg (a b c:Pt):bj Tryz.prog 109 #[.agg (cr a).toArray,.agg (cr b).toArray,.agg (cr c).toArray] Unit (fun _ _=>bL a∧bL b∧bL c) (fun _=>.int .i64 (dx a b c)):=⟨fun _ w ⟨h1,h2,h3⟩=>N7 a b c w h1 h2 h3⟩
instance aaU (a b c:Pt):bj Tryz.prog 111 #[.agg (cr a).toArray,.agg (cr b).toArray,.agg (cr c).toArray] Unit (fun _ _=>bL a∧bL b∧bL c) (fun _=>.int .i64 (b9 a b c)):=⟨fun _ w ⟨h1,h2,h3⟩=>Yf a b c w h1 h2 h3⟩
theorem gj {s:bJ} (hs:aK s):bj Tryz.prog 99 #[.agg (bD s).toArray] Unit (fun _ _=>True) (fun _=>.bool true):=by
 have h:=KX s
 rw [(ow s.a).2 hs.1,(ow s.b).2 hs.2.1,decide_eq_true hs.2.2] at h
 exact h
attribute [local irreducible] aq oT in
set_option maxHeartbeats 4000000 in
instance aaV (a b:Pt):bj Tryz.prog 112 #[.agg (cr a).toArray,.agg (cr b).toArray] Unit (fun _ _=>bL a∧bL b) (fun _=>.int .i64 (b9 a b b)):=⟨fun _ w ⟨h1,h2⟩=>by
 have hM:=R.Own.start [] w
 refine aa (fn:=Tryz.f112) Tryz.func112 rfl Tryz.ntmps112 (Nat.le_of_ble_eq_true rfl) ?_
 (refine ad ?_;(repeat' first|refine And.intro ?_ ?_|intro _);all_goals refine ah.mk ?_;(all_goals (try (exact ⟨rfl,R.Own.below ww⟩))))⟩
attribute [local irreducible] aq oT in
set_option maxHeartbeats 4000000 in
instance ZD (a b c:Pt):bj Tryz.prog 163 #[.agg (cr a).toArray,.agg (cr b).toArray,.agg (cr c).toArray] Unit (fun _ _=>bL a∧bL b∧bL c) (fun _=>.int .i64 (aR (dx a b c) 0)):=⟨fun _ w ⟨h1,h2,h3⟩=>by
 have hM:=R.Own.start [] w
 refine aa (fn:=Tryz.f163) Tryz.func163 rfl Tryz.ntmps163 (Nat.le_of_ble_eq_true rfl) ?_
 (refine ad ?_;(repeat' first|refine And.intro ?_ ?_|intro _);all_goals refine ah.mk ?_;(all_goals (try (exact ⟨rfl,R.Own.below ww⟩))))⟩
def Tx (s:bJ):Pt:=⟨min s.a.x s.b.x,min s.a.y s.b.y⟩
def I5 (s:bJ):Pt:=⟨max s.a.x s.b.x,max s.a.y s.b.y⟩
attribute [local irreducible] aq oT in
set_option maxHeartbeats 4000000 in
theorem Yh (s:bJ) (w:World) (hs:aK s):Calls Tryz.prog 100 #[.agg (bD s).toArray] w fun e w'=>e=.returned (.tuple #[.agg (cr (Tx s)).toArray,.agg (cr (I5 s)).toArray])∧Below w.heap.size w w':=by
 have hM:=R.Own.start [] w
 have j:=gj hs
 refine aa (fn:=Tryz.f100) Tryz.func100 rfl Tryz.ntmps100 (Nat.le_of_ble_eq_true rfl) ?_
 (refine ad ?_;(repeat' first|refine And.intro ?_ ?_|intro _);all_goals refine ah.mk ?_)
 refine bB [(0,false),(1,false),(2,true),(3,true)] R.mixed wx aj ?_
 (refine ad ?_;(repeat' first|refine And.intro ?_ ?_|intro _);all_goals refine ah.mk ?_;(all_goals (try (exact ⟨rfl,R.Own.below ww⟩))))
theorem Gw {p:Pt} (hp:bL p):bj Tryz.prog 93 #[.agg (cr p).toArray] Unit (fun _ _=>True) (fun _=>.bool true):=by
 have h:=x6 p
 rw [(ow p).2 hp] at h
 exact h
instance ZE (s:bJ) (p:Pt):Decidable (JN s p):=by unfold JN;infer_instance
instance acG (s:bJ) (p:Pt):Decidable (kA s p):=by unfold kA;infer_instance
theorem Gx (x:Int):aR x 0=0↔x=0:=by
 unfold aR
 split
 ·omega
 ·split <;> omega
instance aaW (s:bJ):bj Tryz.prog 100 #[.agg (bD s).toArray] Unit (fun _ _=>aK s) (fun _=>.tuple #[.agg (cr (Tx s)).toArray,.agg (cr (I5 s)).toArray]):=⟨fun _ w h=>Yh s w h⟩
attribute [local irreducible] aq oT dx aR in
set_option maxHeartbeats 4000000 in
theorem VT (s:bJ) (p:Pt) (w:World) (hs:aK s) (hp:bL p):Calls Tryz.prog 110 #[.agg (bD s).toArray,.agg (cr p).toArray] w fun e w'=>e=.returned (.bool (decide (kA s p)))∧Below w.heap.size w w':=by
 have hM:=R.Own.start [] w
 have j:=gj hs
 have j2:=Gw hp
 have h1:=hs.1
 have h2:=hs.2.1
 have hK:kA s p↔aR (dx s.a s.b p) 0=0∧(Tx s).x≤p.x∧p.x≤(I5 s).x∧(Tx s).y≤p.y∧p.y≤(I5 s).y:=by
  rw [Gx]
  rfl
 refine aa (fn:=Tryz.f110) Tryz.func110 rfl Tryz.ntmps110 (Nat.le_of_ble_eq_true rfl) ?_
 (refine ad ?_;(repeat' first|refine And.intro ?_ ?_|intro _);all_goals refine ah.mk ?_)
 all_goals
  refine ⟨?_,R.Own.below ww⟩
  clear hM j j2
  simp_all
attribute [local irreducible] aq oT dx aR in
set_option maxHeartbeats 4000000 in
instance vK (s t:bJ):bj Tryz.prog 162 #[.agg (bD s).toArray,.agg (bD t).toArray] Unit (fun _ _=>aK s∧aK t) (fun _=>.bool (decide (aR (dx s.a s.b t.a) 0*aR (dx s.a s.b t.b) 0<0))):=⟨fun _ w ⟨hs,ht⟩=>by
 have hM:=R.Own.start [] w
 have h1:=hs.1
 have h2:=hs.2.1
 have h3:=ht.1
 have h4:=ht.2.1
 have c1:-1≤aR (dx s.a s.b t.a) 0∧aR (dx s.a s.b t.a) 0≤1:=by unfold aR;split <;> (try split) <;> omega
 have c2:-1≤aR (dx s.a s.b t.b) 0∧aR (dx s.a s.b t.b) 0≤1:=by unfold aR;split <;> (try split) <;> omega
 have m1:-1≤aR (dx s.a s.b t.a) 0*aR (dx s.a s.b t.b) 0∧aR (dx s.a s.b t.a) 0*aR (dx s.a s.b t.b) 0≤1:=by
  obtain ⟨a1,a2⟩:=c1
  generalize aR (dx s.a s.b t.a) 0=x at *
  have:x=-1∨x=0∨x=1:=by omega
  rcases this with rfl|rfl|rfl <;> omega
 refine aa (fn:=Tryz.f162) Tryz.func162 rfl Tryz.ntmps162 (Nat.le_of_ble_eq_true rfl) ?_
 (refine ad ?_;(repeat' first|refine And.intro ?_ ?_|intro _);all_goals refine ah.mk ?_)
 refine bB [(0,false),(1,false),(2,false),(3,false),(4,false),(5,false),(7,false),(8,false),(9,false),(10,false),(11,false),(12,false),(6,true),(13,true),(14,false),(15,false),(16,false)] R.mixed wx aj ?_
 (refine ad ?_;(repeat' first|refine And.intro ?_ ?_|intro _);all_goals refine ah.mk ?_;(all_goals (try (exact ⟨rfl,R.Own.below ww⟩))))⟩
instance acH (s:bJ) (p:Pt):bj Tryz.prog 110 #[.agg (bD s).toArray,.agg (cr p).toArray] Unit (fun _ _=>aK s∧bL p) (fun _=>.bool (decide (kA s p))):=⟨fun _ w ⟨h1,h2⟩=>VT s p w h1 h2⟩
instance ZF (s t:bJ):Decidable (gX s t):=by unfold gX;infer_instance
instance ZG (s t:bJ):Decidable (gY s t):=by unfold gY;infer_instance
instance ZH (s t:bJ):Decidable (eE s t):=by unfold eE;infer_instance
theorem yh (s t:bJ):aR (dx s.a s.b t.a) 0*aR (dx s.a s.b t.b) 0<0↔gY s t:=by
 have h:∀ x:Int,(x<0∧aR x 0=-1)∨(x=0∧aR x 0=0)∨(0<x∧aR x 0=1):=fun x=>by
  unfold aR
  rcases Int.lt_trichotomy x 0 with h|h|h
  ·exact .inl ⟨h,if_pos h⟩
  ·exact .inr (.inl ⟨h,by rw [if_neg xj,if_pos h]⟩)
  ·exact .inr (.inr ⟨h,by rw [if_neg xj,if_neg (by omega)]⟩)
 unfold gY
 rcases h (dx s.a s.b t.a) with ⟨a,e⟩|⟨a,e⟩|⟨a,e⟩ <;> rcases h (dx s.a s.b t.b) with ⟨b,e'⟩|⟨b,e'⟩|⟨b,e'⟩ <;> rw [e,e'] <;> omega
attribute [local irreducible] aq oT dx aR in
set_option maxHeartbeats 4000000 in
theorem N8 (s t:bJ) (w:World) (hs:aK s) (ht:aK t):Calls Tryz.prog 107 #[.agg (bD s).toArray,.agg (bD t).toArray] w fun e w'=>e=.returned (.bool (decide (gX s t)))∧Below w.heap.size w w':=by
 have hM:=R.Own.start [] w
 have j:=gj hs
 have j2:=gj ht
 have h1:=hs.1
 have h2:=hs.2.1
 have h3:=ht.1
 have h4:=ht.2.1
 have hK:gX s t↔aR (dx s.a s.b t.a) 0=0∧aR (dx s.a s.b t.b) 0=0:=by
  rw [Gx,Gx]
  rfl
 refine aa (fn:=Tryz.f107) Tryz.func107 rfl Tryz.ntmps107 (Nat.le_of_ble_eq_true rfl) ?_
 (refine ad ?_;(repeat' first|refine And.intro ?_ ?_|intro _);all_goals refine ah.mk ?_)
 all_goals
  refine ⟨?_,R.Own.below ww⟩
  clear hM j j2
  simp_all
instance Yi (s t:bJ):bj Tryz.prog 107 #[.agg (bD s).toArray,.agg (bD t).toArray] Unit (fun _ _=>aK s∧aK t) (fun _=>.bool (decide (gX s t))):=⟨fun _ w ⟨h1,h2⟩=>N8 s t w h1 h2⟩
attribute [local irreducible] aq oT dx aR kA gY in
set_option maxHeartbeats 4000000 in
theorem N9 (s t:bJ) (w:World) (hs:aK s) (ht:aK t):Calls Tryz.prog 106 #[.agg (bD s).toArray,.agg (bD t).toArray] w fun e w'=>e=.returned (.bool (decide (eE s t)))∧Below w.heap.size w w':=by
 have hM:=R.Own.start [] w
 have j:=gj hs
 have j2:=gj ht
 have h1:=hs.1
 have h2:=hs.2.1
 have h3:=ht.1
 have h4:=ht.2.1
 have e1:decide (aR (dx s.a s.b t.a) 0*aR (dx s.a s.b t.b) 0<0)=decide (gY s t):=decide_eq_decide.2 (yh s t)
 have e2:decide (aR (dx t.a t.b s.a) 0*aR (dx t.a t.b s.b) 0<0)=decide (gY t s):=decide_eq_decide.2 (yh t s)
 have k1:=vK s t
 have k2:=vK t s
 rw [e1] at k1
 rw [e2] at k2
 refine aa (fn:=Tryz.f106) Tryz.func106 rfl Tryz.ntmps106 (Nat.le_of_ble_eq_true rfl) ?_
 (refine ad ?_;(repeat' first|refine And.intro ?_ ?_|intro _);all_goals refine ah.mk ?_)
 all_goals
  refine ⟨?_,R.Own.below ww⟩
  clear hM j j2 k1 k2 e1 e2
  unfold eE
  simp_all
instance Yj (s t:bJ):bj Tryz.prog 106 #[.agg (bD s).toArray,.agg (bD t).toArray] Unit (fun _ _=>aK s∧aK t) (fun _=>.bool (decide (eE s t))):=⟨fun _ w ⟨h1,h2⟩=>N9 s t w h1 h2⟩
end Go.Proofs.YtlmabdegojeheaaGreatDoor
