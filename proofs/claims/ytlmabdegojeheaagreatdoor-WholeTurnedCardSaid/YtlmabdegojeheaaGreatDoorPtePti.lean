/- WholeTurned: parts of its proof (Pte Ptf Ptg Pth Pti). -/
import Derived.Test.YtlmabdegojeheaaGreatDoorPtbPtd
namespace Go.Proofs.YtlmabdegojeheaaGreatDoor
open R Go.RowKit
theorem AF {s:bJ} {p:Pt} (hs:aK s) (hp:bL p) (h:kA s p):bj Tryz.prog 110 #[.agg (bD s).toArray,.agg (cr p).toArray] Unit (fun _ _=>True) (fun _=>.bool true):=⟨fun _ w _=>by
 have:=VT s p w hs hp
 rw [decide_eq_true h] at this
 exact this⟩
attribute [local irreducible] aq oT dx aR kA b9 in
set_option maxHeartbeats 4000000 in
theorem Oa (s:bJ) (p q:Pt) (w:World) (hs:aK s) (hp:bL p) (hq:bL q) (h1:kA s p) (h2:kA s q):Calls Tryz.prog 229 #[.agg (bD s).toArray,.agg (cr p).toArray,.agg (cr q).toArray] w fun e w'=>e=.returned (.int .i64 (aR (b9 s.a s.b p) (b9 s.a s.b q)))∧Below w.heap.size w w':=by
 have hM:=R.Own.start [] w
 have j:=AF hs hp h1
 have j2:=AF hs hq h2
 have k1:=hs.1
 have k2:=hs.2.1
 refine aa (fn:=Tryz.f229) Tryz.func229 rfl Tryz.ntmps229 (Nat.le_of_ble_eq_true rfl) ?_
 (refine ad ?_;(repeat' first|refine And.intro ?_ ?_|intro _);all_goals refine ah.mk ?_)
 refine bB [(0,false),(1,false),(2,false),(3,false),(4,false),(6,false),(7,false),(8,false),(9,false),(10,false),(5,true),(11,true),(12,true),(13,false)] R.mixed wx aj ?_
 (refine ad ?_;(repeat' first|refine And.intro ?_ ?_|intro _);all_goals refine ah.mk ?_;(all_goals (try (exact ⟨rfl,R.Own.below ww⟩))))
attribute [local irreducible] aq in
set_option maxHeartbeats 4000000 in
instance ZI (s:bJ) (p:Pt):bj Tryz.prog 165 #[.agg (bD s).toArray,.agg (cr p).toArray] Unit (fun _ _=>True) (fun _=>.int .i64 (if p=s.a then 0 else 1)):=⟨fun _ w _=>by
 have hM:=R.Own.start [] w
 refine aa (fn:=Tryz.f165) Tryz.func165 rfl Tryz.ntmps165 (Nat.le_of_ble_eq_true rfl) ?_
 (refine ad ?_;(repeat' first|refine And.intro ?_ ?_|intro _);all_goals refine ah.mk ?_)
 all_goals
  refine ⟨?_,R.Own.below ww⟩
  simp_all⟩
theorem Gy (A:Option Addr) (n c:Nat) (L:List Pt) (t:Pt) (w:World) (hA:gn [] w A n 2 (L.flatMap cr)) (hn:n=L.length) (hb:n≤9223372036854775807):Calls Tryz.prog 284 #[.slice A n c,.agg (cr t).toArray] w fun e w'=>(∃ z:Int,e=.returned (.int .i64 z)∧decide (0≤z)=decide (t∈L))∧Below w.heap.size w w':=by
 have hM:=R.Own.start [] w
 refine aa (fn:=Tryz.f284) Tryz.func284 rfl Tryz.ntmps284 (Nat.le_of_ble_eq_true rfl) ?_
 (refine ak ?_;(repeat' first|refine And.intro ?_ ?_|intro _);all_goals refine ah.mk ?_)
 rename_i g _ hM
 refine au (fun k:Nat=>[(0,.slice A n c),(3,.pointer (some ⟨g,0,none⟩)),(4,.int .i64 0),(7,.int .i64 (n:Nat)),(8,.int .i64 (k:Nat))])
  (fun k w1=>k≤n∧R.Own [] w w1 [.blk g 32 (cr t)]∧∀ i,i<k→t≠nth L i) (fun k=>n-k) ⟨0,⟨rfl,rfl,rfl,rfl,rfl,trivial⟩,by omega,hM,fun i hi=>absurd hi (Nat.not_lt_zero _)⟩ ?_
 clear hM
 rintro k f w1 ⟨hk,hM,hall⟩
 by_cases hlt:k<n
 ·(refine ak ?_;(repeat' first|refine And.intro ?_ ?_|intro _);all_goals refine ah.mk ?_)
  ·rename_i heq
   exact ⟨⟨_,rfl,by rw [decide_eq_true xj,decide_eq_true (by rw [heq];exact R.aB xj)]⟩,R.Own.below ww⟩
  ·rename_i hne
   refine ⟨k+1,⟨rfl,rfl,rfl,rfl,aF rfl xj,trivial⟩,⟨by omega,by assumption,fun i hi=>?_⟩,by omega⟩
   rcases Nat.lt_or_ge i k with h|h
   ·exact hall i h
   ·obtain rfl:i=k:=by omega
    exact hne
 ·obtain rfl:k=n:=by omega
  (refine ak ?_;(repeat' first|refine And.intro ?_ ?_|intro _);all_goals refine ah.mk ?_)
  refine ⟨⟨_,rfl,?_⟩,R.Own.below ww⟩
  rw [decide_eq_false vj,decide_eq_false]
  intro hm
  obtain ⟨q,hq,hqt⟩:=List.getElem_of_mem hm
  rw [← av hq] at hqt
  exact hall q xj hqt.symm
theorem xz (A:Option Addr) (n c:Nat) (L:List Pt) (t:Pt) (w:World) (hA:gn [] w A n 2 (L.flatMap cr)) (hn:n=L.length) (hb:n≤9223372036854775807):Calls Tryz.prog 226 #[.slice A n c,.agg (cr t).toArray] w fun e w'=>e=.returned (.bool (decide (t∈L)))∧Below w.heap.size w w':=by
 have hM:=R.Own.start [] w
 refine aa (fn:=Tryz.f226) Tryz.func226 rfl Tryz.ntmps226 (Nat.le_of_ble_eq_true rfl) ?_
 (refine ak ?_;(repeat' first|refine And.intro ?_ ?_|intro _);all_goals refine ah.mk ?_)
 rename_i hM
 refine ar rfl rfl vv vv ?_
 refine (Gy A n c L t _ (hM.gi hA) hn hb).mono ?_
 rintro _ w2 ⟨⟨z,rfl,hz⟩,hb2⟩
 have hM:=hM.call hb2
 refine ⟨_,rfl,?_⟩
 (refine ak ?_;(repeat' first|refine And.intro ?_ ?_|intro _);all_goals refine ah.mk ?_)
 exact ⟨by rw [← hz],R.Own.below ww⟩
instance Ob (A:Option Addr) (n c:Nat) (p:Pt):bj Tryz.prog 226 #[.slice A n c,.agg (cr p).toArray] (List Pt) (fun L w=>gn [] w A n 2 (L.flatMap cr)∧n=L.length∧n≤9223372036854775807) (fun L=>.bool (decide (p∈L))):=⟨fun L w h=>xz A n c L p w h.1 h.2.1 h.2.2⟩
theorem Oc {a b:Int} (ha:0<a) (hb:0≤b):Int.gcd (b % a) a=Int.gcd a b:=by
 obtain ⟨A,rfl⟩:∃ A:Nat,a=A:=⟨a.toNat,by omega⟩
 obtain ⟨B,rfl⟩:∃ B:Nat,b=B:=⟨b.toNat,by omega⟩
 show Nat.gcd ((B:Int) % (A:Int)).natAbs (A:Int).natAbs=Nat.gcd (A:Int).natAbs (B:Int).natAbs
 rw [← Int.natCast_emod,Int.natAbs_natCast,Int.natAbs_natCast,Int.natAbs_natCast]
 exact (Nat.gcd_rec A B).symm
set_option maxHeartbeats 4000000 in
theorem Yk (n d:Int) (w:World) (hn:ao n) (hd:ao d):Calls Tryz.prog 104 #[.int .i64 n,.int .i64 d] w fun e w'=>e=.returned (.tuple #[.int .i64 (nP n d),.int .i64 (ky n d)])∧Below w.heap.size w w':=by
 have hM:=R.Own.start [] w
 by_cases hok:LO n d
 ·have e1:nP n d=n / (Int.gcd n d:Nat):=if_pos hok
  have e2:ky n d=d / (Int.gcd n d:Nat):=if_pos hok
  obtain ⟨h1,h2,h3⟩:=hok
  rw [e1,e2]
  refine aa (fn:=Tryz.f104) Tryz.func104 rfl Tryz.ntmps104 (Nat.le_of_ble_eq_true rfl) ?_
  (refine ad ?_;(repeat' first|refine And.intro ?_ ?_|intro _);all_goals refine ah.mk ?_)
  all_goals try (exfalso;omega)
  have hn2:0≤n∧n≤9223372036854775807:=⟨h1,hn.2⟩
  have hd2:0≤d∧d≤9223372036854775807:=⟨by omega,hd.2⟩
  refine au (fun i:Int×Int=>[(0,.int .i64 n),(1,.int .i64 d),(4,.int .i64 0),(5,.int .i64 0),(6,.int .i64 i.1),(7,.int .i64 i.2)])
   (fun i w1=>R.Own [] w w1 []∧(0≤i.1∧i.1≤9223372036854775807)∧(1≤i.2∧i.2≤9223372036854775807)∧Int.gcd i.1 i.2=Int.gcd n d) (fun i=>i.1.toNat) ⟨(n,d),⟨rfl,rfl,rfl,rfl,rfl,rfl,trivial⟩,by assumption,⟨h1,hn.2⟩,⟨h2,hd.2⟩,rfl⟩ ?_
  clear hM
  rintro ⟨a,b⟩ f w1 ⟨hM,⟨ha,ha'⟩,⟨hb,hb'⟩,hg⟩
  dsimp only at ha ha' hb hb' hg ⊢
  by_cases h0:a=0
  ·subst h0
   have eb:((Int.gcd n d:Nat):Int)=b:=by
    rw [← hg]
    show ((Nat.gcd 0 b.natAbs:Nat):Int)=b
    rw [Nat.gcd_zero_left]
    omega
   rw [eb]
   have hb0:0<b:=by omega
   (refine ad ?_;(repeat' first|refine And.intro ?_ ?_|intro _);all_goals refine ah.mk ?_;(all_goals (try (exact ⟨rfl,R.Own.below ww⟩))))
  ·have hlt:=Int.emod_lt_of_pos b (show 0<a by omega)
   have hge:=Int.emod_nonneg b h0
   have hs:=Oc (show 0<a by omega) (show 0≤b by omega)
   (refine ad ?_;(repeat' first|refine And.intro ?_ ?_|intro _);all_goals refine ah.mk ?_)
   exact ⟨(b % a,a),⟨rfl,rfl,rfl,rfl,rfl,rfl,trivial⟩,⟨by assumption,⟨hge,by omega⟩,⟨by omega,by omega⟩,hs.trans hg⟩,by show (b % a).toNat<a.toNat;omega⟩
 ·have e1:nP n d=0:=if_neg hok
  have e2:ky n d=1:=if_neg hok
  unfold LO at hok
  rw [e1,e2]
  refine aa (fn:=Tryz.f104) Tryz.func104 rfl Tryz.ntmps104 (Nat.le_of_ble_eq_true rfl) ?_
  (refine ad ?_;(repeat' first|refine And.intro ?_ ?_|intro _);all_goals refine ah.mk ?_)
  all_goals try exact ⟨rfl,R.Own.below ww⟩
  all_goals (exfalso;omega)
instance aaX (n d:Int):bj Tryz.prog 104 #[.int .i64 n,.int .i64 d] Unit (fun _ _=>ao n∧ao d) (fun _=>.tuple #[.int .i64 (nP n d),.int .i64 (ky n d)]):=⟨fun _ w ⟨h1,h2⟩=>Yk n d w h1 h2⟩
def fu (a b n d:Int):Sg:=b7 ((b7 ((a8 a).z*(a8 d).z)).z+(b7 ((a8 (b-a)).z*(a8 n).z)).z)
attribute [local irreducible] aq in
set_option maxHeartbeats 4000000 in
instance Yl (a b n d:Int):bj Tryz.prog 160 #[.int .i64 a,.int .i64 b,.int .i64 n,.int .i64 d] Unit (fun _ _=>ao a∧ao b∧ao n∧ao d∧ao (b-a)) (fun _=>.agg (cS (fu a b n d)).toArray):=⟨fun _ w ⟨h1,h2,h3,h4,h5⟩=>by
 have hM:=R.Own.start [] w
 refine aa (fn:=Tryz.f160) Tryz.func160 rfl Tryz.ntmps160 (Nat.le_of_ble_eq_true rfl) ?_
 (refine ad ?_;(repeat' first|refine And.intro ?_ ?_|intro _);all_goals refine ah.mk ?_;(all_goals (try (exact ⟨rfl,R.Own.below ww⟩))))⟩
attribute [local irreducible] aq oT in
set_option maxHeartbeats 4000000 in
theorem KY (s:bJ) (n d:Int) (w:World) (hs:aK s) (hn:ao n) (hd:ao d) (hok:LO n d):Calls Tryz.prog 105 #[.agg (bD s).toArray,.int .i64 n,.int .i64 d] w fun e w'=>e=.returned (.tuple #[.agg (bF (nH (fu s.a.x s.b.x n d) (fu s.a.y s.b.y n d) (W d.toNat))).toArray,.int .i64 0])∧Below w.heap.size w w':=by
 have hM:=R.Own.start [] w
 have j:=gj hs
 obtain ⟨⟨a1,a2,a3,a4⟩,⟨b1,b2,b3,b4⟩,_⟩:=hs
 obtain ⟨h1,h2,h3⟩:=hok
 have i1:ao s.a.x:=⟨by omega,by omega⟩
 have i2:ao s.a.y:=⟨by omega,by omega⟩
 have i3:ao s.b.x:=⟨by omega,by omega⟩
 have i4:ao s.b.y:=⟨by omega,by omega⟩
 have i5:ao (s.b.x-s.a.x):=⟨by omega,by omega⟩
 have i6:ao (s.b.y-s.a.y):=⟨by omega,by omega⟩
 have hd2:=hd.2
 refine aa (fn:=Tryz.f105) Tryz.func105 rfl Tryz.ntmps105 (Nat.le_of_ble_eq_true rfl) ?_
 (refine ad ?_;(repeat' first|refine And.intro ?_ ?_|intro _);all_goals refine ah.mk ?_)
 all_goals try (exfalso;omega)
 refine bB [(0,false),(1,false),(2,false),(3,false),(4,false),(5,false),(6,false),(7,false),(9,false),(10,false),(11,false),(12,false),(13,false),(14,false),(15,false),(16,false),(18,false),(19,false),(8,true),(17,true),(20,true),(21,true),(22,true),(23,false)] R.mixed wx aj ?_
 (refine ad ?_;(repeat' first|refine And.intro ?_ ?_|intro _);all_goals refine ah.mk ?_)
 exact ⟨rfl,R.Own.below ww⟩
theorem Od {z:Int} (h:z.natAbs≤340282366920938463463374607431768211456):z.natAbs<aq :=
 Nat.lt_of_le_of_lt h (by unfold aq;decide +kernel)
theorem I6 {x y:Int} {m k:Nat} (hx:x.natAbs≤m) (hy:y.natAbs≤k):(x*y).natAbs≤m*k:=by
 rw [Int.natAbs_mul]
 exact Nat.mul_le_mul hx hy
theorem iw {z:Int} (h:z.natAbs≤340282366920938463463374607431768211456):(a8 z).z=z:=lX (Od h)
theorem pA {z:Int} (h:z.natAbs≤340282366920938463463374607431768211456):b7 z=a8 z:=oB (Od h)
theorem Dx {a b n d:Int} (ha:-536870912≤a∧a≤536870912) (hb:-536870912≤b∧b≤536870912) (hn:ao n) (hd:ao d):fu a b n d=a8 (a*d+(b-a)*n):=by
 have hn':n.natAbs≤9223372036854775808:=by unfold ao at hn;omega
 have hd':d.natAbs≤9223372036854775808:=by unfold ao at hd;omega
 have m1:=I6 (x:=a) (m:=1073741824) xj hd'
 have m2:=I6 (x:=b-a) (m:=1073741824) xj hn'
 have e1:(a8 a).z=a:=iw xj
 have e2:(a8 d).z=d:=iw xj
 have e3:(a8 (b-a)).z=b-a:=iw xj
 have e4:(a8 n).z=n:=iw xj
 unfold fu
 rw [e1,e2,e3,e4,pA (z:=a*d) xj,pA (z:=(b-a)*n) xj,iw (z:=a*d) xj,iw (z:=(b-a)*n) xj,pA (by omega)]
theorem KZ {s:bJ} {n d:Int} (hs:aK s) (hn:ao n) (hd:ao d):nH (fu s.a.x s.b.x n d) (fu s.a.y s.b.y n d) (W d.toNat)=ca s n d:=by
 obtain ⟨⟨a1,a2,a3,a4⟩,⟨b1,b2,b3,b4⟩,_⟩:=hs
 rw [Dx ⟨a1,a2⟩ ⟨b1,b2⟩ hn hd,Dx ⟨a3,a4⟩ ⟨b3,b4⟩ hn hd]
 rfl
theorem K0 (s:bJ) (n d:Int) (w:World) (hs:aK s) (hn:ao n) (hd:ao d) (hok:LO n d):Calls Tryz.prog 105 #[.agg (bD s).toArray,.int .i64 n,.int .i64 d] w fun e w'=>e=.returned (.tuple #[.agg (bF (ca s n d)).toArray,.int .i64 0])∧Below w.heap.size w w':=by
 rw [← KZ hs hn hd]
 exact KY s n d w hs hn hd hok
instance Ym (s:bJ) (n d:Int):bj Tryz.prog 105 #[.agg (bD s).toArray,.int .i64 n,.int .i64 d] Unit (fun _ _=>aK s∧ao n∧ao d∧LO n d) (fun _=>.tuple #[.agg (bF (ca s n d)).toArray,.int .i64 0]):=⟨fun _ w ⟨h1,h2,h3,h4⟩=>K0 s n d w h1 h2 h3 h4⟩
theorem I7 (n d:Int):LO (nP n d) (ky n d):=by
 unfold nP ky
 by_cases h:LO n d
 ·rw [if_pos h,if_pos h]
  obtain ⟨h1,h2,h3⟩:=h
  have hg:(0:Int)<(Int.gcd n d:Nat):=by
   have:=Int.gcd_pos_of_ne_zero_right n (show d≠0 by omega)
   omega
  have hdv:((Int.gcd n d:Nat):Int) ∣ d:=Int.gcd_dvd_right ..
  obtain ⟨k,hk⟩:=hdv
  have hk0:0<k:=by
   rcases Int.lt_or_le 0 k with h|h
   ·exact h
   ·have:=Int.mul_nonpos_of_nonneg_of_nonpos (Int.le_of_lt hg) h
    omega
  refine ⟨Int.ediv_nonneg h1 (Int.le_of_lt hg),?_,Int.ediv_le_ediv hg h3⟩
  have e:d / (Int.gcd n d:Nat)=k:=Int.ediv_eq_of_eq_mul_right xj hk
  omega
 ·rw [if_neg h,if_neg h]
  exact ⟨by omega,by omega,by omega⟩
theorem Yn {n d:Int} (hd:ao d):ao (nP n d)∧ao (ky n d):=by
 have hk:=I7 n d
 obtain ⟨k1,k2,k3⟩:=hk
 have hle:ky n d≤9223372036854775807:=by
  unfold ky
  split
  ·rename_i h
   have h2:=h.2.1
   have:=Int.ediv_le_self ((Int.gcd n d:Nat):Int) (show 0≤d by omega)
   have:=hd.2
   omega
  ·omega
 exact ⟨⟨by omega,by omega⟩,⟨by omega,hle⟩⟩
def eO (c:Ct):List Value:=[.int .i64 c.n,.int .i64 c.d]++bF c.s
attribute [local irreducible] aq oT ca nP ky in
set_option maxHeartbeats 4000000 in
theorem Ty (s:bJ) (n d:Int) (w:World) (hs:aK s) (hn:ao n) (hd:ao d):Calls Tryz.prog 63 #[.agg (bD s).toArray,.int .i64 n,.int .i64 d] w fun e w'=>e=.returned (.agg (eO (bT s n d)).toArray)∧Below w.heap.size w w':=by
 have hM:=R.Own.start [] w
 have hk:=I7 n d
 obtain ⟨l1,l2⟩:=Yn (n:=n) hd
 refine aa (fn:=Tryz.f63) Tryz.func63 rfl Tryz.ntmps63 (Nat.le_of_ble_eq_true rfl) ?_
 (refine ad ?_;(repeat' first|refine And.intro ?_ ?_|intro _);all_goals refine ah.mk ?_;(all_goals (try (exact ⟨rfl,R.Own.below ww⟩))))
instance ZJ (s:bJ) (n d:Int):bj Tryz.prog 63 #[.agg (bD s).toArray,.int .i64 n,.int .i64 d] Unit (fun _ _=>aK s∧ao n∧ao d) (fun _=>.agg (eO (bT s n d)).toArray):=⟨fun _ w ⟨h1,h2,h3⟩=>Ty s n d w h1 h2 h3⟩
end Go.Proofs.YtlmabdegojeheaaGreatDoor
