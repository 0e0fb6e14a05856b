/- WholeTurned: parts of its proof (Wide7 Wide9 Own3). -/
import Derived.Test.YtlmabdegojeheaaGreatDoorWNum2Wide3
import Derived.Test.YtlmabdegojeheaaGreatDoorOwn2Shelf
namespace Go.Proofs.YtlmabdegojeheaaGreatDoor
open R Go.RowKit
section
theorem nM (x r:Nat):aw ((x:Int)*2 ^ ((r:Nat):Int).toNat)=((x*2 ^ r % 18446744073709551616:Nat):Int):=by
 unfold aw
 rw [Int.toNat_natCast,Int.natCast_emod,Int.natCast_mul,Int.natCast_pow]
 rfl
theorem re (x r:Nat) (i:Int) (hi:i.toNat=r):((x:Nat):Int) / 2 ^ i.toNat=((x / 2 ^ r:Nat):Int):=by
 rw [hi]
 push_cast
 rfl
theorem Hh (i x y:Nat) (hx:x % 2 ^ i=0) (hx1:x<18446744073709551616) (hy:y<2 ^ i) (hy1:y<18446744073709551616):bits .or .u64 (x:Int) (y:Int)=((x+y:Nat):Int):=by
 rw [u64_or i (x:Int) (y:Int) (Int.natCast_nonneg _) (by exact_mod_cast hx) xj (Int.natCast_nonneg _) (by exact_mod_cast hy) xj,Int.natCast_add]
theorem ER (x r:Nat) (hr:r≤64):x*2 ^ r % 18446744073709551616 % 2 ^ r=0:=by
 rw [show 18446744073709551616=2 ^ r*2 ^ (64-r) by rw [← Nat.pow_add,show r+(64-r)=64 by omega],Nat.mod_mul_right_mod,Nat.mul_mod_left]
theorem Jy (y r:Nat) (hr:r≤64) (hy:y<18446744073709551616):y / 2 ^ (64-r)<2 ^ r:=by
 refine Nat.div_lt_of_lt_mul ?_
 rw [← Nat.pow_add,show 64-r+r=64 by omega]
 exact hy
set_option maxHeartbeats 2000000 in
theorem LD (a n:Nat) (hn:n≤512) (w:World) :
  Calls Tryz.prog 289 #[.agg (ee a).toArray,.int .i64 (n:Nat)] w fun e w'=>e=.returned (.agg (ee (a*2 ^ n % aq)).toArray)∧Below w.heap.size w w':=by
 refine aa (fn:=Tryz.f289) Tryz.func289 rfl Tryz.ntmps289 (Nat.le_of_ble_eq_true rfl) ?_
 (refine R.st ?_;(repeat' first|refine And.intro ?_ ?_|intro _);all_goals refine ah.mk ?_)
 refine au (fun k:Nat=>[(2,.pointer (some ⟨w.heap.size,0,none⟩)),(4,.pointer (some ⟨w.heap.size+1,0,none⟩)),(5,.pointer (some ⟨w.heap.size+2,0,none⟩)),(6,.int .i64 (n / 64:Nat)),(7,.int .i64 (n % 64:Nat)),(8,.int .i64 (k:Nat))])
  (fun k w1=>k≤8∧n / 64≤k∧WB w1 w.heap.size a∧WB w1 (w.heap.size+1) 0∧WB w1 (w.heap.size+2) (a*2 ^ n % 2 ^ (64*k))∧Below w.heap.size w w1) (fun k=>8-k)
  ⟨n / 64,⟨rfl,p6 rfl (by simp),p6 rfl (by simp),aF rfl xj,aF rfl xj,aF rfl xj,trivial⟩,by omega,by omega,?_⟩ ?_
 ·have hz:a*2 ^ n % 2 ^ (64*(n / 64))=0:=Nat.mod_eq_zero_of_dvd (Nat.dvd_trans (Nat.pow_dvd_pow 2 xj) (Nat.dvd_mul_left _ _))
  rw [hz]
  exact ⟨((WB.sB rfl).alloc _).alloc _,(WB.nL (by simp)).alloc _,WB.nL (by simp),((((Below.refl _ w).alloc (Nat.le_refl _) _).alloc (by simp) _).alloc (by simp;omega) _)⟩
 rintro k f w1 ⟨hk,hq,b0,b1,b2,hb⟩
 by_cases hlt:k<8
 ·have hsh:=PU a (n / 64) (n % 64) k (Nat.mod_lt _ vj) hq
  rw [Nat.div_add_mod] at hsh
  have c0:=b0.fz (i:=(k:Int)-(n / 64:Nat)) (k:=k-n / 64) xj xj
  have hw:=gb a (k-n / 64)
  (refine R.st ?_;(repeat' first|refine And.intro ?_ ?_|intro _);all_goals refine ah.mk ?_)
  rw [nM]
  by_cases hone:n % 64=0∨k=n / 64
  ·have hval:wd a (k-n / 64)*2 ^ (n % 64) % 18446744073709551616=wd (a*2 ^ n) k:=by
    rw [hsh]
    rcases hone with h|h
    ·rw [h,Nat.sub_zero]
     split
     ·rfl
     ·have:=gb a (k-n / 64-1)
      rw [Nat.div_eq_of_lt (show wd a (k-n / 64-1)<2 ^ 64 from this)]
      rfl
    ·rw [if_pos h]
     rfl
   rw [hval]
   refine fb rfl rfl rfl b2 (k:=k) xj hlt (m:=a*2 ^ n % 2 ^ (64*(k+1))) (by rw [jQ]) (iA _ _) fun w2 d2 far bel=>?_
   clear hsh hval c0 hw
   rcases hone with h|h
   all_goals (refine R.st ?_;(repeat' first|refine And.intro ?_ ?_|intro _);all_goals refine ah.mk ?_)
   all_goals exact ⟨k+1,⟨rfl,rfl,rfl,rfl,rfl,aF rfl xj,trivial⟩,⟨by omega,by omega,far _ _ xj b0,far _ _ xj b1,d2,hb.trans (bel _ xj)⟩,by omega⟩
  ·refine fb rfl rfl rfl b2 (k:=k) xj hlt (m:=kH (a*2 ^ n % 2 ^ (64*k)) k (wd a (k-n / 64)*2 ^ (n % 64) % 18446744073709551616)) (by rw [jP (by omega)]) (fun j _ hj=>oG xj hj) fun w2 d2 far bel=>?_
   have e0:=far _ _ xj b0
   have e1:=far _ _ xj b1
   have hB:=hb.trans (bel _ xj)
   have c2:=d2.fz (i:=(k:Int)) (k:=k) xj hlt
   have c3:=e0.fz (i:=(k:Int)-(n / 64:Nat)-1) (k:=k-n / 64-1) xj xj
   (refine R.st ?_;(repeat' first|refine And.intro ?_ ?_|intro _);all_goals refine ah.mk ?_)
   refine nZ (fun w3=>WB w3 w.heap.size a) [(0,false),(1,false),(3,false),(4,false),(5,false),(6,false),(7,false),(8,false),(9,false),(10,false),(11,false),(2,true),(12,false),(13,false),(14,true)] R.mixed wx ?_ ?_
   ·exact e0.drew
   have c4:=c2
   rw [← sC] at c4
   ((refine R.st ?_;(repeat' first|refine And.intro ?_ ?_|intro _);all_goals refine ah.mk ?_);all_goals repeat' ((first|((with_reducible refine aN ?_);first|((with_reducible refine bM ?_);refine bu rfl rfl (by first|assumption|exact hS.fz (i:=(k:Int)-(n / 64:Nat)-1) (k:=k-n / 64-1) xj xj) ?_))|((with_reducible refine gJ ?_);first|(refine' FT rfl rfl ?_ ?_ (fun hS=>?_);rotate_left;(intro w0 hS;((with_reducible refine aN ?_);first|((with_reducible refine bM ?_);refine bu rfl rfl (by first|assumption|exact hS.fz (i:=(k:Int)-(n / 64:Nat)-1) (k:=k-n / 64-1) xj xj) ?_));exact ⟨rfl,rfl⟩);rfl)|(refine' CX rfl rfl rfl rfl ?_ ?_ (fun hS=>?_);rotate_left;(intro w0 hS;((with_reducible refine aN ?_);first|((with_reducible refine bM ?_);refine bu rfl rfl (by first|assumption|exact hS.fz (i:=(k:Int)-(n / 64:Nat)-1) (k:=k-n / 64-1) xj xj) ?_));exact ⟨rfl,rfl⟩);rfl)));(refine R.st ?_;(repeat' first|refine And.intro ?_ ?_|intro _);all_goals refine ah.mk ?_)))
   refine ⟨hS,?_⟩
   ((refine R.st ?_;(repeat' first|refine And.intro ?_ ?_|intro _);all_goals refine ah.mk ?_);all_goals repeat' ((first|((with_reducible refine aN ?_);first|((with_reducible refine bM ?_);refine bu rfl rfl (by first|assumption|exact hS.fz (i:=(k:Int)-(n / 64:Nat)-1) (k:=k-n / 64-1) xj xj) ?_))|((with_reducible refine gJ ?_);first|(refine' FT rfl rfl ?_ ?_ (fun hS=>?_);rotate_left;(intro w0 hS;((with_reducible refine aN ?_);first|((with_reducible refine bM ?_);refine bu rfl rfl (by first|assumption|exact hS.fz (i:=(k:Int)-(n / 64:Nat)-1) (k:=k-n / 64-1) xj xj) ?_));exact ⟨rfl,rfl⟩);rfl)|(refine' CX rfl rfl rfl rfl ?_ ?_ (fun hS=>?_);rotate_left;(intro w0 hS;((with_reducible refine aN ?_);first|((with_reducible refine bM ?_);refine bu rfl rfl (by first|assumption|exact hS.fz (i:=(k:Int)-(n / 64:Nat)-1) (k:=k-n / 64-1) xj xj) ?_));exact ⟨rfl,rfl⟩);rfl)));(refine R.st ?_;(repeat' first|refine And.intro ?_ ?_|intro _);all_goals refine ah.mk ?_)))
   have hw2:=gb a (k-n / 64-1)
   have hdl:=Nat.div_le_self (wd a (k-n / 64-1)) (2 ^ (64-n % 64))
   refine fb rfl rfl rfl d2.drew (k:=k) xj hlt (m:=a*2 ^ n % 2 ^ (64*(k+1))) ?_ (fun j h1 h2=>by rw [oG xj h2];exact iA _ _ j h1 h2) fun w4 d4 far2 bel2=>?_
   ·rw [jP xj,re _ (64-n % 64) _ xj,Hh (n % 64) _ _ (ER _ _ xj) xj (Jy _ _ xj hw2) xj,jQ,hsh,if_neg (by omega)]
   refine ⟨far2 _ _ xj e0.drew,?_⟩
   (refine R.st ?_;(repeat' first|refine And.intro ?_ ?_|intro _);all_goals refine ah.mk ?_)
   exact ⟨k+1,⟨rfl,rfl,rfl,rfl,rfl,aF rfl xj,trivial⟩,⟨by omega,by omega,far2 _ _ xj e0.drew,far2 _ _ xj e1.drew,d4,hB.drew.trans (bel2 _ xj)⟩,by omega⟩
 ·obtain rfl:k=8:=by omega
  rw [gQ 8] at b2
  (refine R.st ?_;(repeat' first|refine And.intro ?_ ?_|intro _);all_goals refine ah.mk ?_)
  refine bP rfl rfl rfl b2.row ?_
  (refine R.st ?_;(repeat' first|refine And.intro ?_ ?_|intro _);all_goals refine ah.mk ?_)
  refine dm rfl rfl rfl (fJ _) b1 (eC _ _) (fq _) ?_
  (refine R.st ?_;(repeat' first|refine And.intro ?_ ?_|intro _);all_goals refine ah.mk ?_)
  refine M4 (.inl rfl) rfl rfl rfl (b1.iJ _).row ?_
  exact ⟨rfl,hb.trans (eD xj _)⟩
end
section
theorem Hk {k m:Nat} (h:64*k≤m):fI k≤2 ^ m:=Nat.pow_le_pow_right xj h
theorem LF (x r:Nat) (i:Int) (hi:i.toNat=r):aw ((x:Int)*2 ^ i.toNat)=((x*2 ^ r % 18446744073709551616:Nat):Int):=by
 have h:=nM x r
 rw [Int.toNat_natCast] at h
 rw [hi]
 exact h
theorem ES (x y:Nat) (hx:x<18446744073709551616) (hy:y<18446744073709551616):bits .or .u64 (y:Int) (x:Int)=bits .or .u64 (x:Int) (y:Int):=by
 rw [(bits_nat .u64 64 vj l7 y x hy hx).2,(bits_nat .u64 64 vj l7 x y hx hy).2,Nat.or_comm]
set_option maxHeartbeats 2000000 in
theorem Hl (a n:Nat) (ha:a<aq) (hn:n≤512) (w:World) :
  Calls Tryz.prog 288 #[.agg (ee a).toArray,.int .i64 (n:Nat)] w fun e w'=>e=.returned (.agg (ee (a / 2 ^ n)).toArray)∧Below w.heap.size w w':=by
 refine aa (fn:=Tryz.f288) Tryz.func288 rfl Tryz.ntmps288 (Nat.le_of_ble_eq_true rfl) ?_
 (refine R.st ?_;(repeat' first|refine And.intro ?_ ?_|intro _);all_goals refine ah.mk ?_)
 refine au (fun k:Nat=>[(2,.pointer (some ⟨w.heap.size,0,none⟩)),(4,.pointer (some ⟨w.heap.size+1,0,none⟩)),(5,.pointer (some ⟨w.heap.size+2,0,none⟩)),(6,.int .i64 (n / 64:Nat)),(7,.int .i64 (n % 64:Nat)),(14,.int .i64 ((8-n / 64:Nat):Nat)),(15,.int .i64 (k:Nat))])
  (fun k w1=>k+n / 64≤8∧WB w1 w.heap.size a∧WB w1 (w.heap.size+1) 0∧WB w1 (w.heap.size+2) (a / 2 ^ n % 2 ^ (64*k))∧Below w.heap.size w w1) (fun k=>8-k)
  ⟨0,⟨rfl,p6 rfl (by simp),p6 rfl (by simp),aF rfl xj,aF rfl xj,aF rfl xj,rfl,trivial⟩,by omega,?_⟩ ?_
 ·rw [oI]
  exact ⟨((WB.sB rfl).alloc _).alloc _,(WB.nL (by simp)).alloc _,WB.nL (by simp),((((Below.refl _ w).alloc (Nat.le_refl _) _).alloc (by simp) _).alloc (by simp;omega) _)⟩
 rintro k f w1 ⟨hk,b0,b1,b2,hb⟩
 by_cases hlt:k+n / 64<8
 ·have hsh:=PV a (n / 64) (n % 64) k (Nat.mod_lt _ vj)
  rw [Nat.div_add_mod] at hsh
  have c0:=b0.fz (i:=(k:Int)+(n / 64:Nat)) (k:=k+n / 64) xj xj
  have hw:=gb a (k+n / 64)
  have hdl:=Nat.div_le_self (wd a (k+n / 64)) (2 ^ (n % 64))
  (refine R.st ?_;(repeat' first|refine And.intro ?_ ?_|intro _);all_goals refine ah.mk ?_)
  rw [re _ (n % 64) _ (by omega)]
  by_cases hone:n % 64=0∨¬ k+n / 64+1<8
  ·have hval:wd a (k+n / 64) / 2 ^ (n % 64)=wd (a / 2 ^ n) k:=by
    rw [hsh]
    rcases hone with h|h
    ·rw [h,Nat.sub_zero,show (2:Nat) ^ 64=18446744073709551616 by decide,Nat.mul_mod_left]
     rfl
    ·rw [EO (k:=k+n / 64+1) (Nat.lt_of_lt_of_le ha (vy (k:=8) xj)),Nat.zero_mul]
     rfl
   rw [hval]
   refine fb rfl rfl rfl b2 (k:=k) xj xj (m:=a / 2 ^ n % 2 ^ (64*(k+1))) (by rw [jQ]) (iA _ _) fun w2 d2 far bel=>?_
   clear hsh hval c0 hw hdl
   rcases hone with h|h
   all_goals (refine R.st ?_;(repeat' first|refine And.intro ?_ ?_|intro _);all_goals refine ah.mk ?_)
   all_goals exact ⟨k+1,⟨rfl,rfl,rfl,rfl,rfl,rfl,aF rfl xj,trivial⟩,⟨by omega,far _ _ xj b0,far _ _ xj b1,d2,hb.trans (bel _ xj)⟩,by omega⟩
  ·refine fb rfl rfl rfl b2 (k:=k) xj xj (m:=kH (a / 2 ^ n % 2 ^ (64*k)) k (wd a (k+n / 64) / 2 ^ (n % 64))) (by rw [jP (by omega)]) (fun j _ hj=>oG xj hj) fun w2 d2 far bel=>?_
   have e0:=far _ _ xj b0
   have e1:=far _ _ xj b1
   have hB:=hb.trans (bel _ xj)
   have c2:=d2.fz (i:=(k:Int)) (k:=k) xj xj
   (refine R.st ?_;(repeat' first|refine And.intro ?_ ?_|intro _);all_goals refine ah.mk ?_)
   refine nZ (fun w3=>WB w3 w.heap.size a) [(0,false),(1,false),(3,false),(4,false),(5,false),(6,false),(7,false),(8,false),(9,false),(10,false),(11,false),(2,true),(12,false),(13,false),(14,true)] R.mixed wx ?_ ?_
   ·exact e0.drew
   have c4:=c2
   rw [← sC] at c4
   ((refine R.st ?_;(repeat' first|refine And.intro ?_ ?_|intro _);all_goals refine ah.mk ?_);all_goals repeat' ((first|((with_reducible refine aN ?_);first|((with_reducible refine bM ?_);refine bu rfl rfl (by first|assumption|exact hS.fz (i:=(k:Int)+(n / 64:Nat)+1) (k:=k+n / 64+1) xj xj) ?_))|((with_reducible refine gJ ?_);first|(refine' FT rfl rfl ?_ ?_ (fun hS=>?_);rotate_left;(intro w0 hS;((with_reducible refine aN ?_);first|((with_reducible refine bM ?_);refine bu rfl rfl (by first|assumption|exact hS.fz (i:=(k:Int)+(n / 64:Nat)+1) (k:=k+n / 64+1) xj xj) ?_));exact ⟨rfl,rfl⟩);rfl)|(refine' CX rfl rfl rfl rfl ?_ ?_ (fun hS=>?_);rotate_left;(intro w0 hS;((with_reducible refine aN ?_);first|((with_reducible refine bM ?_);refine bu rfl rfl (by first|assumption|exact hS.fz (i:=(k:Int)+(n / 64:Nat)+1) (k:=k+n / 64+1) xj xj) ?_));exact ⟨rfl,rfl⟩);rfl)));(refine R.st ?_;(repeat' first|refine And.intro ?_ ?_|intro _);all_goals refine ah.mk ?_)))
   refine ⟨hS,?_⟩
   ((refine R.st ?_;(repeat' first|refine And.intro ?_ ?_|intro _);all_goals refine ah.mk ?_);all_goals repeat' ((first|((with_reducible refine aN ?_);first|((with_reducible refine bM ?_);refine bu rfl rfl (by first|assumption|exact hS.fz (i:=(k:Int)+(n / 64:Nat)+1) (k:=k+n / 64+1) xj xj) ?_))|((with_reducible refine gJ ?_);first|(refine' FT rfl rfl ?_ ?_ (fun hS=>?_);rotate_left;(intro w0 hS;((with_reducible refine aN ?_);first|((with_reducible refine bM ?_);refine bu rfl rfl (by first|assumption|exact hS.fz (i:=(k:Int)+(n / 64:Nat)+1) (k:=k+n / 64+1) xj xj) ?_));exact ⟨rfl,rfl⟩);rfl)|(refine' CX rfl rfl rfl rfl ?_ ?_ (fun hS=>?_);rotate_left;(intro w0 hS;((with_reducible refine aN ?_);first|((with_reducible refine bM ?_);refine bu rfl rfl (by first|assumption|exact hS.fz (i:=(k:Int)+(n / 64:Nat)+1) (k:=k+n / 64+1) xj xj) ?_));exact ⟨rfl,rfl⟩);rfl)));(refine R.st ?_;(repeat' first|refine And.intro ?_ ?_|intro _);all_goals refine ah.mk ?_)))
   have hw2:=gb a (k+n / 64+1)
   refine fb rfl rfl rfl d2.drew (k:=k) xj xj (m:=a / 2 ^ n % 2 ^ (64*(k+1))) ?_ (fun j h1 h2=>by rw [oG xj h2];exact iA _ _ j h1 h2) fun w4 d4 far2 bel2=>?_
   ·have hl:=ER (wd a (k+n / 64+1)) (64-n % 64) xj
    have hh:=Jy (wd a (k+n / 64)) (64-n % 64) xj hw
    rw [show 64-(64-n % 64)=n % 64 by omega] at hh
    rw [jP xj,LF _ (64-n % 64) _ xj,ES _ _ (Nat.mod_lt _ xj) xj,Hh (64-n % 64) _ _ hl (Nat.mod_lt _ xj) hh xj,jQ,hsh,Nat.add_comm]
   refine ⟨far2 _ _ xj e0.drew,?_⟩
   (refine R.st ?_;(repeat' first|refine And.intro ?_ ?_|intro _);all_goals refine ah.mk ?_)
   exact ⟨k+1,⟨rfl,rfl,rfl,rfl,rfl,rfl,aF rfl xj,trivial⟩,⟨by omega,far2 _ _ xj e0.drew,far2 _ _ xj e1.drew,d4,hB.drew.trans (bel2 _ xj)⟩,by omega⟩
 ·have hend:a / 2 ^ n % 2 ^ (64*k)=a / 2 ^ n:=by
   refine Nat.mod_eq_of_lt (Nat.div_lt_of_lt_mul ?_)
   rw [← Nat.pow_add]
   exact Nat.lt_of_lt_of_le ha (Hk (k:=8) xj)
  rw [hend] at b2
  (refine R.st ?_;(repeat' first|refine And.intro ?_ ?_|intro _);all_goals refine ah.mk ?_)
  refine bP rfl rfl rfl b2.row ?_
  (refine R.st ?_;(repeat' first|refine And.intro ?_ ?_|intro _);all_goals refine ah.mk ?_)
  refine dm rfl rfl rfl (fJ _) b1 (eC _ _) (fq _) ?_
  (refine R.st ?_;(repeat' first|refine And.intro ?_ ?_|intro _);all_goals refine ah.mk ?_)
  refine M4 (.inl rfl) rfl rfl rfl (b1.iJ _).row ?_
  exact ⟨rfl,hb.trans (eD xj _)⟩
end
theorem R.rg {P:Prop} (h:P:=by with_reducible first|assumption|exact Nat.mod_lt _ bK|exact Gj _ _|exact fV xj|exact wtwo xj|exact bK):P:=h
theorem R.hm {P:Prop} (h:P:=by first|assumption|exact b8.drew ww):P:=h
theorem R.mm {P:Prop} (h:P:=by repeat (first|exact List.Mem.head _|apply List.Mem.tail)):P:=h
theorem R.ss {P:Prop} (h:P:=by repeat (first|exact R.Sets.head|apply R.Sets.tail)):P:=h
def shC (a:Nat) (c:Int):Nat:=if c<0 then a / 2 ^ (-c).toNat else a*2 ^ c.toNat % aq
theorem LG (a:Nat) (i:Int) (h0:0≤i) (h1:i≤512) (w:World):Calls Tryz.prog 289 #[.agg (ee a).toArray,.int .i64 i] w fun e w'=>e=.returned (.agg (ee (a*2 ^ i.toNat % aq)).toArray)∧Below w.heap.size w w':=by
 have:=LD a i.toNat xj w
 rw [Int.toNat_of_nonneg h0] at this
 exact this
theorem Hm (a:Nat) (ha:a<aq) (i:Int) (h0:0≤i) (h1:i≤512) (w:World):Calls Tryz.prog 288 #[.agg (ee a).toArray,.int .i64 i] w fun e w'=>e=.returned (.agg (ee (a / 2 ^ i.toNat)).toArray)∧Below w.heap.size w w':=by
 have:=Hl a i.toNat ha xj w
 rw [Int.toNat_of_nonneg h0] at this
 exact this
theorem Hn (a:Nat) (by_:Int) (ha:a<aq) (w:World) :
  Calls Tryz.prog 234 #[.agg (ee a).toArray,.int .i64 by_] w fun e w'=>e=.returned (.agg (ee (shC a (min (max by_ (-512)) 512))).toArray)∧Below w.heap.size w w':=by
 have hM:=b8.start w
 refine aa (fn:=Tryz.f234) Tryz.func234 rfl Tryz.ntmps234 (Nat.le_of_ble_eq_true rfl) ?_
 (repeat' (first|((with_reducible refine aN ?_);first|((with_reducible refine ff ?_);first|(refine ar rfl rfl vv vv ?_;refine (qX _ _ R.rg R.rg _).mono ?_;rintro e w1 ⟨rfl,hb1⟩;have hM:=b8.call hM hb1;refine ⟨_,rfl,?_⟩)|(refine ar rfl rfl vv vv ?_;refine (qY _ _ R.rg R.rg _).mono ?_;rintro e w1 ⟨rfl,hb1⟩;have hM:=b8.call hM hb1;refine ⟨_,rfl,?_⟩)|(refine ar rfl rfl vv vv ?_;refine (ra _ _ R.rg R.rg _).mono ?_;rintro e w1 ⟨rfl,hb1⟩;have hM:=b8.call hM hb1;refine ⟨_,rfl,?_⟩)|(refine ar rfl rfl vv vv ?_;refine (qZ _ _ R.rg R.rg _).mono ?_;rintro e w1 ⟨rfl,hb1⟩;have hM:=b8.call hM hb1;refine ⟨_,rfl,?_⟩)|(refine aA rfl rfl vv ?_;refine (q7 _ R.rg _).mono ?_;rintro e w1 ⟨rfl,hb1⟩;have hM:=b8.call hM hb1;refine ⟨_,rfl,?_⟩)|(refine aA rfl rfl vv ?_;refine (oJ _ R.rg _).mono ?_;rintro e w1 ⟨rfl,hb1⟩;have hM:=b8.call hM hb1;refine ⟨_,rfl,?_⟩)|(refine aA rfl rfl vv ?_;refine (wof_call _ R.u64 _).mono ?_;rintro e w1 ⟨n1,hn1,rfl,hb1⟩;have hM:=b8.call hM hb1;refine ⟨_,rfl,?_⟩)|(refine ar rfl rfl vv vv ?_;refine (q8 _ _ _).mono ?_;rintro e w1 ⟨rfl,hb1⟩;have hM:=b8.call hM hb1;refine ⟨_,rfl,?_⟩)|(refine gL rfl rfl ?_;refine (awake03 _).mono ?_;rintro e w1 ⟨rfl,hb1⟩;have hM:=b8.call hM hb1;refine ⟨_,rfl,?_⟩))|((with_reducible refine fG ?_);first|refine sE rfl R.hm (fun w1 hM=>?_)|refine og rfl R.hm (fun w1 hM=>?_))|((with_reducible refine pg ?_);first|refine vr rfl rfl R.hm (fun w1 hM=>?_)|refine R.WO_boxMI rfl rfl R.hm (fun w1 hM=>?_)|refine R.WO_boxMB rfl rfl R.hm (fun w1 hM=>?_)|refine R.WO_boxMS rfl rfl R.hm (fun w1 hM=>?_))|((with_reducible refine bM ?_);first|refine bu rfl rfl ww ?_|refine rS rfl rfl R.hm mm Zk ?_|refine R.WO_loadM rfl rfl rfl R.hm mm Zk ?_)|((with_reducible refine gM ?_);first|refine pq rfl rfl rfl R.hm ss Zk Zk (by first|exact fq _|rfl) (fun w1 hM=>?_)|refine R.WO_storeM rfl rfl rfl rfl rfl R.hm ss vj (fun w1 hM=>?_))|((with_reducible refine gP ?_);first|refine WO_buildW0g rfl (fun n1 hn1=>?_)|refine WO_buildW1g rfl rfl R.u64 (fun n1 hn1=>?_)|refine WO_buildW2g rfl rfl rfl R.u64 R.u64 (fun n1 hn1=>?_))|((with_reducible refine jf ?_);first|refine WO_eqlWt rfl rfl rfl R.rg R.rg (by with_reducible first|rfl|assumption|omega|(subst_vars;assumption)) ?_|refine ug rfl rfl rfl R.rg R.rg ?_)|((with_reducible refine k8 ?_);refine WO_neqW rfl rfl rfl R.rg R.rg ?_)|refine KM ov ?_)|((with_reducible refine lG ?_);first|((with_reducible refine xQ ?_);first|refine rK rfl rfl rfl ?_|refine rL rfl rfl ?_)|((with_reducible refine rO ?_);refine cm ?_))|((with_reducible refine lH ?_);first|(with_reducible refine aU ?_)|(with_reducible refine a7 ?_)|((with_reducible refine oe ?_);first|refine dN rfl ?_|refine cM rfl ?_|refine im rfl xj ?_|refine iq rfl xj ?_|refine dq rfl (fun _=>?_) (fun _=>?_)|refine kN rfl (fun _=>?_) (fun _=>?_))|(with_reducible refine cU ?_)|(with_reducible refine d5 ?_)|(with_reducible refine jV ?_)|(with_reducible refine gH ?_)|(with_reducible refine R.WC_label ?_))|((with_reducible refine lI ?_);first|(with_reducible refine aI ?_)|(with_reducible refine jU ?_)|(with_reducible refine fC ?_))|((with_reducible refine lJ ?_);first|(with_reducible refine iE ?_)|(with_reducible refine fN ?_)|refine gG rfl ?_|refine nY rfl ?_)))
 ·rename_i h
  unfold shC
  rw [if_pos h]
  refine ar rfl rfl vv vv ?_
  refine (Hm a ha _ xj xj _).mono ?_
  rintro e w1 ⟨rfl,hb1⟩
  have hM:=b8.call hM hb1
  refine ⟨_,rfl,?_⟩
  (repeat' (first|((with_reducible refine aN ?_);first|((with_reducible refine ff ?_);first|(refine ar rfl rfl vv vv ?_;refine (qX _ _ R.rg R.rg _).mono ?_;rintro e w1 ⟨rfl,hb1⟩;have hM:=b8.call hM hb1;refine ⟨_,rfl,?_⟩)|(refine ar rfl rfl vv vv ?_;refine (qY _ _ R.rg R.rg _).mono ?_;rintro e w1 ⟨rfl,hb1⟩;have hM:=b8.call hM hb1;refine ⟨_,rfl,?_⟩)|(refine ar rfl rfl vv vv ?_;refine (ra _ _ R.rg R.rg _).mono ?_;rintro e w1 ⟨rfl,hb1⟩;have hM:=b8.call hM hb1;refine ⟨_,rfl,?_⟩)|(refine ar rfl rfl vv vv ?_;refine (qZ _ _ R.rg R.rg _).mono ?_;rintro e w1 ⟨rfl,hb1⟩;have hM:=b8.call hM hb1;refine ⟨_,rfl,?_⟩)|(refine aA rfl rfl vv ?_;refine (q7 _ R.rg _).mono ?_;rintro e w1 ⟨rfl,hb1⟩;have hM:=b8.call hM hb1;refine ⟨_,rfl,?_⟩)|(refine aA rfl rfl vv ?_;refine (oJ _ R.rg _).mono ?_;rintro e w1 ⟨rfl,hb1⟩;have hM:=b8.call hM hb1;refine ⟨_,rfl,?_⟩)|(refine aA rfl rfl vv ?_;refine (wof_call _ R.u64 _).mono ?_;rintro e w1 ⟨n1,hn1,rfl,hb1⟩;have hM:=b8.call hM hb1;refine ⟨_,rfl,?_⟩)|(refine ar rfl rfl vv vv ?_;refine (q8 _ _ _).mono ?_;rintro e w1 ⟨rfl,hb1⟩;have hM:=b8.call hM hb1;refine ⟨_,rfl,?_⟩)|(refine gL rfl rfl ?_;refine (awake03 _).mono ?_;rintro e w1 ⟨rfl,hb1⟩;have hM:=b8.call hM hb1;refine ⟨_,rfl,?_⟩))|((with_reducible refine fG ?_);first|refine sE rfl R.hm (fun w1 hM=>?_)|refine og rfl R.hm (fun w1 hM=>?_))|((with_reducible refine pg ?_);first|refine vr rfl rfl R.hm (fun w1 hM=>?_)|refine R.WO_boxMI rfl rfl R.hm (fun w1 hM=>?_)|refine R.WO_boxMB rfl rfl R.hm (fun w1 hM=>?_)|refine R.WO_boxMS rfl rfl R.hm (fun w1 hM=>?_))|((with_reducible refine bM ?_);first|refine bu rfl rfl ww ?_|refine rS rfl rfl R.hm mm Zk ?_|refine R.WO_loadM rfl rfl rfl R.hm mm Zk ?_)|((with_reducible refine gM ?_);first|refine pq rfl rfl rfl R.hm ss Zk Zk (by first|exact fq _|rfl) (fun w1 hM=>?_)|refine R.WO_storeM rfl rfl rfl rfl rfl R.hm ss vj (fun w1 hM=>?_))|((with_reducible refine gP ?_);first|refine WO_buildW0g rfl (fun n1 hn1=>?_)|refine WO_buildW1g rfl rfl R.u64 (fun n1 hn1=>?_)|refine WO_buildW2g rfl rfl rfl R.u64 R.u64 (fun n1 hn1=>?_))|((with_reducible refine jf ?_);first|refine WO_eqlWt rfl rfl rfl R.rg R.rg (by with_reducible first|rfl|assumption|omega|(subst_vars;assumption)) ?_|refine ug rfl rfl rfl R.rg R.rg ?_)|((with_reducible refine k8 ?_);refine WO_neqW rfl rfl rfl R.rg R.rg ?_)|refine KM ov ?_)|((with_reducible refine lG ?_);first|((with_reducible refine xQ ?_);first|refine rK rfl rfl rfl ?_|refine rL rfl rfl ?_)|((with_reducible refine rO ?_);refine cm ?_))|((with_reducible refine lH ?_);first|(with_reducible refine aU ?_)|(with_reducible refine a7 ?_)|((with_reducible refine oe ?_);first|refine dN rfl ?_|refine cM rfl ?_|refine im rfl xj ?_|refine iq rfl xj ?_|refine dq rfl (fun _=>?_) (fun _=>?_)|refine kN rfl (fun _=>?_) (fun _=>?_))|(with_reducible refine cU ?_)|(with_reducible refine d5 ?_)|(with_reducible refine jV ?_)|(with_reducible refine gH ?_)|(with_reducible refine R.WC_label ?_))|((with_reducible refine lI ?_);first|(with_reducible refine aI ?_)|(with_reducible refine jU ?_)|(with_reducible refine fC ?_))|((with_reducible refine lJ ?_);first|(with_reducible refine iE ?_)|(with_reducible refine fN ?_)|refine gG rfl ?_|refine nY rfl ?_)))
  refine aaI (H:=hM) (.inl rfl) rfl rfl mm Zk ?_
  exact ⟨rfl,hM.below⟩
 ·rename_i h
  unfold shC
  rw [if_neg h]
  refine ar rfl rfl vv vv ?_
  refine (LG a _ xj xj _).mono ?_
  rintro e w1 ⟨rfl,hb1⟩
  have hM:=b8.call hM hb1
  refine ⟨_,rfl,?_⟩
  (repeat' (first|((with_reducible refine aN ?_);first|((with_reducible refine ff ?_);first|(refine ar rfl rfl vv vv ?_;refine (qX _ _ R.rg R.rg _).mono ?_;rintro e w1 ⟨rfl,hb1⟩;have hM:=b8.call hM hb1;refine ⟨_,rfl,?_⟩)|(refine ar rfl rfl vv vv ?_;refine (qY _ _ R.rg R.rg _).mono ?_;rintro e w1 ⟨rfl,hb1⟩;have hM:=b8.call hM hb1;refine ⟨_,rfl,?_⟩)|(refine ar rfl rfl vv vv ?_;refine (ra _ _ R.rg R.rg _).mono ?_;rintro e w1 ⟨rfl,hb1⟩;have hM:=b8.call hM hb1;refine ⟨_,rfl,?_⟩)|(refine ar rfl rfl vv vv ?_;refine (qZ _ _ R.rg R.rg _).mono ?_;rintro e w1 ⟨rfl,hb1⟩;have hM:=b8.call hM hb1;refine ⟨_,rfl,?_⟩)|(refine aA rfl rfl vv ?_;refine (q7 _ R.rg _).mono ?_;rintro e w1 ⟨rfl,hb1⟩;have hM:=b8.call hM hb1;refine ⟨_,rfl,?_⟩)|(refine aA rfl rfl vv ?_;refine (oJ _ R.rg _).mono ?_;rintro e w1 ⟨rfl,hb1⟩;have hM:=b8.call hM hb1;refine ⟨_,rfl,?_⟩)|(refine aA rfl rfl vv ?_;refine (wof_call _ R.u64 _).mono ?_;rintro e w1 ⟨n1,hn1,rfl,hb1⟩;have hM:=b8.call hM hb1;refine ⟨_,rfl,?_⟩)|(refine ar rfl rfl vv vv ?_;refine (q8 _ _ _).mono ?_;rintro e w1 ⟨rfl,hb1⟩;have hM:=b8.call hM hb1;refine ⟨_,rfl,?_⟩)|(refine gL rfl rfl ?_;refine (awake03 _).mono ?_;rintro e w1 ⟨rfl,hb1⟩;have hM:=b8.call hM hb1;refine ⟨_,rfl,?_⟩))|((with_reducible refine fG ?_);first|refine sE rfl R.hm (fun w1 hM=>?_)|refine og rfl R.hm (fun w1 hM=>?_))|((with_reducible refine pg ?_);first|refine vr rfl rfl R.hm (fun w1 hM=>?_)|refine R.WO_boxMI rfl rfl R.hm (fun w1 hM=>?_)|refine R.WO_boxMB rfl rfl R.hm (fun w1 hM=>?_)|refine R.WO_boxMS rfl rfl R.hm (fun w1 hM=>?_))|((with_reducible refine bM ?_);first|refine bu rfl rfl ww ?_|refine rS rfl rfl R.hm mm Zk ?_|refine R.WO_loadM rfl rfl rfl R.hm mm Zk ?_)|((with_reducible refine gM ?_);first|refine pq rfl rfl rfl R.hm ss Zk Zk (by first|exact fq _|rfl) (fun w1 hM=>?_)|refine R.WO_storeM rfl rfl rfl rfl rfl R.hm ss vj (fun w1 hM=>?_))|((with_reducible refine gP ?_);first|refine WO_buildW0g rfl (fun n1 hn1=>?_)|refine WO_buildW1g rfl rfl R.u64 (fun n1 hn1=>?_)|refine WO_buildW2g rfl rfl rfl R.u64 R.u64 (fun n1 hn1=>?_))|((with_reducible refine jf ?_);first|refine WO_eqlWt rfl rfl rfl R.rg R.rg (by with_reducible first|rfl|assumption|omega|(subst_vars;assumption)) ?_|refine ug rfl rfl rfl R.rg R.rg ?_)|((with_reducible refine k8 ?_);refine WO_neqW rfl rfl rfl R.rg R.rg ?_)|refine KM ov ?_)|((with_reducible refine lG ?_);first|((with_reducible refine xQ ?_);first|refine rK rfl rfl rfl ?_|refine rL rfl rfl ?_)|((with_reducible refine rO ?_);refine cm ?_))|((with_reducible refine lH ?_);first|(with_reducible refine aU ?_)|(with_reducible refine a7 ?_)|((with_reducible refine oe ?_);first|refine dN rfl ?_|refine cM rfl ?_|refine im rfl xj ?_|refine iq rfl xj ?_|refine dq rfl (fun _=>?_) (fun _=>?_)|refine kN rfl (fun _=>?_) (fun _=>?_))|(with_reducible refine cU ?_)|(with_reducible refine d5 ?_)|(with_reducible refine jV ?_)|(with_reducible refine gH ?_)|(with_reducible refine R.WC_label ?_))|((with_reducible refine lI ?_);first|(with_reducible refine aI ?_)|(with_reducible refine jU ?_)|(with_reducible refine fC ?_))|((with_reducible refine lJ ?_);first|(with_reducible refine iE ?_)|(with_reducible refine fN ?_)|refine gG rfl ?_|refine nY rfl ?_)))
  refine aaI (H:=hM) (.inl rfl) rfl rfl mm Zk ?_
  exact ⟨rfl,hM.below⟩
namespace R
theorem qD {u:Value} {A:Option Addr} {n n' c:Nat} (hu:u=.slice A n c) (h:n=n'):u=.slice A n' c:=h▸hu
def fQ (l:List bX):List Nat:=l.filterMap bX.key
structure Has (w:World) (l:List bX):Prop where
 ok:∀ r∈l,r.ok w
 nodup:(fQ l).Nodup
section
variable {F:List Nat} {W w w':World} {l l' lc lc':List bX} {r r':bX} {A:Option Addr} {n c sz:Nat} {e:TypeId} {cs:List Value}
theorem Own.sa (h:Has w l):Own (fQ l) w w l :=
 ⟨rfl,rfl,rfl,Nat.le_refl _,fun _ _ _=>rfl,h.ok,fun r hr _ hk=>.inr (List.mem_filterMap.2 ⟨r,hr,hk⟩),h.nodup⟩
theorem Own.N3 (h:Own F W w l):Has w l:=⟨h.ok,h.nodup⟩
theorem Own.apart (h:Own F W w (l++lc)) (hr:r∈l) {k:Nat} (hk:r.key=some k):k∉fQ lc:=fun hm=>by
 have hn:=h.nodup
 rw [List.filterMap_append,List.nodup_append] at hn
 exact hn.2.2 k (List.mem_filterMap.2 ⟨r,hr,hk⟩) k hm rfl
theorem Own.ye (h:Own F W w l):∀ k∈fQ l,W.heap.size≤k∨k∈F:=fun k hk=>by
 obtain ⟨r,hr,hr'⟩:=List.mem_filterMap.1 hk
 exact h.own r hr k hr'
theorem Own.N4 (h:Own F W w (l++lc)) (hc:Own (fQ lc) w w' lc'):Own F W w' (l++lc'):=by
 have hlt:∀ k∈fQ lc,k<w.heap.size:=fun k hk=>by
  obtain ⟨r,hr,hr'⟩:=List.mem_filterMap.1 hk
  exact h.lt (List.mem_append_right _ hr) hr'
 have hfrom:∀ k∈fQ lc,W.heap.size≤k∨k∈F:=fun k hk=>by
  obtain ⟨r,hr,hr'⟩:=List.mem_filterMap.1 hk
  exact h.own r (List.mem_append_right _ hr) k hr'
 refine ⟨hc.os.trans h.os,hc.tape.trans h.tape,hc.output.trans h.output,Nat.le_trans h.size hc.size,?_,?_,?_,?_⟩
 ·intro k hk hF
  have:=h.size
  refine (hc.kept k xj fun hm=>?_).trans (h.kept k hk hF)
  rcases hfrom k hm with h1|h1
  ·omega
  ·exact hF h1
 ·intro r hr
  rcases List.mem_append.1 hr with hr|hr
  ·have h0:=h.ok r (List.mem_append_left _ hr)
   have hsame:∀ k,r.key=some k→w'.heap[k]?=w.heap[k]?:=fun k hk=>hc.kept k (h0.lt hk) (h.apart hr hk)
   cases r with
   | blk g t cs=>exact (hsame g rfl).trans h0
   | row A n c e sz cs =>
    refine ⟨h0.1,h0.2.imp id fun ⟨g,cap,cur,h1,h2,h3,h4⟩=>⟨g,cap,cur,h1,h2,(hsame g ?_).trans h3,h4⟩⟩
    injection h1 with hA
    show iG A=_
    rw [hA];rfl
   | map b es c=>exact (hsame b rfl).trans h0
  ·exact hc.ok r hr
 ·intro r hr k hk
  rcases List.mem_append.1 hr with hr|hr
  ·exact h.own r (List.mem_append_left _ hr) k hk
  ·rcases hc.own r hr k hk with h1|h1
   ·have:=h.size
    exact .inl xj
   ·exact hfrom k h1
 ·have hn:=h.nodup
  rw [List.filterMap_append,List.nodup_append] at hn ⊢
  refine ⟨hn.1,hc.nodup,fun a ha b hb=>?_⟩
  obtain ⟨r,hr,hr'⟩:=List.mem_filterMap.1 ha
  obtain ⟨s,hs,hs'⟩:=List.mem_filterMap.1 hb
  have h1:=h.lt (List.mem_append_left _ hr) hr'
  rcases hc.own s hs b hs' with h2|h2
  ·omega
  ·exact hn.2.2 a ha b h2
theorem Own.Ay (h:Own F W w lc) (hc:Own (fQ lc) w w' lc'):Own F W w' lc':=Own.N4 (l:=[]) h hc
end
inductive vJ:List bX→bX→List bX→Prop
 | head {r l}:vJ (r::l) r l
 | tail {p r l l'} (h:vJ l r l'):vJ (p::l) r (p::l')
theorem vJ.perm {l l':List bX} {r:bX} (h:vJ l r l'):(r::l').Perm l:=by
 induction h with
 | head=>exact List.Perm.refl _
 | tail _ ih=>exact (List.Perm.swap _ _ _).trans (ih.cons _)
theorem pk {F:List Nat} {W w:World} {l l':List bX} {r:bX} (hM:Own F W w l) (h:vJ l r l':=by repeat (first|exact vJ.head|apply vJ.tail)):Own F W w (r::l'):=hM.perm h.perm
theorem dr {F:List Nat} {W w:World} {l l':List bX} (r:bX) (hM:Own F W w l) (h:vJ l r l':=by repeat (first|exact vJ.head|apply vJ.tail)):Own F W w l':=(hM.perm h.perm).tl
section
variable {P:Program} {C:bO} {o:Oper} {f:Fr} {w:World} {K:Value→World→Prop} {t u:TypeId} {x y:Operand} {g:Fn} {a c:Array Value}
class Tv (P:Program) (t:TypeId) (T:outParam Type) (enc:outParam (T→List Value)):Prop where
 g:P.eqGuardType P.depth t=false
 h:∀ (a b:T) (d:Nat) (w:World),∃ r,(Op.equalIn (d+9) t (.agg (enc a).toArray) (.agg (enc b).toArray)).run P w=.ok r w∧(r=true↔a=b)
class Iso {T:Type} (enc:T→List Value) (cs:List Value) (x:outParam T):Prop where h:cs=enc x
instance acF {T:Type} (enc:T→List Value) (x:T):Iso enc (enc x) x:=⟨rfl⟩
theorem Az {T:Type} [DecidableEq T] {enc:T→List Value} {cs ds:List Value} {p q:T} (hop:o.op=.binOp .eql t x y u) (hx:ev f x=.agg cs.toArray) (hy:ev f y=.agg ds.toArray) [E:Tv P t T enc] (hp:Iso enc cs p) (hq:Iso enc ds q) (hk:K (.bool (decide (p=q))) w):WO P C o f w K:=by
 refine aO ?_ hk
 obtain ⟨r,h1,h2⟩:=E.h p q 9991 w
 rw [hp.h] at hx
 rw [hq.h] at hy
 simp only [execOp,hop,hx,hy,Sem.run_bind,run_eqGuard_agg w .eql t x y _ _ E.g,Result.andThen_ok,run_eql_struct,h1]
 have:r=decide (p=q):=by rw [Bool.eq_iff_iff,h2];simp
 simp [this]
theorem AA {T:Type} [DecidableEq T] {enc:T→List Value} {cs ds:List Value} {p q:T} (hop:o.op=.binOp .neq t x y u) (hx:ev f x=.agg cs.toArray) (hy:ev f y=.agg ds.toArray) [E:Tv P t T enc] (hp:Iso enc cs p) (hq:Iso enc ds q) (hk:K (.bool (decide (p≠q))) w):WO P C o f w K:=by
 refine aO ?_ hk
 obtain ⟨r,h1,h2⟩:=E.h p q 9991 w
 rw [hp.h] at hx
 rw [hq.h] at hy
 simp only [execOp,hop,hx,hy,Sem.run_bind,run_eqGuard_agg w .neq t x y _ _ E.g,Result.andThen_ok,run_neq_struct,h1]
 have:r=decide (p=q):=by rw [Bool.eq_iff_iff,h2];simp
 simp [this]
end
def il (offs:List (Nat×Nat)):List Value→List (Nat×List Value)→Option (List Value)
 | cs,[]=>some cs
 | cs,(i,v)::l=>match offs[i]? with
  | none=>none
  | some (off,size)=>if v.length=size∧off+size≤cs.length then il offs (cs.take off++(v++cs.drop (off+size))) l else none
theorem ta (offs:List (Nat×Nat)):∀ (l:List (Nat×Value)) (cs:Array Value) (ds:List Value),il offs cs.toList (l.map fun x=>(x.1,x.2.cells.toList))=some ds→Instr.fill (offs[·]?) cs l=some ds.toArray
 | [],cs,ds,h=>by
  simp only [List.map_nil,il,Option.some.injEq] at h
  simp [Instr.fill,← h]
 | (i,v)::l,cs,ds,h=>by
  simp only [List.map_cons,il] at h
  simp only [Instr.fill]
  cases ho:offs[i]? with
  | none=>rw [ho] at h;cases h
  | some p =>
   obtain ⟨off,size⟩:=p
   rw [ho] at h
   simp only at h ⊢
   split at h
   ·rename_i hc
    have h1:v.cells.size=size:=by simpa using hc.1
    have h2:off+size≤cs.size:=by simpa using hc.2
    have hcond:¬ (v.cells.size≠size∨off+v.cells.size > cs.size):=by omega
    have hf:=rY off v.cells.toList 0 cs (by simp [h1];omega)
    have hz:(v.cells.zipIdx.foldl (fun cs (c,j)=>cs.setIfInBounds (off+j) c) cs)=(v.cells.toList.zipIdx 0).foldl (fun cs (c,j)=>cs.setIfInBounds (off+j) c) cs:=by
     rw [← Array.foldl_toList,Array.toList_zipIdx]
    have hb:(decide (v.cells.size≠size)||decide (off+v.cells.size > cs.size))=false:=by simp;omega
    rw [if_neg (by rw [hb];simp)]
    refine ta offs l _ ds ?_
    rw [hz,hf]
    simp only [Nat.add_zero,List.append_assoc,Array.length_toList,h1]
    exact h
   ·cases h
def pw:Nat→List Value→List Value→List Value
 | _,_,[]=>[]
 | n+1,v,c::cs=>c::pw n v cs
 | 0,[],c::cs=>c::cs
 | 0,x::v,_::cs=>x::pw 0 v cs
def ej (offs:List (Nat×Nat)):List Value→List (Nat×List Value)→List Value
 | cs,[]=>cs
 | cs,(i,v)::l=>ej offs (pw (offs.getD i (0,0)).1 v cs) l
def Tw (offs:List (Nat×Nat)) (len:Nat):List (Nat×List Value)→Bool
 | []=>true
 | (i,v)::l=>Nat.blt i offs.length&&Nat.beq v.length (offs.getD i (0,0)).2&&Nat.ble ((offs.getD i (0,0)).1+(offs.getD i (0,0)).2) len&&Tw offs len l
theorem Gv:∀ (off:Nat) (v cs:List Value),off+v.length≤cs.length→pw off v cs=cs.take off++(v++cs.drop (off+v.length))
 | off,v,[],h=>by
  have h1:off=0:=by rw [List.length_nil] at h;omega
  have h2:v=[]:=List.eq_nil_of_length_eq_zero (by rw [List.length_nil] at h;omega)
  subst h1 h2
  rfl
 | n+1,v,c::cs,h=>by
  rw [pw,Gv n v cs (by simp at h;omega),show n+1+v.length=(n+v.length)+1 by omega]
  simp
 | 0,[],c::cs,_=>by simp [pw]
 | 0,x::v,c::cs,h=>by
  rw [pw,Gv 0 v cs (by simp at h ⊢;omega)]
  simp
theorem mF (offs:List (Nat×Nat)):∀ (l:List (Nat×List Value)) (cs:List Value),Tw offs cs.length l=true→il offs cs l=some (ej offs cs l)
 | [],_,_=>rfl
 | (i,v)::l,cs,h=>by
  simp only [Tw,Bool.and_eq_true,Nat.blt_eq,Nat.ble_eq] at h
  obtain ⟨⟨⟨h1,h2⟩,h3⟩,h4⟩:=h
  replace h2:=Nat.eq_of_beq_eq_true h2
  have ho:offs[i]?=some (offs.getD i (0,0)):=by simp [h1]
  simp only [il,ho,ej]
  generalize offs.getD i (0,0)=p at *
  obtain ⟨off,size⟩:=p
  simp only at h2 h3 ⊢
  rw [if_pos ⟨h2,h3⟩,Gv off v cs xj,h2]
  refine mF offs l _ ?_
  rw [← h4]
  congr 1
  simp
  omega
class j5 (P:Program) (t:TypeId) (offs:outParam (List (Nat×Nat))) (z:outParam (List Value)):Prop where
 h:∀ parts,P.built t parts=Instr.fill (offs[·]?) z.toArray parts
def I4 (P:Program) (t:TypeId):Option (List (Nat×Nat)×List Value) :=
 match P.underlying t,P.info? t with
 | some (.struct fs),some it=>match it.zero,fs.toList.mapM (fun f=>(P.info? f.type).map fun i=>(f.offset,i.size)) with
  | some (.agg z),some offs=>some (offs,z.toList)
  | _,_=>none
 | _,_=>none
theorem bG {P:Program} {t:TypeId} {offs:List (Nat×Nat)} {z:List Value} (h:I4 P t=some (offs,z)):j5 P t offs z:=⟨fun parts=>by
 unfold I4 at h
 split at h
 ·rename_i fs it h1 h2
  split at h
  ·rename_i z' offs' h3 h4
   simp only [Option.some.injEq,Prod.mk.injEq] at h
   obtain ⟨rfl,rfl⟩:=h
   unfold Program.built
   rw [h1,h2]
   simp only [h3,h4,Value.cells]
   congr 1
   funext i
   simp
  ·cases h
 ·cases h⟩
section
variable {P:Program} {C:bO} {o:Oper} {f:Fr} {w:World} {K:Value→World→Prop} {t:TypeId}
theorem jO {parts:Array (Nat×Operand)} {offs:List (Nat×Nat)} {z cs:List Value} (vs:List (Nat×Value)) (hop:o.op=.build t parts) [S:j5 P t offs z] (hps:parts.toList.map (fun x=>(x.1,ev f x.2))=vs)
  (hc:il offs z (vs.map fun x=>(x.1,x.2.cells.toList))=some cs) (hk:K (.agg cs.toArray) w):WO P C o f w K:=by
 refine qx hop ?_ hk
 rw [S.h]
 have:=ta offs vs z.toArray cs (by simpa using hc)
 rw [← this]
 congr 1
 rw [← hps]
 simp
theorem mG {offs:List (Nat×Nat)} {z cs:List Value} (hop:o.op=.build t #[]) [j5 P t offs z] (hok:Tw offs z.length []=true) (hc:ej offs z []=cs) (hk:K (.agg cs.toArray) w):WO P C o f w K :=
 jO [] hop (by simp) (by have:=mF offs _ z hok;rw [hc] at this;simpa using this) hk
theorem j6 {i0:Nat} {x0:Operand} {v0:Value} {d0:List Value} {offs:List (Nat×Nat)} {z cs:List Value} (hop:o.op=.build t #[(i0,x0)]) [j5 P t offs z] (h0:ev f x0=v0) (c0:v0.cells=d0.toArray) (hok:Tw offs z.length [(i0,d0)]=true) (hc:ej offs z [(i0,d0)]=cs) (hk:K (.agg cs.toArray) w):WO P C o f w K :=
 jO [(i0,v0)] hop (by simp [h0]) (by have:=mF offs _ z hok;rw [hc] at this;simpa [c0] using this) hk
theorem iv {i0 i1:Nat} {x0 x1:Operand} {v0 v1:Value} {d0 d1:List Value} {offs:List (Nat×Nat)} {z cs:List Value} (hop:o.op=.build t #[(i0,x0),(i1,x1)]) [j5 P t offs z] (h0:ev f x0=v0) (h1:ev f x1=v1) (c0:v0.cells=d0.toArray) (c1:v1.cells=d1.toArray) (hok:Tw offs z.length [(i0,d0),(i1,d1)]=true) (hc:ej offs z [(i0,d0),(i1,d1)]=cs) (hk:K (.agg cs.toArray) w):WO P C o f w K :=
 jO [(i0,v0),(i1,v1)] hop (by simp [h0,h1]) (by have:=mF offs _ z hok;rw [hc] at this;simpa [c0,c1] using this) hk
theorem px {i0 i1 i2:Nat} {x0 x1 x2:Operand} {v0 v1 v2:Value} {d0 d1 d2:List Value} {offs:List (Nat×Nat)} {z cs:List Value} (hop:o.op=.build t #[(i0,x0),(i1,x1),(i2,x2)]) [j5 P t offs z] (h0:ev f x0=v0) (h1:ev f x1=v1) (h2:ev f x2=v2) (c0:v0.cells=d0.toArray) (c1:v1.cells=d1.toArray) (c2:v2.cells=d2.toArray) (hok:Tw offs z.length [(i0,d0),(i1,d1),(i2,d2)]=true) (hc:ej offs z [(i0,d0),(i1,d1),(i2,d2)]=cs) (hk:K (.agg cs.toArray) w):WO P C o f w K :=
 jO [(i0,v0),(i1,v1),(i2,v2)] hop (by simp [h0,h1,h2]) (by have:=mF offs _ z hok;rw [hc] at this;simpa [c0,c1,c2] using this) hk
theorem py {i0 i1 i2 i3:Nat} {x0 x1 x2 x3:Operand} {v0 v1 v2 v3:Value} {d0 d1 d2 d3:List Value} {offs:List (Nat×Nat)} {z cs:List Value} (hop:o.op=.build t #[(i0,x0),(i1,x1),(i2,x2),(i3,x3)]) [j5 P t offs z] (h0:ev f x0=v0) (h1:ev f x1=v1) (h2:ev f x2=v2) (h3:ev f x3=v3) (c0:v0.cells=d0.toArray) (c1:v1.cells=d1.toArray) (c2:v2.cells=d2.toArray) (c3:v3.cells=d3.toArray) (hok:Tw offs z.length [(i0,d0),(i1,d1),(i2,d2),(i3,d3)]=true) (hc:ej offs z [(i0,d0),(i1,d1),(i2,d2),(i3,d3)]=cs) (hk:K (.agg cs.toArray) w):WO P C o f w K :=
 jO [(i0,v0),(i1,v1),(i2,v2),(i3,v3)] hop (by simp [h0,h1,h2,h3]) (by have:=mF offs _ z hok;rw [hc] at this;simpa [c0,c1,c2,c3] using this) hk
theorem pz {i0 i1 i2 i3 i4:Nat} {x0 x1 x2 x3 x4:Operand} {v0 v1 v2 v3 v4:Value} {d0 d1 d2 d3 d4:List Value} {offs:List (Nat×Nat)} {z cs:List Value} (hop:o.op=.build t #[(i0,x0),(i1,x1),(i2,x2),(i3,x3),(i4,x4)]) [j5 P t offs z] (h0:ev f x0=v0) (h1:ev f x1=v1) (h2:ev f x2=v2) (h3:ev f x3=v3) (h4:ev f x4=v4) (c0:v0.cells=d0.toArray) (c1:v1.cells=d1.toArray) (c2:v2.cells=d2.toArray) (c3:v3.cells=d3.toArray) (c4:v4.cells=d4.toArray) (hok:Tw offs z.length [(i0,d0),(i1,d1),(i2,d2),(i3,d3),(i4,d4)]=true) (hc:ej offs z [(i0,d0),(i1,d1),(i2,d2),(i3,d3),(i4,d4)]=cs) (hk:K (.agg cs.toArray) w):WO P C o f w K :=
 jO [(i0,v0),(i1,v1),(i2,v2),(i3,v3),(i4,v4)] hop (by simp [h0,h1,h2,h3,h4]) (by have:=mF offs _ z hok;rw [hc] at this;simpa [c0,c1,c2,c3,c4] using this) hk
theorem t7 {fn:Fn} {y0:Operand} {u0:Value} (hop:o.op=.makeFunc fn #[] #[y0]) (h0:ev f y0=u0) (hk:K (.func fn #[] [u0].toArray) w):WO P C o f w K :=
 aO (by simp [execOp,hop,Instr.makeFunc,h0]) hk
end
end R
end Go.Proofs.YtlmabdegojeheaaGreatDoor
