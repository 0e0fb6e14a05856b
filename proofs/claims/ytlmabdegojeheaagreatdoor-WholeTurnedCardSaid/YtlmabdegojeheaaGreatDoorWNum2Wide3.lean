/- WholeTurned: parts of its proof (WNum2 Wide3). -/
import Derived.Test.YtlmabdegojeheaaGreatDoorNumWide2
import Derived.Laws.Bits64
import Derived.Laws.BitsLemmas
import Derived.Laws.MathBits
import Derived.Lib.BitFns
import Derived.Lib.ItoaNum
import Derived.Test.YtlmabdegojeheaaGreatDoorMemOwn
namespace Go.Proofs.YtlmabdegojeheaaGreatDoor
open R Go.RowKit
section
theorem l7 (n:Int) (h0:0≤n) (h1:n<2 ^ 64):IntKind.u64.wrap n=n:=by rw [IntKind.wrap_u64];omega
theorem PO (x:Int) (h0:0≤x) (h1:x<18446744073709551616):bits .and .u64 x 1=x % 2:=bits_mask .u64 64 vj l7 1 vj x h0 h1
theorem u64_or (i:Nat) (x y:Int) (hx0:0≤x) (hx:x % 2 ^ i=0) (hx1:x<18446744073709551616) (hy0:0≤y) (hy:y<2 ^ i) (hy1:y<18446744073709551616):bits .or .u64 x y=x+y :=
 bits_join .u64 64 vj l7 i x y hx0 hx hx1 hy0 hy hy1
theorem yt (x:Nat) (h:x<2 ^ 64):Lib.bitLen x=bitLen x:=by
 induction x using Nat.strongRecOn with
 | _ x ih =>
  by_cases h0:x=0
  ·subst h0;rfl
  ·rw [Lib.bitLen_half x h0 h,ih (x / 2) xj (by omega)]
   unfold bitLen
   rw [if_neg h0,Nat.log2_def x]
   by_cases h2:2≤x
   ·rw [if_pos h2,if_neg (by omega)];omega
   ·obtain rfl:x=1:=by omega
    simp
theorem EM {x k:Nat} (htop:x / 2 ^ (64*(k+1))=0) (h:wd x k≠0):bitLen x=64*k+bitLen (wd x k):=by
 have e:wd x k=x / 2 ^ (64*k):=by
  unfold wd
  rw [bH,← Nat.div_div_eq_div_mul] at htop
  omega
 rw [e] at h ⊢
 exact bitLen_shift x (64*k) h
def kH (n k s:Nat):Nat:=n % 2 ^ (64*k)+2 ^ (64*k)*(s+18446744073709551616*(n / 2 ^ (64*(k+1))))
theorem LA (n k:Nat):n=n % 2 ^ (64*k)+2 ^ (64*k)*(wd n k+18446744073709551616*(n / 2 ^ (64*(k+1)))):=by
 have h1:=Nat.div_add_mod n (2 ^ (64*(k+1)))
 rw [bQ,bH,Nat.mul_assoc] at h1
 rw [bH,Nat.mul_add]
 omega
theorem PQ (n k s:Nat):kH n k s+2 ^ (64*k)*wd n k=n+2 ^ (64*k)*s:=by
 have h:=LA n k
 unfold kH
 rw [Nat.mul_add] at h ⊢
 omega
theorem PR (n k s:Nat):kH n k s % 2 ^ (64*k)=n % 2 ^ (64*k):=by
 unfold kH
 rw [Nat.add_mul_mod_self_left,Nat.mod_mod]
theorem EN (n k s:Nat):kH n k s / 2 ^ (64*k)=s+18446744073709551616*(n / 2 ^ (64*(k+1))):=by
 unfold kH
 rw [Nat.add_mul_div_left _ _ (Nat.two_pow_pos _),Nat.div_eq_of_lt (Nat.mod_lt _ (Nat.two_pow_pos _)),Nat.zero_add]
theorem yu {n k s:Nat} (hs:s<18446744073709551616):kH n k s / 2 ^ (64*(k+1))=n / 2 ^ (64*(k+1)):=by
 rw [bH,← Nat.div_div_eq_div_mul,EN,← bH]
 omega
theorem jP {n k s:Nat} (hs:s<18446744073709551616):wd (kH n k s) k=s:=by
 unfold wd
 rw [EN]
 omega
theorem uf (n j k:Nat) (h:k≤j):wd n j=wd (n / 2 ^ (64*k)) (j-k):=by
 unfold wd
 rw [Nat.div_div_eq_div_mul,← Nat.pow_add,← Nat.mul_add,Nat.add_sub_cancel' h]
theorem oG {n k s j:Nat} (hs:s<18446744073709551616) (h:j≠k):wd (kH n k s) j=wd n j:=by
 rcases Nat.lt_or_ge j k with hlt|hge
 ·rw [← vx (n:=kH n k s) hlt,PR,vx hlt]
 ·rw [uf (kH n k s) j (k+1) xj,yu hs,← uf n j (k+1) (by omega)]
theorem Jv {n k s m:Nat} (hs:s<18446744073709551616) (hk:k<m) (hn:n<fI m):kH n k s<fI m:=by
 have e:fI m=2 ^ (64*(k+1))*2 ^ (64*(m-(k+1))):=by
  unfold fI
  rw [← Nat.pow_add,← Nat.mul_add,Nat.add_sub_cancel' (by omega)]
 rw [e] at hn ⊢
 have h1:kH n k s / 2 ^ (64*(k+1))<2 ^ (64*(m-(k+1))):=by
  rw [yu hs]
  exact Nat.div_lt_of_lt_mul hn
 rw [Nat.mul_comm]
 exact (Nat.div_lt_iff_lt_mul (Nat.two_pow_pos _)).1 h1
theorem PS {o a b at_ k out c:Nat} (h:out+c*2 ^ (64*(k+at_))=o+a % 2 ^ (64*k)*b*2 ^ (64*at_)) {s d:Nat} (hs:d*18446744073709551616+s=wd a k*b+c+wd out (k+at_)) :
  kH out (k+at_) s+d*2 ^ (64*(k+1+at_))=o+a % 2 ^ (64*(k+1))*b*2 ^ (64*at_):=by
 have h1:=PQ out (k+at_) s
 rw [bQ,show 64*(k+1+at_)=64*((k+at_)+1) by omega,bH,Nat.add_mul,Nat.add_mul]
 have hp:2 ^ (64*(k+at_))=2 ^ (64*k)*2 ^ (64*at_):=by rw [← Nat.pow_add,Nat.mul_add]
 have e1:2 ^ (64*k)*wd a k*b*2 ^ (64*at_)=2 ^ (64*(k+at_))*(wd a k*b):=by rw [hp];simp only [Nat.mul_assoc,Nat.mul_comm,Nat.mul_left_comm]
 rw [e1]
 generalize 2 ^ (64*(k+at_))=P at *
 have e2:d*(P*18446744073709551616)=P*(d*18446744073709551616):=by simp only [Nat.mul_left_comm]
 rw [e2]
 have e3:=congrArg (P*·) hs
 simp only [Nat.mul_add] at e3
 rw [Nat.mul_comm c] at h
 omega
theorem He {a m b:Nat} (ha:a<aq):(∀ j,m≤j→j<8→wd a j*b=0)↔a / 2 ^ (64*m)*b=0:=by
 constructor
 ·intro h
  rcases Nat.eq_zero_or_pos b with hb|hb
  ·rw [hb,Nat.mul_zero]
  ·have hz:a / 2 ^ (64*m)=0:=by
    rcases Nat.lt_or_ge m 8 with hm|hm
    ·refine s6 (m:=8-m) (Nat.div_lt_of_lt_mul ?_) (Nat.two_pow_pos _) fun k hk=>?_
     ·rw [← Nat.pow_add,← Nat.mul_add,Nat.add_sub_cancel' xj,gQ 8]
      exact ha
     ·have h1:=h (m+k) xj xj
      have h2:wd a (m+k)=0:=by
       rcases Nat.mul_eq_zero.1 h1 with h3|h3
       ·exact h3
       ·omega
      rw [uf a (m+k) m xj,Nat.add_sub_cancel_left] at h2
      rw [h2,Af]
    ·exact Nat.div_eq_of_lt (Nat.lt_of_lt_of_le ha (vy (k:=8) hm))
   rw [hz,Nat.zero_mul]
 ·intro h j hj hj8
  rcases Nat.mul_eq_zero.1 h with hz|hz
  ·rw [uf a j m hj,hz,Af,Nat.zero_mul]
  ·rw [hz,Nat.mul_zero]
theorem UZ {o a b at_ out c:Nat} (hat:at_≤8) (hout:out<aq) (h:out+c*2 ^ (64*8)=o+a % 2 ^ (64*(8-at_))*b*2 ^ (64*at_)) :
  (o+a*b*2 ^ (64*at_)) % aq=out∧(o+a*b*2 ^ (64*at_)<aq↔c=0∧a / 2 ^ (64*(8-at_))*b=0):=by
 have e:o+a*b*2 ^ (64*at_)=out+aq*(c+a / 2 ^ (64*(8-at_))*b):=by
  have h1:a=a % 2 ^ (64*(8-at_))+2 ^ (64*(8-at_))*(a / 2 ^ (64*(8-at_))):=(Nat.mod_add_div _ _).symm
  have h2:aq=2 ^ (64*(8-at_))*2 ^ (64*at_):=by
   rw [← Nat.pow_add,← Nat.mul_add,show 8-at_+at_=8 by omega]
   rfl
  have h3:2 ^ (64*8)=aq:=gQ 8
  rw [h3,Nat.mul_comm c] at h
  have h4:a*b*2 ^ (64*at_)=a % 2 ^ (64*(8-at_))*b*2 ^ (64*at_)+aq*(a / 2 ^ (64*(8-at_))*b):=by
   conv=>lhs;rw [h1]
   rw [Nat.add_mul,Nat.add_mul,h2]
   simp only [Nat.mul_comm,Nat.mul_left_comm]
  rw [h4,Nat.mul_add]
  omega
 have hW:=bK
 generalize a / 2 ^ (64*(8-at_))*b=r at e ⊢
 rw [e]
 refine ⟨by rw [Nat.add_mul_mod_self_left,Nat.mod_eq_of_lt hout],fun h1=>?_,fun h1=>?_⟩
 ·rcases Nat.eq_zero_or_pos (c+r) with h2|h2
  ·omega
  ·have:=Nat.mul_le_mul_left aq h2
   omega
 ·rw [h1.1,h1.2]
  simpa using hout
end
section
theorem yw (A r:Nat) (hr:r≤64):A / 2 ^ r % 2 ^ 64=A / 2 ^ 64 % 2 ^ 64*2 ^ (64-r) % 2 ^ 64+A % 2 ^ 64 / 2 ^ r:=by
 have hB:(2:Nat) ^ 64=2 ^ r*2 ^ (64-r):=by rw [← Nat.pow_add];congr 1;omega
 have hd:0<2 ^ r:=Nat.two_pow_pos _
 have hc:0<2 ^ (64-r):=Nat.two_pow_pos _
 rw [hB]
 generalize 2 ^ r=d at *
 generalize 2 ^ (64-r)=c at *
 have e:A / d=A % (d*c) / d+c*(A / (d*c)):=by
  conv=>lhs;rw [← Nat.mod_add_div A (d*c),Nat.mul_assoc,Nat.add_mul_div_left _ _ hd]
 have hlt:A % (d*c) / d<c:=Nat.div_lt_of_lt_mul (Nat.mod_lt _ (Nat.mul_pos hd hc))
 rw [e]
 generalize A % (d*c) / d=p at *
 generalize A / (d*c)=q at *
 have h1:q % (d*c)*c % (d*c)=c*(q % d):=by
  rw [Nat.mul_comm d c,Nat.mul_comm _ c,Nat.mul_mod_mul_left,Nat.mod_mod_of_dvd _ ⟨c,Nat.mul_comm c d⟩]
 have h2:c*q=c*(q % d)+d*c*(q / d):=by
  conv=>lhs;rw [← Nat.mod_add_div q d,Nat.mul_add]
  simp only [Nat.mul_assoc,Nat.mul_left_comm]
 have h3:c*(q % d)+c≤d*c:=by
  rw [← Nat.mul_succ,Nat.mul_comm d c]
  exact Nat.mul_le_mul_left _ (Nat.mod_lt _ hd)
 rw [h1,h2,← Nat.add_assoc,Nat.add_mul_mod_self_left,Nat.mod_eq_of_lt (by omega)]
 omega
theorem PU (a q r i:Nat) (hr:r<64) (hq:q≤i):wd (a*2 ^ (64*q+r)) i=wd a (i-q)*2 ^ r % 18446744073709551616+(if i=q then 0 else wd a (i-q-1) / 2 ^ (64-r)):=by
 obtain ⟨j,rfl⟩:∃ j,i=q+j:=⟨i-q,by omega⟩
 have e:a*2 ^ (64*q+r) / 2 ^ (64*(q+j))=a*2 ^ r / 2 ^ (64*j):=by
  rw [Nat.mul_add,Nat.pow_add,Nat.pow_add,Nat.mul_comm (2 ^ (64*q)),← Nat.mul_assoc,Nat.mul_comm (2 ^ (64*q)),Nat.mul_div_mul_right _ _ (Nat.two_pow_pos _)]
 rw [Nat.add_sub_cancel_left]
 cases j with
 | zero =>
  rw [if_pos (by omega)]
  unfold wd
  rw [e]
  simp only [Nat.mul_zero,Nat.pow_zero,Nat.div_one,Nat.add_zero]
  rw [show (2:Nat) ^ 64=18446744073709551616 by decide,Nat.mod_mul_mod]
 | succ k =>
  rw [if_neg xj,Nat.add_sub_cancel]
  have e2:a*2 ^ r / 2 ^ (64*(k+1))=a / 2 ^ (64*k) / 2 ^ (64-r):=by
   rw [Nat.div_div_eq_div_mul,← Nat.pow_add,show 64*(k+1)=(64*k+(64-r))+r by omega,Nat.pow_add _ _ r,Nat.mul_div_mul_right _ _ (Nat.two_pow_pos _)]
  unfold wd
  rw [e,e2,yw _ (64-r) xj,show 64-(64-r)=r by omega,Nat.div_div_eq_div_mul,← Nat.pow_add,show 64*k+64=64*(k+1) by omega]
theorem PV (a q r i:Nat) (hr:r<64):wd (a / 2 ^ (64*q+r)) i=wd a (i+q) / 2 ^ r+wd a (i+q+1)*2 ^ (64-r) % 18446744073709551616:=by
 unfold wd
 rw [Nat.div_div_eq_div_mul,← Nat.pow_add,show 64*q+r+64*i=64*(i+q)+r by omega,Nat.pow_add,← Nat.div_div_eq_div_mul,yw _ r xj,Nat.div_div_eq_div_mul,← Nat.pow_add,show 64*(i+q)+64=64*(i+q+1) by omega,Nat.add_comm]
end
section
theorem fU {x m:Nat} (h:x<2 ^ m):bitLen x≤m:=by
 rcases Nat.eq_zero_or_pos x with h0|h0
 ·subst h0;exact Nat.zero_le _
 ·have h1:=(bitLen_spec x).2 xj
  have h2:2 ^ (bitLen x-1)<2 ^ m:=Nat.lt_of_le_of_lt h1 h
  have h3:=(Nat.pow_lt_pow_iff_right (by omega:1<2)).1 h2
  omega
set_option maxHeartbeats 1000000 in
theorem q7 (x:Nat) (hx:x<aq) (w:World) :
  Calls Tryz.prog 117 #[.agg (ee x).toArray] w fun e w'=>e=.returned (.int .i64 (bitLen x:Nat))∧Below w.heap.size w w':=by
 refine aa (fn:=Tryz.f117) Tryz.func117 rfl Tryz.ntmps117 (Nat.le_of_ble_eq_true rfl) ?_
 (refine R.st ?_;(repeat' first|refine And.intro ?_ ?_|intro _);all_goals refine ah.mk ?_)
 refine au (fun k:Nat=>[(1,.pointer (some ⟨w.heap.size,0,none⟩)),(3,.int .i64 ((k:Int)-1))])
  (fun k w1=>k≤8∧x / 2 ^ (64*k)=0∧WB w1 w.heap.size x∧Below w.heap.size w w1) (fun k=>k)
  ⟨8,⟨rfl,rfl,trivial⟩,by omega,?_⟩ ?_
 ·exact ⟨by rw [gQ 8];exact Nat.div_eq_of_lt hx,WB.sB rfl,(Below.refl _ w).alloc (Nat.le_refl _) _⟩
 rintro k f w1 ⟨hk,htop,b0,hb⟩
 by_cases hlt:0<k
 ·have c0:=b0.fz (i:=(k:Int)-1) (k:=k-1) xj xj
  obtain ⟨k,rfl⟩:∃ j,k=j+1:=⟨k-1,by omega⟩
  rw [Nat.add_sub_cancel] at c0
  have hw:=gb x k
  by_cases hz:wd x k=0
  ·(refine R.st ?_;(repeat' first|refine And.intro ?_ ?_|intro _);all_goals refine ah.mk ?_)
   refine ⟨k,⟨rfl,aF rfl xj,trivial⟩,⟨by omega,?_,b0,hb⟩,by omega⟩
   have e:wd x k=x / 2 ^ (64*k):=by
    unfold wd
    rw [bH,← Nat.div_div_eq_div_mul] at htop
    omega
   omega
  ·have hl:=EM htop hz
   have hl2:=fU (m:=64) hw
   (refine R.st ?_;(repeat' first|refine And.intro ?_ ?_|intro _);all_goals refine ah.mk ?_)
   refine aA rfl rfl vv ?_;refine (U9 _ (l8 _ _) _).mono ?_
   rintro e w' ⟨rfl,rfl⟩
   refine ⟨_,rfl,?_⟩
   rw [Int.toNat_natCast,yt _ hw]
   (refine R.st ?_;(repeat' first|refine And.intro ?_ ?_|intro _);all_goals refine ah.mk ?_)
   exact ⟨by rw [hl];congr 2;omega,hb⟩
 ·obtain rfl:k=0:=by omega
  (refine R.st ?_;(repeat' first|refine And.intro ?_ ?_|intro _);all_goals refine ah.mk ?_)
  rw [Nat.mul_zero,Nat.pow_zero,Nat.div_one] at htop
  exact ⟨by rw [htop];rfl,hb⟩
theorem P4 (x i:Nat):wd x (i / 64) / 2 ^ (i % 64) % 2=x / 2 ^ i % 2:=by
 unfold wd
 rw [show (2:Nat) ^ 64=2 ^ (i % 64)*2 ^ (64-i % 64) by rw [← Nat.pow_add];congr 1;omega,Nat.mod_mul_right_div_self,Nat.div_div_eq_div_mul,← Nat.pow_add,Nat.div_add_mod,
  Nat.mod_mod_of_dvd _ ⟨2 ^ (63-i % 64),by rw [show 64-i % 64=(63-i % 64)+1 by omega,Nat.pow_succ,Nat.mul_comm]⟩]
theorem q8 (x:Nat) (i:Int) (w:World) :
  Calls Tryz.prog 287 #[.agg (ee x).toArray,.int .i64 i] w fun e w'=>e=.returned (.bool (decide (0≤i∧i<512∧x / 2 ^ i.toNat % 2=1)))∧Below w.heap.size w w':=by
 refine aa (fn:=Tryz.f287) Tryz.func287 rfl Tryz.ntmps287 (Nat.le_of_ble_eq_true rfl) ?_
 by_cases h0:0≤i
 ·by_cases h1:i<512
  ·have c0:=(WB.new w x).fz (i:=i / 64) (k:=i.toNat / 64) xj xj
   (refine R.st ?_;(repeat' first|refine And.intro ?_ ?_|intro _);all_goals refine ah.mk ?_)
   have hc:((wd x (i.toNat / 64):Nat):Int) / 2 ^ (i % 64).toNat=((wd x (i.toNat / 64) / 2 ^ (i % 64).toNat:Nat):Int):=by push_cast;rfl
   have hd:wd x (i.toNat / 64) / 2 ^ (i % 64).toNat<18446744073709551616:=Nat.lt_of_le_of_lt (Nat.div_le_self _ _) (gb x (i.toNat / 64))
   have hb:=P4 x i.toNat
   rw [hc]
   rw [show (i % 64).toNat=i.toNat % 64 by omega] at *
   generalize wd x (i.toNat / 64) / 2 ^ (i.toNat % 64)=y at *
   rw [PO _ xj (by omega)]
   refine ⟨?_,(Below.refl _ w).alloc (Nat.le_refl _) _⟩
   congr 2
   refine decide_eq_decide.2 ⟨fun h=>⟨h0,h1,by omega⟩,fun h=>by omega⟩
  ·(refine R.st ?_;(repeat' first|refine And.intro ?_ ?_|intro _);all_goals refine ah.mk ?_)
   exact ⟨by simp [h1],(Below.refl _ w).alloc (Nat.le_refl _) _⟩
 ·(refine R.st ?_;(repeat' first|refine And.intro ?_ ?_|intro _);all_goals refine ah.mk ?_)
  exact ⟨by simp [h0],(Below.refl _ w).alloc (Nat.le_refl _) _⟩
theorem fb {P:Program} {C:bO} {o:Oper} {f:R.Fr} {w:World} {K:Value→World→Prop} {t:TypeId} {a b:Operand} {g k n m:Nat} {v i:Int} (hop:o.op=.store t a b)
  (hx:ev f a=.pointer (some ((⟨g,0,none⟩:Addr).add (i.toNat*1)))) (hy:ev f b=.int .u64 v) [dP P t 1] (hb:WB w g n) (hi:i.toNat=k) (hk:k<8) (hv:v=(wd m k:Nat)) (hm:∀ j,j<8→j≠k→wd m j=wd n j)
  (h:∀ w',WB w' g m→(∀ g' n',g'≠g→WB w g' n'→WB w' g' n')→(∀ B,B≤g→Below B w w')→K undef w'):WO P C o f w K:=by
 subst hi
 exact sD hop hx hy hb hk hv hm h
theorem LB {a b:Nat} (ha:a<18446744073709551616) (hb:b<18446744073709551616):a*b≤340282366920938463426481119284349108225 :=
 Nat.le_trans (Nat.mul_le_mul (Nat.le_sub_one_of_lt ha) (Nat.le_sub_one_of_lt hb)) vj
set_option maxHeartbeats 2000000 in
theorem P5 (o a by_ at_:Nat) (ho:o<aq) (ha:a<aq) (hby:by_<18446744073709551616) (hat:at_<8) (w:World) :
  Calls Tryz.prog 295 #[.agg (ee o).toArray,.agg (ee a).toArray,.int .u64 (by_:Nat),.int .i64 (at_:Nat)] w fun e w' =>
   e=.returned (.tuple #[.agg (ee ((o+a*by_*2 ^ (64*at_)) % aq)).toArray,.bool (decide (o+a*by_*2 ^ (64*at_)<aq))])∧Below w.heap.size w w':=by
 refine aa (fn:=Tryz.f295) Tryz.func295 rfl Tryz.ntmps295 (Nat.le_of_ble_eq_true rfl) ?_
 (refine R.st ?_;(repeat' first|refine And.intro ?_ ?_|intro _);all_goals refine ah.mk ?_)
 refine bP rfl rfl rfl (cs:=ee a) ?_ ?_
 ·exact (WB.alloc (WB.sB rfl) _).row
 (refine R.st ?_;(repeat' first|refine And.intro ?_ ?_|intro _);all_goals refine ah.mk ?_)
 refine au (fun q:Nat×Nat×Nat×Bool=>[(2,.int .u64 (by_:Nat)),(3,.int .i64 (at_:Nat)),(4,.pointer (some ⟨w.heap.size,0,none⟩)),(8,.pointer (some ⟨w.heap.size+2,0,none⟩)),(10,.int .u64 (q.2.2.1:Nat)),(11,.bool q.2.2.2),(19,.agg (ee a).toArray),(20,.int .i64 (q.1:Nat))])
  (fun q w1=>q.1≤8∧q.2.1<aq∧q.2.2.1<18446744073709551616∧WB w1 w.heap.size q.2.1∧WB w1 (w.heap.size+2) 0∧Below w.heap.size w w1 ∧
   (q.1+at_≤8→q.2.2.2=true∧q.2.1+q.2.2.1*2 ^ (64*(q.1+at_))=o+a % 2 ^ (64*q.1)*by_*2 ^ (64*at_)) ∧
   (8<q.1+at_→q.2.1+q.2.2.1*2 ^ (64*8)=o+a % 2 ^ (64*(8-at_))*by_*2 ^ (64*at_)∧(q.2.2.2=true↔q.2.2.1=0∧∀ j,8-at_≤j→j<q.1→wd a j*by_=0))) (fun q=>8-q.1)
  ⟨(0,o,0,true),⟨rfl,rfl,rfl,p6 rfl (by simp),rfl,rfl,rfl,rfl,trivial⟩,?_,?_⟩ ?_
 ·dsimp only
  omega
 ·dsimp only
  refine ⟨ho,by omega,((WB.sB rfl).alloc _).alloc _,WB.nL (by simp),(((Below.refl _ w).alloc (Nat.le_refl _) _).alloc (by simp) _).alloc (by simp;omega) _,fun _=>⟨rfl,by simp [Nat.mod_one]⟩,fun h=>by omega⟩
 rintro ⟨k,out,c,ft⟩ f w1 ⟨hk,hout,hc,b0,b2,hb,hin,hov⟩
 dsimp only at hk hout hc b0 b2 hb hin hov ⊢
 by_cases hlt:k<8
 ·have hw:=gb a k
  have hwo:=gb out (k+at_)
  have hmw:=LB hw hby
  by_cases hroom:k+at_<8
  ·obtain ⟨rfl,hin2⟩:=hin xj
   have c0:=b0.fz (i:=(k:Int)+(at_:Int)) (k:=k+at_) xj xj
   (refine R.st ?_;(repeat' first|refine And.intro ?_ ?_|intro _);all_goals refine ah.mk ?_)
   refine uh rfl rfl rfl xj xj ?_
   rw [Int.toNat_natCast]
   ((refine R.st ?_;(repeat' first|refine And.intro ?_ ?_|intro _);all_goals refine ah.mk ?_);all_goals repeat' (((with_reducible refine aN ?_);first|((with_reducible refine ff ?_);first|(refine fF rfl rfl vv vv vv ?_;refine (BG _ _ _ (by first|exact d6 _|(unfold ai;omega)) (by first|exact d6 _|(unfold ai;omega)) xj _).mono ?_;rintro e w' ⟨rfl,rfl⟩;refine ⟨_,rfl,?_⟩)|(refine ar rfl rfl vv vv ?_;refine (BH _ _ (by first|exact d6 _|(unfold ai;omega)) (by first|exact d6 _|(unfold ai;omega)) _).mono ?_;rintro e w' ⟨rfl,rfl⟩;refine ⟨_,rfl,?_⟩)));(refine R.st ?_;(repeat' first|refine And.intro ?_ ?_|intro _);all_goals refine ah.mk ?_)))
   refine fb rfl rfl rfl b0 (k:=k+at_) xj hroom (m:=kH out (k+at_) ((wd a k*by_+c+wd out (k+at_)) % 18446744073709551616)) ?_ (fun j _ hne=>oG xj hne) fun w2 d0 far bel=>?_
   ·rw [jP (by omega)]
    unfold aw
    omega
   (refine R.st ?_;(repeat' first|refine And.intro ?_ ?_|intro _);all_goals refine ah.mk ?_)
   refine ⟨(k+1,kH out (k+at_) ((wd a k*by_+c+wd out (k+at_)) % 18446744073709551616),(wd a k*by_+c+wd out (k+at_)) / 18446744073709551616,true),⟨rfl,rfl,rfl,rfl,aF rfl ?_,rfl,rfl,aF rfl ?_,trivial⟩,⟨?_,?_,?_,d0,far _ _ xj b2,hb.trans (bel _ xj),fun _=>⟨rfl,PS hin2 ?_⟩,fun h=>?_⟩,?_⟩
   ·unfold fW aw
    dsimp only
    omega
   ·dsimp only
    omega
   ·dsimp only
    omega
   ·exact Jv (m:=8) xj hroom hout
   ·dsimp only
    omega
   ·dsimp only
    omega
   ·dsimp only at h
    omega
   ·dsimp only
    omega
  ·have hov':out+c*2 ^ (64*8)=o+a % 2 ^ (64*(8-at_))*by_*2 ^ (64*at_)∧(ft=true↔(k+at_=8∨c=0)∧∀ j,8-at_≤j→j<k→wd a j*by_=0):=by
    rcases Nat.eq_or_lt_of_le (Nat.le_of_not_lt hroom) with h|h
    ·obtain ⟨h1,h2⟩:=hin xj
     rw [← h,show k=8-at_ by omega] at h2
     exact ⟨h2,fun _=>⟨.inl h.symm,fun j h3 h4=>by omega⟩,fun _=>h1⟩
    ·obtain ⟨h1,h2⟩:=hov h
     exact ⟨h1,h2.trans ⟨fun h3=>⟨.inr h3.1,h3.2⟩,fun h3=>⟨by omega,h3.2⟩⟩⟩
   clear hin hov
   obtain ⟨hin,hft⟩:=hov'
   have hnew:∀ g:Bool,(g=true↔ft=true∧wd a k*by_=0∧c=0)→(8<k+1+at_→out+c*2 ^ (64*8)=o+a % 2 ^ (64*(8-at_))*by_*2 ^ (64*at_)∧(g=true↔c=0∧∀ j,8-at_≤j→j<k+1→wd a j*by_=0)):=fun g hg _=>by
    refine ⟨hin,hg.trans ⟨fun h=>⟨h.2.2,fun j h1 h2=>?_⟩,fun h=>⟨hft.2 ⟨.inr h.1,fun j h1 h2=>h.2 j h1 xj⟩,h.2 k xj xj,h.1⟩⟩⟩
    rcases Nat.eq_or_lt_of_le (Nat.le_of_lt_succ h2) with h3|h3
    ·rw [h3];exact h.2.1
    ·exact (hft.1 h.1).2 j h1 h3
   (refine R.st ?_;(repeat' first|refine And.intro ?_ ?_|intro _);all_goals refine ah.mk ?_)
   refine uh rfl rfl rfl xj xj ?_
   rw [Int.toNat_natCast]
   ((refine R.st ?_;(repeat' first|refine And.intro ?_ ?_|intro _);all_goals refine ah.mk ?_);all_goals repeat' (((with_reducible refine aN ?_);first|((with_reducible refine ff ?_);first|(refine fF rfl rfl vv vv vv ?_;refine (BG _ _ _ (by first|exact d6 _|(unfold ai;omega)) (by first|exact d6 _|(unfold ai;omega)) xj _).mono ?_;rintro e w' ⟨rfl,rfl⟩;refine ⟨_,rfl,?_⟩)|(refine ar rfl rfl vv vv ?_;refine (BH _ _ (by first|exact d6 _|(unfold ai;omega)) (by first|exact d6 _|(unfold ai;omega)) _).mono ?_;rintro e w' ⟨rfl,rfl⟩;refine ⟨_,rfl,?_⟩)));(refine R.st ?_;(repeat' first|refine And.intro ?_ ?_|intro _);all_goals refine ah.mk ?_)))
   ·refine ⟨(k+1,out,c,decide ((c:Int)=0)),⟨rfl,rfl,rfl,rfl,rfl,rfl,rfl,aF rfl ?_,trivial⟩,⟨?_,hout,hc,b0,b2,hb,fun h=>?_,hnew _ ?_⟩,?_⟩
    ·dsimp only
     omega
    ·dsimp only
     omega
    ·dsimp only at h
     omega
    ·rename_i h1 h2 h3
     have hp:wd a k*by_=0:=by
      unfold fW at h2
      unfold aw at h3
      omega
     rw [decide_eq_true_iff]
     exact ⟨fun h=>⟨h1,hp,by omega⟩,fun h=>by omega⟩
    ·dsimp only
     omega
   ·refine ⟨(k+1,out,c,false),⟨rfl,rfl,rfl,rfl,rfl,rfl,rfl,aF rfl ?_,trivial⟩,⟨?_,hout,hc,b0,b2,hb,fun h=>?_,hnew _ ?_⟩,?_⟩
    ·dsimp only
     omega
    ·dsimp only
     omega
    ·dsimp only at h
     omega
    ·rename_i h1 h2 h3
     refine ⟨fun h=>(by cases h),fun h=>absurd ?_ h3⟩
     unfold aw
     omega
    ·dsimp only
     omega
   ·refine ⟨(k+1,out,c,false),⟨rfl,rfl,rfl,rfl,rfl,rfl,rfl,aF rfl ?_,trivial⟩,⟨?_,hout,hc,b0,b2,hb,fun h=>?_,hnew _ ?_⟩,?_⟩
    ·dsimp only
     omega
    ·dsimp only
     omega
    ·dsimp only at h
     omega
    ·rename_i h1 h2
     refine ⟨fun h=>(by cases h),fun h=>absurd ?_ h2⟩
     unfold fW
     omega
    ·dsimp only
     omega
   ·refine ⟨(k+1,out,c,false),⟨rfl,rfl,rfl,rfl,rfl,rfl,rfl,aF rfl ?_,trivial⟩,⟨?_,hout,hc,b0,b2,hb,fun h=>?_,hnew _ ?_⟩,?_⟩
    ·dsimp only
     omega
    ·dsimp only
     omega
    ·dsimp only at h
     omega
    ·rename_i h1
     refine ⟨fun h=>(by cases h),fun h=>?_⟩
     rw [h1] at h
     exact h.1
    ·dsimp only
     omega
 ·obtain rfl:k=8:=by omega
  have hT:out+c*2 ^ (64*8)=o+a % 2 ^ (64*(8-at_))*by_*2 ^ (64*at_)∧((ft=true∧c=0)↔c=0∧a / 2 ^ (64*(8-at_))*by_=0):=by
   rw [← He ha]
   rcases Nat.eq_zero_or_pos at_ with h|h
   ·subst h
    obtain ⟨h1,h2⟩:=hin xj
    rw [Nat.add_zero] at h2
    rw [Nat.sub_zero]
    exact ⟨h2,fun h=>⟨h.2,fun j h3 h4=>by omega⟩,fun h=>⟨h1,h.1⟩⟩
   ·obtain ⟨h1,h2⟩:=hov xj
    exact ⟨h1,fun h=>⟨h.2,(h2.1 h.1).2⟩,fun h=>⟨h2.2 h,h.1⟩⟩
  obtain ⟨e1,e2⟩:=UZ xj hout hT.1
  have e3:=e2.trans hT.2.symm
  rw [e1]
  clear hin hov hT e1 e2
  cases ft with
  | true =>
   (refine R.st ?_;(repeat' first|refine And.intro ?_ ?_|intro _);all_goals refine ah.mk ?_)
   refine bP rfl rfl rfl b0.row ?_
   (refine R.st ?_;(repeat' first|refine And.intro ?_ ?_|intro _);all_goals refine ah.mk ?_)
   refine dm rfl rfl rfl (fJ _) b2 (eC _ _) (fq _) ?_
   (refine R.st ?_;(repeat' first|refine And.intro ?_ ?_|intro _);all_goals refine ah.mk ?_)
   have hflag:decide ((c:Int)=0)=decide (o+a*by_*2 ^ (64*at_)<aq):=decide_eq_decide.2 ⟨fun h=>e3.2 ⟨rfl,by omega⟩,fun h=>by have:=(e3.1 h).2;omega⟩
   refine xP (.inl rfl) rfl rfl (xo rfl hflag) rfl (b2.iJ _).row ?_
   exact ⟨rfl,hb.trans (eD xj _)⟩
  | false =>
   (refine R.st ?_;(repeat' first|refine And.intro ?_ ?_|intro _);all_goals refine ah.mk ?_)
   refine bP rfl rfl rfl b0.row ?_
   (refine R.st ?_;(repeat' first|refine And.intro ?_ ?_|intro _);all_goals refine ah.mk ?_)
   refine dm rfl rfl rfl (fJ _) b2 (eC _ _) (fq _) ?_
   (refine R.st ?_;(repeat' first|refine And.intro ?_ ?_|intro _);all_goals refine ah.mk ?_)
   have hflag:false=decide (o+a*by_*2 ^ (64*at_)<aq):=(decide_eq_false fun h=>Bool.noConfusion (e3.1 h).1).symm
   refine xP (.inl rfl) rfl rfl (xo rfl hflag) rfl (b2.iJ _).row ?_
   exact ⟨rfl,hb.trans (eD xj _)⟩
end
section
theorem P6 (a b k:Nat):a*(b % 2 ^ (64*(k+1)))=a*(b % 2 ^ (64*k))+a*wd b k*2 ^ (64*k):=by
 rw [bQ,Nat.mul_add,Nat.mul_comm (2 ^ (64*k)),Nat.mul_assoc]
theorem LC {W X Y:Nat} (_hW:0<W):(X+Y<W)↔(X<W∧X % W+Y<W):=by
 constructor
 ·intro h
  rw [Nat.mod_eq_of_lt (by omega:X<W)]
  omega
 ·intro h
  rw [Nat.mod_eq_of_lt h.1] at h
  exact h.2
theorem q9 {w:World} {g n m:Nat} (h:WB w g n) (hn:m=w.heap.size):g≠m:=by have:=h.lt;omega
set_option maxHeartbeats 2000000 in
theorem ra (a b:Nat) (ha:a<aq) (hb_:b<aq) (w:World) :
  Calls Tryz.prog 246 #[.agg (ee a).toArray,.agg (ee b).toArray] w fun e w' =>
   e=.returned (.tuple #[.agg (ee (a*b % aq)).toArray,.bool (decide (a*b<aq))])∧Below w.heap.size w w':=by
 refine aa (fn:=Tryz.f246) Tryz.func246 rfl Tryz.ntmps246 (Nat.le_of_ble_eq_true rfl) ?_
 (refine R.st ?_;(repeat' first|refine And.intro ?_ ?_|intro _);all_goals refine ah.mk ?_)
 refine bP rfl rfl rfl (cs:=ee b) ?_ ?_
 ·exact (WB.alloc (WB.alloc (WB.sB rfl) _) _).row
 (refine R.st ?_;(repeat' first|refine And.intro ?_ ?_|intro _);all_goals refine ah.mk ?_)
 refine au (fun q:Nat×Bool=>[(2,.pointer (some ⟨w.heap.size,0,none⟩)),(4,.pointer (some ⟨w.heap.size+2,0,none⟩)),(6,.pointer (some ⟨w.heap.size+3,0,none⟩)),(7,.bool q.2),(12,.agg (ee b).toArray),(13,.int .i64 (q.1:Nat))])
  (fun q w1=>q.1≤8∧WB w1 w.heap.size a∧WB w1 (w.heap.size+2) 0∧WB w1 (w.heap.size+3) (a*(b % 2 ^ (64*q.1)) % aq)∧Below w.heap.size w w1∧(q.2=true↔a*(b % 2 ^ (64*q.1))<aq)) (fun q=>8-q.1)
  ⟨(0,true),⟨rfl,p6 rfl (by simp),p6 rfl (by simp),rfl,rfl,rfl,trivial⟩,?_,?_⟩ ?_
 ·dsimp only
  omega
 ·dsimp only
  rw [oI,Nat.mul_zero,Nat.zero_mod]
  exact ⟨(((WB.sB rfl).alloc _).alloc _).alloc _,(WB.nL (by simp)).alloc _,WB.nL (by simp),((((Below.refl _ w).alloc (Nat.le_refl _) _).alloc (by simp) _).alloc (by simp;omega) _).alloc (by simp;omega) _,by simp [bK]⟩
 rintro ⟨k,ft⟩ f w1 ⟨hk,b0,b2,b3,hb,hft⟩
 dsimp only at hk b0 b2 b3 hb hft ⊢
 by_cases hlt:k<8
 ·have hw:=gb b k
  have hst:=P6 a b k
  by_cases hz:wd b k=0
  ·(refine R.st ?_;(repeat' first|refine And.intro ?_ ?_|intro _);all_goals refine ah.mk ?_)
   refine uh rfl rfl rfl xj xj ?_
   rw [Int.toNat_natCast]
   (refine R.st ?_;(repeat' first|refine And.intro ?_ ?_|intro _);all_goals refine ah.mk ?_)
   have hst2:a*(b % 2 ^ (64*(k+1)))=a*(b % 2 ^ (64*k)):=by rw [hst,hz];simp
   rw [← hst2] at b3 hft
   refine ⟨(k+1,ft),⟨rfl,rfl,rfl,rfl,rfl,aF rfl ?_,trivial⟩,⟨?_,b0,b2,b3,hb,hft⟩,?_⟩
   ·dsimp only
    omega
   ·dsimp only
    omega
   ·dsimp only
    omega
  ·(refine R.st ?_;(repeat' first|refine And.intro ?_ ?_|intro _);all_goals refine ah.mk ?_)
   refine uh rfl rfl rfl xj xj ?_
   rw [Int.toNat_natCast]
   (refine R.st ?_;(repeat' first|refine And.intro ?_ ?_|intro _);all_goals refine ah.mk ?_)
   refine bP rfl rfl rfl b3.row ?_
   (refine R.st ?_;(repeat' first|refine And.intro ?_ ?_|intro _);all_goals refine ah.mk ?_)
   refine bP rfl rfl rfl b0.row ?_
   (refine R.st ?_;(repeat' first|refine And.intro ?_ ?_|intro _);all_goals refine ah.mk ?_)
   refine qk rfl rfl vv vv vv vv ?_
   refine (P5 _ _ _ k (Nat.mod_lt _ bK) ha hw hlt _).mono ?_
   rintro e w2 ⟨rfl,hb2⟩
   refine ⟨_,rfl,?_⟩
   rw [Nat.mod_add_mod,← hst]
   have hg:=(LC (X:=a*(b % 2 ^ (64*k))) (Y:=a*wd b k*2 ^ (64*k)) bK)
   rw [← hst] at hg
   have d0:=b0.ext hb2 b0.lt
   have d2:=b2.ext hb2 b2.lt
   have d3:=b3.ext hb2 b3.lt
   (refine R.st ?_;(repeat' first|refine And.intro ?_ ?_|intro _);all_goals refine ah.mk ?_)
   refine dm rfl rfl rfl (fJ _) (WB.zero w2) (eC _ _) (fq _) ?_
   (refine R.st ?_;(repeat' first|refine And.intro ?_ ?_|intro _);all_goals refine ah.mk ?_)
   refine bP rfl rfl rfl (WB.iJ (WB.zero w2) _).row ?_
   (refine R.st ?_;(repeat' first|refine And.intro ?_ ?_|intro _);all_goals refine ah.mk ?_)
   refine dm rfl rfl rfl (fJ _) ((d3.alloc _).oH (q9 d3 rfl) _) (eC _ _) (fq _) ?_
   have hs2:=hb.size
   have hs3:=hb2.size
   have e0:=((d0.alloc (.cells (Value.cells (.agg (ee 0).toArray)) 109)).oH (q9 d0 rfl) (ee (a*(b % 2 ^ (64*(k+1))) % aq)).toArray).oH (b:=w.heap.size+3) xj (ee (a*(b % 2 ^ (64*(k+1))) % aq)).toArray
   have e2:=((d2.alloc (.cells (Value.cells (.agg (ee 0).toArray)) 109)).oH (q9 d2 rfl) (ee (a*(b % 2 ^ (64*(k+1))) % aq)).toArray).oH (b:=w.heap.size+3) xj (ee (a*(b % 2 ^ (64*(k+1))) % aq)).toArray
   have e3:=((d3.alloc (.cells (Value.cells (.agg (ee 0).toArray)) 109)).oH (q9 d3 rfl) (ee (a*(b % 2 ^ (64*(k+1))) % aq)).toArray).iJ (a*(b % 2 ^ (64*(k+1))) % aq)
   have hB:=((R.Below.al (R.Below.go hb hb2) (.cells (Value.cells (.agg (ee 0).toArray)) 109)).trans (eD (g:=w2.heap.size) xj (ee (a*(b % 2 ^ (64*(k+1))) % aq)).toArray)).trans (eD (g:=w.heap.size+3) xj (ee (a*(b % 2 ^ (64*(k+1))) % aq)).toArray)
   rw [eZ] at e0 e2 e3 hB
   cases ft with
   | true =>
    (refine R.st ?_;(repeat' first|refine And.intro ?_ ?_|intro _);all_goals refine ah.mk ?_)
    refine ⟨(k+1,decide (a*(b % 2 ^ (64*k)) % aq+a*wd b k*2 ^ (64*k)<aq)),⟨rfl,rfl,rfl,xo rfl (by dsimp only),rfl,aF rfl ?_,trivial⟩,⟨?_,e0,e2,e3,hB,?_⟩,?_⟩
    ·dsimp only
     omega
    ·dsimp only
     omega
    ·dsimp only
     rw [decide_eq_true_iff]
     exact ⟨fun h=>hg.2 ⟨hft.1 rfl,h⟩,fun h=>(hg.1 h).2⟩
    ·dsimp only
     omega
   | false =>
    (refine R.st ?_;(repeat' first|refine And.intro ?_ ?_|intro _);all_goals refine ah.mk ?_)
    refine ⟨(k+1,false),⟨rfl,rfl,rfl,xo rfl (by dsimp only),rfl,aF rfl ?_,trivial⟩,⟨?_,e0,e2,e3,hB,?_⟩,?_⟩
    ·dsimp only
     omega
    ·dsimp only
     omega
    ·dsimp only
     exact ⟨fun h=>(by cases h),fun h=>hft.2 (hg.1 h).1⟩
    ·dsimp only
     omega
 ·obtain rfl:k=8:=by omega
  have hb8:b % 2 ^ (64*8)=b:=by
   rw [gQ 8]
   exact Nat.mod_eq_of_lt hb_
  rw [hb8] at b3 hft
  (refine R.st ?_;(repeat' first|refine And.intro ?_ ?_|intro _);all_goals refine ah.mk ?_)
  refine bP rfl rfl rfl b3.row ?_
  (refine R.st ?_;(repeat' first|refine And.intro ?_ ?_|intro _);all_goals refine ah.mk ?_)
  refine dm rfl rfl rfl (fJ _) b2 (eC _ _) (fq _) ?_
  (refine R.st ?_;(repeat' first|refine And.intro ?_ ?_|intro _);all_goals refine ah.mk ?_)
  have hflag:ft=decide (a*b<aq):=by rw [Bool.eq_iff_iff,decide_eq_true_iff];exact hft
  refine xP (.inl rfl) rfl rfl (xo rfl hflag) rfl (b2.iJ _).row ?_
  exact ⟨rfl,hb.trans (eD xj _)⟩
end
section
theorem fV {n:Nat} (h:n<18446744073709551616):n<aq:=Nat.lt_of_lt_of_le (by rw [ad0];exact h) (vy (k:=1) (m:=8) xj)
theorem sE {C:bO} {o:Oper} {f:R.Fr} {W w:World} {K:Value→World→Prop} {l:List Tj} (hop:o.op=.alloc 109) (hM:b8 W w l) (hk:∀ w',b8 W w' ((w.heap.size,109,ee 0)::l)→K (.pointer (some ⟨w.heap.size,0,none⟩)) w'):WO Tryz.prog C o f w K :=
 og hop hM (by rw [eZ] at hk;exact hk)
section
variable {C:bO} {o:Oper} {f:R.Fr} {w:World} {K:Value→World→Prop} {u:TypeId} {x y i:Operand} {m n:Nat}
end
end
end Go.Proofs.YtlmabdegojeheaaGreatDoor
