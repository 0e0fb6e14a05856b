/- WholeTurned: parts of its proof (Num Word Wide Wide2). -/
import Derived.Test.YtlmabdegojeheaaGreatDoorAa
import Derived.Below
import Derived.Test.YtlmabdegojeheaaGreatDoorOwn2Shelf
import Derived.Test.YtlmabdegojeheaaGreatDoorFacts
import Derived.Laws.Externs
import Derived.Shelf.Spec.BitsCarry
import Derived.Test.YtlmabdegojeheaaGreatDoorMemOwn
namespace Go.Proofs.YtlmabdegojeheaaGreatDoor
open R Go.RowKit
section
def wd (n k:Nat):Nat:=n / 2 ^ (64*k) % 2 ^ 64
theorem gb (n k:Nat):wd n k<18446744073709551616:=Nat.mod_lt _ vj
theorem Af (k:Nat):wd 0 k=0:=by simp [wd]
theorem bQ (n k:Nat):n % 2 ^ (64*(k+1))=n % 2 ^ (64*k)+2 ^ (64*k)*wd n k:=by
 rw [show 64*(k+1)=64*k+64 by omega,Nat.pow_add,Nat.mod_mul]
 rfl
theorem vx {n k m:Nat} (h:k<m):wd (n % 2 ^ (64*m)) k=wd n k:=by
 unfold wd
 have e:2 ^ (64*m)=2 ^ (64*k)*(2 ^ 64*2 ^ (64*(m-k-1))):=by
  rw [← Nat.pow_add,← Nat.pow_add]
  congr 1
  omega
 rw [e,Nat.mod_mul_right_div_self,Nat.mod_mul_right_mod]
theorem s6 {a b m:Nat} (ha:a<2 ^ (64*m)) (hb:b<2 ^ (64*m)) (h:∀ k,k<m→wd a k=wd b k):a=b:=by
 have key:∀ k,k≤m→a % 2 ^ (64*k)=b % 2 ^ (64*k):=by
  intro k
  induction k with
  | zero=>intro _;simp [Nat.mod_one]
  | succ k ih =>
   intro hk
   rw [bQ,bQ,ih xj,h k (by omega)]
 have:=key m (Nat.le_refl _)
 rwa [Nat.mod_eq_of_lt ha,Nat.mod_eq_of_lt hb] at this
end
section
def fI (k:Nat):Nat:=2 ^ (64*k)
theorem IU (k:Nat):0<fI k:=Nat.two_pow_pos _
theorem Tm {k m:Nat} (h:k≤m):2 ^ (64*k) ∣ fI m:=Nat.pow_dvd_pow 2 xj
theorem gQ (k:Nat):2 ^ (64*k)=fI k:=rfl
theorem vy {k m:Nat} (h:k≤m):fI k≤fI m:=Nat.pow_le_pow_right xj xj
theorem ad0:fI 1=18446744073709551616:=by decide
theorem KR {a b m:Nat} (ha:a<fI m) (hb:b<fI m) (h:∀ k,k<m→wd a k=wd b k):a=b:=s6 ha hb h
def aq:Nat:=fI 8
theorem bK:0<aq:=IU 8
def IV (x y k:Nat):Nat:=(x % 2 ^ (64*k)+y % 2 ^ (64*k)) / 2 ^ (64*k)
theorem NK (x y:Nat):IV x y 0=0:=by simp [IV,Nat.mod_one]
theorem Ya (x y k:Nat):IV x y k≤1:=by
 unfold IV
 have h1:=Nat.mod_lt x (show 0<2 ^ (64*k) from Nat.pow_pos xj)
 have h2:=Nat.mod_lt y (show 0<2 ^ (64*k) from Nat.pow_pos xj)
 have:(x % 2 ^ (64*k)+y % 2 ^ (64*k)) / 2 ^ (64*k)<2:=Nat.div_lt_of_lt_mul xj
 omega
theorem bH (k:Nat):2 ^ (64*(k+1))=2 ^ (64*k)*18446744073709551616:=by
 rw [show 64*(k+1)=64*k+64 by omega,Nat.pow_add]
theorem NL (x y k:Nat):IV x y (k+1)=(wd x k+wd y k+IV x y k) / 18446744073709551616∧(wd x k+wd y k+IV x y k) % 18446744073709551616=wd (x+y) k:=by
 have hp:0<2 ^ (64*k):=Nat.pow_pos xj
 have e1:=bQ x k
 have e2:=bQ y k
 have hx:=Nat.div_add_mod x (2 ^ (64*k))
 have hy:=Nat.div_add_mod y (2 ^ (64*k))
 constructor
 ·unfold IV
  rw [e1,e2,bH,← Nat.div_div_eq_div_mul]
  congr 1
  rw [show x % 2 ^ (64*k)+2 ^ (64*k)*wd x k+(y % 2 ^ (64*k)+2 ^ (64*k)*wd y k)=(x % 2 ^ (64*k)+y % 2 ^ (64*k))+2 ^ (64*k)*(wd x k+wd y k) by rw [Nat.mul_add];omega,Nat.add_mul_div_left _ _ hp]
  omega
 ·unfold IV wd
  have e3:(x+y) / 2 ^ (64*k)=x / 2 ^ (64*k)+y / 2 ^ (64*k)+(x % 2 ^ (64*k)+y % 2 ^ (64*k)) / 2 ^ (64*k):=by
   conv=>lhs;rw [← hx,← hy]
   rw [show 2 ^ (64*k)*(x / 2 ^ (64*k))+x % 2 ^ (64*k)+(2 ^ (64*k)*(y / 2 ^ (64*k))+y % 2 ^ (64*k))=(x % 2 ^ (64*k)+y % 2 ^ (64*k))+2 ^ (64*k)*(x / 2 ^ (64*k)+y / 2 ^ (64*k)) by rw [Nat.mul_add];omega,Nat.add_mul_div_left _ _ hp]
   omega
  rw [e3]
  generalize x / 2 ^ (64*k)=p
  generalize y / 2 ^ (64*k)=q
  generalize (x % 2 ^ (64*k)+y % 2 ^ (64*k)) / 2 ^ (64*k)=r
  omega
theorem NM {x y:Nat} (m:Nat) (hx:x<fI m) (hy:y<fI m):IV x y m=0↔x+y<fI m:=by
 unfold IV
 unfold fI at *
 rw [Nat.mod_eq_of_lt hx,Nat.mod_eq_of_lt hy]
 exact Nat.div_eq_zero_iff_lt (Nat.two_pow_pos _)
theorem Tn {x y:Nat} (hx:x<aq) (hy:y<aq):IV x y 8=0↔x+y<aq:=NM 8 hx hy
def KS (x y k:Nat):Nat:=if x % 2 ^ (64*k)<y % 2 ^ (64*k) then 1 else 0
theorem NN (x y:Nat):KS x y 0=0:=by simp [KS,Nat.mod_one]
theorem NP (x y k:Nat):KS x y k≤1:=by unfold KS;split <;> omega
theorem NQ {x y:Nat} (m:Nat) (hx:x<fI m) (hy:y<fI m):KS x y m=0↔y≤x:=by
 unfold KS
 unfold fI at *
 rw [Nat.mod_eq_of_lt hx,Nat.mod_eq_of_lt hy]
 split <;> omega
theorem To {x y:Nat} (hx:x<aq) (hy:y<aq):KS x y 8=0↔y≤x:=NQ 8 hx hy
def Cc (x y:Nat):Nat:=(x+(aq-y)) % aq
theorem Gj (x y:Nat):Cc x y<aq:=Nat.mod_lt _ bK
theorem oh {x y:Nat} (hx:x<aq) (h:y≤x):Cc x y=x-y:=by
 unfold Cc
 have hp:=bK
 rw [show x+(aq-y)=(x-y)+aq by omega,Nat.add_mod_right,Nat.mod_eq_of_lt (by omega)]
theorem Tp (x y k:Nat) (hk:k≤8) (hy:y<aq):(Cc x y % 2 ^ (64*k)+y % 2 ^ (64*k)) % 2 ^ (64*k)=x % 2 ^ (64*k):=by
 have hd:2 ^ (64*k) ∣ aq:=Tm (m:=8) hk
 rw [← Nat.add_mod]
 unfold Cc
 rw [Nat.add_mod,Nat.mod_mod_of_dvd _ hd,← Nat.add_mod,show x+(aq-y)+y=x+aq by omega,Nat.add_mod,Nat.mod_eq_zero_of_dvd hd,Nat.add_zero,Nat.mod_mod]
theorem IW (x y k:Nat) (hk:k≤8) (hy:y<aq):Cc x y % 2 ^ (64*k)+y % 2 ^ (64*k)=x % 2 ^ (64*k)+2 ^ (64*k)*KS x y k:=by
 have hp:0<2 ^ (64*k):=Nat.pow_pos xj
 have h:=Tp x y k hk hy
 have h1:=Nat.mod_lt (Cc x y) hp
 have h2:=Nat.mod_lt y hp
 unfold KS
 generalize Cc x y % 2 ^ (64*k)=d at *
 generalize y % 2 ^ (64*k)=b at *
 generalize x % 2 ^ (64*k)=a at *
 generalize 2 ^ (64*k)=B at *
 rcases Nat.lt_or_ge (d+b) B with h3|h3
 ·rw [Nat.mod_eq_of_lt h3] at h
  rw [if_neg (by omega)]
  omega
 ·rw [Nat.mod_eq_sub_mod h3,Nat.mod_eq_of_lt (by omega)] at h
  rw [if_pos (by omega)]
  omega
theorem NR (x y k:Nat) (hk:k<8) (hy:y<aq):KS x y k+wd (Cc x y) k+wd y k=wd x k+18446744073709551616*KS x y (k+1):=by
 have hp:0<2 ^ (64*k):=Nat.pow_pos xj
 have h0:=IW x y k xj hy
 have h1:=IW x y (k+1) xj hy
 rw [bQ,bQ y,bQ x,bH] at h1
 refine Nat.eq_of_mul_eq_mul_left hp ?_
 rw [Nat.mul_add,Nat.mul_add,Nat.mul_add,← Nat.mul_assoc]
 omega
theorem x7 {x y:Nat} (k:Nat) (htop:x / 2 ^ (64*(k+1))=y / 2 ^ (64*(k+1))) (h:wd x k<wd y k):x<y:=by
 have hp:0<2 ^ (64*k):=Nat.pow_pos xj
 have e:∀ n:Nat,n=n % 2 ^ (64*k)+2 ^ (64*k)*(wd n k+18446744073709551616*(n / 2 ^ (64*(k+1)))):=fun n=>by
  have h1:=Nat.div_add_mod n (2 ^ (64*(k+1)))
  rw [bQ,bH,Nat.mul_assoc] at h1
  rw [bH,Nat.mul_add]
  omega
 have ex:=e x
 have ey:=e y
 rw [htop] at ex
 have h3:=Nat.mod_lt x hp
 have h4:2 ^ (64*k)*(wd x k+18446744073709551616*(y / 2 ^ (64*(k+1))))+2 ^ (64*k)≤2 ^ (64*k)*(wd y k+18446744073709551616*(y / 2 ^ (64*(k+1)))):=by
  rw [← Nat.mul_succ]
  exact Nat.mul_le_mul_left _ xj
 omega
theorem NS {x y:Nat} (k:Nat) (htop:x / 2 ^ (64*(k+1))=y / 2 ^ (64*(k+1))) (h:wd x k=wd y k):x / 2 ^ (64*k)=y / 2 ^ (64*k):=by
 unfold wd at h
 rw [bH,← Nat.div_div_eq_div_mul,← Nat.div_div_eq_div_mul] at htop
 generalize x / 2 ^ (64*k)=a at *
 generalize y / 2 ^ (64*k)=b at *
 omega
end
section
def mZ (u x y:Nat):Nat:=(u*4294967296+x) / y
theorem Ag {u x y:Nat} (hu:u<y) (hx:x<4294967296):mZ u x y<4294967296:=by
 refine (Nat.div_lt_iff_lt_mul xj).2 ?_
 have:(u+1)*4294967296≤y*4294967296:=Nat.mul_le_mul_right _ hu
 rw [Nat.mul_comm 4294967296 y]
 omega
theorem x8 (q y:Nat):q*y=q*(y / 4294967296)*4294967296+q*(y % 4294967296):=by
 conv=>lhs;rw [← Nat.div_add_mod y 4294967296]
 rw [Nat.mul_add,Nat.mul_left_comm,Nat.mul_comm 4294967296]
structure Ah (u x y q r:Nat):Prop where
 sum:q*(y / 4294967296)+r=u
 ge:mZ u x y≤q
 le:q≤4294967297
theorem IX {u x y q r:Nat} (hy:0<y) (h:q*(y / 4294967296)+r=u):mZ u x y<q↔r*4294967296+x<q*(y % 4294967296):=by
 unfold mZ
 rw [Nat.div_lt_iff_lt_mul hy,x8 q y,← h,Nat.add_mul]
 omega
theorem vz {u x y:Nat} (hu:u<y) (hx:x<4294967296) (hy:9223372036854775808≤y) (hy2:y<18446744073709551616) :
  Ah u x y (u / (y / 4294967296)) (u % (y / 4294967296))∧u % (y / 4294967296)<4294967296:=by
 have h1:2147483648≤y / 4294967296:=by omega
 have h2:=Nat.div_add_mod u (y / 4294967296)
 have h3:=Nat.mod_lt u (show 0<y / 4294967296 by omega)
 have h4:u / (y / 4294967296)*(y / 4294967296)+u % (y / 4294967296)=u:=by rw [Nat.mul_comm];exact h2
 refine ⟨⟨h4,?_,?_⟩,by omega⟩
 ·refine (Nat.le_div_iff_mul_le xj).2 ?_
  have h5:mZ u x y*y≤u*4294967296+x:=Nat.div_mul_le_self _ _
  rw [x8] at h5
  omega
 ·have h5:u / (y / 4294967296)<4294967298:=by
   refine (Nat.div_lt_iff_lt_mul xj).2 ?_
   have h6:=Nat.div_add_mod y 4294967296
   omega
  omega
theorem x9 {u x y q r:Nat} (hu:u<y) (hx:x<4294967296) (h:Ah u x y q r) (hc:4294967296≤q∨r*4294967296+x<q*(y % 4294967296)) :
  0<q∧Ah u x y (q-1) (r+y / 4294967296):=by
 have h1:=Ag hu hx
 have h2:mZ u x y<q:=by
  rcases hc with h3|h3
  ·omega
  ·exact (IX xj h.sum).2 h3
 obtain ⟨p,rfl⟩:∃ p,q=p+1:=⟨q-1,by omega⟩
 refine ⟨by omega,?_,by omega,by have:=h.le;omega⟩
 have:=h.sum
 rw [Nat.add_mul,Nat.one_mul] at this
 rw [Nat.add_sub_cancel]
 omega
theorem vA {u x y q r:Nat} (hu:u<y) (h:Ah u x y q r) (hc:¬ r*4294967296+x<q*(y % 4294967296)):q=mZ u x y:=by
 have h1:=h.ge
 have h2:¬ mZ u x y<q:=fun h3=>hc ((IX xj h.sum).1 h3)
 omega
theorem vB {u x y q r:Nat} (hu:u<y) (h:Ah u x y q r) (hq:q≤4294967296) (hr:4294967296≤r):q=mZ u x y:=by
 refine vA hu h fun h1=>?_
 have h2:=Nat.mul_le_mul hq (Nat.le_of_lt (Nat.mod_lt y (show 0<4294967296 by decide)))
 omega
theorem oo {u x y:Nat} (hy:0<y):u*4294967296+x=mZ u x y*y+(u*4294967296+x) % y∧(u*4294967296+x) % y<y:=by
 refine ⟨?_,Nat.mod_lt _ hy⟩
 have:=Nat.div_add_mod (u*4294967296+x) y
 rw [Nat.mul_comm] at this
 exact this.symm
theorem Tq {q0 q1 r1 r2 Y B x0 x1 u U:Nat} (h1:u*B+x1=q1*Y+r1) (h3:r1*B+x0=q0*Y+r2) (hU:U=(u*B+x1)*B+x0):r2+Y*(q1*B+q0)=U:=by
 rw [hU,h1,Nat.add_mul,Nat.add_assoc,h3,Nat.mul_add,Nat.mul_comm q0 Y,Nat.mul_comm q1 Y,Nat.mul_assoc]
 omega
theorem Gk {U Y u1 x1 x0:Nat} (hY:0<Y) (hU:U=(u1*4294967296+x1)*4294967296+x0) :
  mZ u1 x1 Y*4294967296+mZ ((u1*4294967296+x1) % Y) x0 Y=U / Y∧((u1*4294967296+x1) % Y*4294967296+x0) % Y=U % Y:=by
 obtain ⟨h1,h2⟩:=oo (u:=u1) (x:=x1) hY
 obtain ⟨h3,h4⟩:=oo (u:=(u1*4294967296+x1) % Y) (x:=x0) hY
 have h5:((u1*4294967296+x1) % Y*4294967296+x0) % Y+Y*(mZ u1 x1 Y*4294967296+mZ ((u1*4294967296+x1) % Y) x0 Y)=U:=Tq h1 h3 hU
 have h6:=(Nat.div_mod_unique hY).2 ⟨h5,h4⟩
 exact ⟨h6.1.symm,h6.2.symm⟩
theorem scaled {N y s:Nat}:N*2 ^ s / (y*2 ^ s)=N / y∧N*2 ^ s % (y*2 ^ s) / 2 ^ s=N % y:=by
 have hp:=Nat.two_pow_pos s
 exact ⟨Nat.mul_div_mul_right _ _ hp,by rw [Nat.mul_mod_mul_right,Nat.mul_div_cancel _ hp]⟩
end
section
theorem NT {A w y M:Nat} (hy:0<y):(A*M+w) / y=A / y*M+(A % y*M+w) / y∧(A*M+w) % y=(A % y*M+w) % y:=by
 have h:A*M+w=(A % y*M+w)+y*(A / y*M):=by
  conv=>lhs;rw [← Nat.div_add_mod A y,Nat.add_mul]
  rw [Nat.mul_assoc]
  omega
 refine ⟨?_,?_⟩
 ·rw [h,Nat.add_mul_div_left _ _ hy,Nat.add_comm]
 ·rw [h,Nat.add_mul_mod_self_left]
def xx (a n:Nat):Prop:=a % 2 ^ n=0∧a / 2 ^ n % 2=1
theorem NU {a n m:Nat} (h1:xx a n) (h2:a % 2 ^ m=0):m≤n:=by
 rcases Nat.lt_or_ge n m with h|h
 ·exfalso
  obtain ⟨d,rfl⟩:∃ d,m=n+1+d:=⟨m-n-1,by omega⟩
  have h3:a % 2 ^ (n+1)=0:=by
   have:=congrArg (· % 2 ^ (n+1)) h2
   simp only [Nat.zero_mod] at this
   rwa [Nat.mod_mod_of_dvd _ ⟨2 ^ d,by rw [Nat.pow_add]⟩] at this
  rw [Nat.pow_succ,Nat.mod_mul,h1.1,h1.2,Nat.zero_add,Nat.mul_one] at h3
  have:=Nat.two_pow_pos n
  omega
 ·exact h
theorem Ts {a n m:Nat} (h1:xx a n) (h2:xx a m):n=m:=Nat.le_antisymm (NU h2 h1.1) (NU h1 h2.1)
open Classical in
noncomputable def tz (a:Nat):Nat:=if h:∃ n,xx a n then Classical.choose h else 0
theorem VM {a n:Nat} (h:xx a n):tz a=n:=by
 unfold tz
 rw [dif_pos ⟨n,h⟩]
 exact Ts (Classical.choose_spec (⟨n,h⟩:∃ n,xx a n)) h
theorem IY {a n:Nat} (h:a % 2 ^ n=0) (hb:¬ a / 2 ^ n % 2=1):a % 2 ^ (n+1)=0:=by
 rw [Nat.pow_succ,Nat.mod_mul,h,show a / 2 ^ n % 2=0 by omega]
 rfl
theorem qA {a:Nat} (h:a≠0):xx a (tz a):=by
 have key:∀ k n,a % 2 ^ n=0→a<2 ^ (n+k)→∃ n,xx a n:=by
  intro k
  induction k with
  | zero =>
   intro n h1 h2
   rw [Nat.add_zero] at h2
   rw [Nat.mod_eq_of_lt h2] at h1
   exact absurd h1 h
  | succ k ih =>
   intro n h1 h2
   by_cases hb:a / 2 ^ n % 2=1
   ·exact ⟨n,h1,hb⟩
   ·exact ih (n+1) (IY h1 hb) (by rw [show n+1+k=n+(k+1) by omega];exact h2)
 obtain ⟨n,hn⟩:=key a 0 (by simp [Nat.mod_one]) (by rw [Nat.zero_add];exact Nat.lt_two_pow_self)
 rw [VM hn]
 exact hn
theorem Gl {a:Nat} (h:a≠0):a / 2 ^ tz a*2 ^ tz a=a:=by
 have:=Nat.div_add_mod a (2 ^ tz a)
 rw [(qA h).1,Nat.add_zero,Nat.mul_comm] at this
 exact this
theorem Ai (k a b:Nat) (hb:b % 2=1):Nat.gcd (a*2 ^ k) b=Nat.gcd a b:=by
 have h1:Nat.Coprime (2 ^ k) b:=Nat.Coprime.pow_left k (by
  unfold Nat.Coprime
  rw [Nat.gcd_rec,hb]
  simp)
 rw [Nat.mul_comm]
 exact Nat.Coprime.gcd_mul_left_cancel a h1
theorem NV {a b:Nat} (ha:a≠0) (hb:b≠0):Nat.gcd a b=Nat.gcd (a / 2 ^ tz a) (b / 2 ^ tz b)*2 ^ min (tz a) (tz b):=by
 have h1:=Gl ha
 have h2:=Gl hb
 have o1:=(qA ha).2
 have o2:=(qA hb).2
 generalize a / 2 ^ tz a=x at *
 generalize b / 2 ^ tz b=y at *
 conv=>lhs;rw [← h1,← h2]
 generalize tz a=m
 generalize tz b=n
 rcases Nat.le_total m n with h|h
 ·rw [Nat.min_eq_left h]
  obtain ⟨d,rfl⟩:∃ d,n=d+m:=⟨n-m,by omega⟩
  rw [Nat.pow_add,← Nat.mul_assoc,Nat.gcd_mul_right,Nat.gcd_comm,Ai d y x o1,Nat.gcd_comm]
 ·rw [Nat.min_eq_right h]
  obtain ⟨d,rfl⟩:∃ d,m=d+n:=⟨m-n,by omega⟩
  rw [Nat.pow_add,← Nat.mul_assoc,Nat.gcd_mul_right,Ai d x y o2]
theorem ya {a b:Nat} (hb:b % 2=1) (hlt:b<a):Nat.gcd ((a-b) / 2 ^ tz (a-b)) b=Nat.gcd a b:=by
 have h0:a-b≠0:=by omega
 rw [← Ai (tz (a-b)) _ b hb,Gl h0]
 exact Nat.gcd_sub_self_left xj
theorem NW {a n:Nat} (h:xx a n):2 ^ n≤a:=by
 have h1:=h.2
 rcases Nat.lt_or_ge a (2 ^ n) with h2|h2
 ·rw [Nat.div_eq_of_lt h2] at h1;cases h1
 ·exact h2
structure rT (a b n q r:Nat):Prop where
 sum:a=q*b+r
 lt:r<b*2 ^ n
 mul:q % 2 ^ n=0
theorem rT.skip {a b n q r:Nat} (h:rT a b (n+1) q r) (hlt:r<b*2 ^ n):rT a b n q r :=
 ⟨h.sum,hlt,by
  have h1:=h.mul
  have:=congrArg (· % 2 ^ n) h1
  simp only [Nat.zero_mod] at this
  rwa [Nat.mod_mod_of_dvd _ ⟨2,by rw [Nat.pow_succ]⟩] at this⟩
theorem rT.take {a b n q r:Nat} (h:rT a b (n+1) q r) (hle:b*2 ^ n≤r):rT a b n (q+2 ^ n) (r-b*2 ^ n):=by
 refine ⟨?_,?_,?_⟩
 ·rw [Nat.add_mul,Nat.mul_comm (2 ^ n) b]
  have:=h.sum
  omega
 ·have:=h.lt
  rw [Nat.pow_succ,← Nat.mul_assoc] at this
  omega
 ·have h1:=h.mul
  have:=congrArg (· % 2 ^ n) h1
  simp only [Nat.zero_mod] at this
  rw [Nat.mod_mod_of_dvd _ ⟨2,by rw [Nat.pow_succ]⟩] at this
  rw [Nat.add_mod_right]
  exact this
theorem rT.done {a b q r:Nat} (h:rT a b 0 q r):q=a / b∧r=a % b:=by
 have h1:=h.lt
 rw [Nat.pow_zero,Nat.mul_one] at h1
 have h6:=(Nat.div_mod_unique (show 0<b by omega)).2 ⟨show r+b*q=a by rw [Nat.mul_comm];have:=h.sum;omega,h1⟩
 exact ⟨h6.1.symm,h6.2.symm⟩
theorem rT.start {a b n:Nat} (h:a<b*2 ^ n):rT a b n 0 a:=⟨by omega,h,by simp⟩
end
theorem Ho (x y c:Int) (hx:0≤x) (hy:0≤y) (hc0:0≤c) (hc:c≤1) (w:World) :
  (callFunc 357 #[.int .u64 x,.int .u64 y,.int .u64 c]).run Tryz.prog w =
   .ok (.value (.tuple #[.int .u64 (aw (x+y+c)),.int .u64 ((x+y+c) / 18446744073709551616)])) w:=by
 rw [run_callFunc_extern Tryz.func357 wq wq wq (e:=add64Entry) wq,run_add64 x y c hx hy hc0 hc]
 rfl
theorem Hp (x y c:Int) (hx:ai x) (hy:ai y) (hc0:0≤c) (hc:c≤1) (w:World) :
  (callFunc 356 #[.int .u64 x,.int .u64 y,.int .u64 c]).run Tryz.prog w =
   .ok (.value (.tuple #[.int .u64 (aw (x-y-c)),.int .u64 (if x<y+c then 1 else 0)])) w:=by
 unfold ai at hx hy
 obtain ⟨x,rfl⟩:=Int.eq_ofNat_of_zero_le hx.1
 obtain ⟨y,rfl⟩:=Int.eq_ofNat_of_zero_le hy.1
 obtain ⟨c,rfl⟩:=Int.eq_ofNat_of_zero_le hc0
 rw [run_callFunc_extern Tryz.func356 wq wq wq (e:=sub64Entry) wq,run_sub64 x y c (by omega)]
 have e1:(((x+18446744073709551616-y-c) % 18446744073709551616:Nat):Int)=aw ((x:Int)-y-c):=by unfold aw;omega
 have e2:((if x<y+c then 1 else 0:Nat):Int)=(if (x:Int)<y+c then 1 else 0):=by split <;> split <;> omega
 rw [e1,e2]
 rfl
theorem U7 (n:Int) (h:ao n) (w:World) :
  Calls Tryz.prog 283 #[.int .i64 n] w fun e w'=>e=.returned (.tuple #[.bool (decide (n<0)),.int .u64 (if n<0 then -n else n)])∧w=w':=by
 refine aa (fn:=Tryz.f283) Tryz.func283 rfl Tryz.ntmps283 (Nat.le_of_ble_eq_true rfl) ?_
 unfold ao at h
 (refine R.st ?_;(repeat' first|refine And.intro ?_ ?_|intro _);all_goals refine ah.mk ?_)
 ·rename_i h1
  rw [if_pos h1,decide_eq_true h1,show aw (-aw n)=-n by unfold aw;omega]
  exact ⟨rfl,rfl⟩
 ·rename_i h1
  rw [if_neg h1,decide_eq_false h1]
  exact ⟨rfl,rfl⟩
def fW (n:Int):Int:=n / 18446744073709551616
theorem BG (a b c:Int) (ha:ai a) (hb:ai b) (hc:0≤c) (w:World) :
  Calls Tryz.prog 291 #[.int .u64 a,.int .u64 b,.int .u64 c] w fun e w'=>e=.returned (.tuple #[.int .u64 (aw (a+b+min c 1)),.int .u64 (fW (a+b+min c 1))])∧w=w':=by
 refine aa (fn:=Tryz.f291) Tryz.func291 rfl Tryz.ntmps291 (Nat.le_of_ble_eq_true rfl) ?_
 ((refine R.st ?_;(repeat' first|refine And.intro ?_ ?_|intro _);all_goals refine ah.mk ?_);all_goals repeat' (((with_reducible refine aN ?_);first|((with_reducible refine ff ?_);first|refine vd rfl rfl vv vv vv (Ho _ _ _ (by first|exact ha.1|omega) (by first|exact hb.1|omega) xj xj _) ?_));(refine R.st ?_;(repeat' first|refine And.intro ?_ ?_|intro _);all_goals refine ah.mk ?_)))
 exact ⟨rfl,rfl⟩
def bor (a b:Int):Int:=if a<b then 1 else 0
theorem U8 (a b c:Int) (ha:ai a) (hb:ai b) (hc:0≤c) (w:World) :
  Calls Tryz.prog 290 #[.int .u64 a,.int .u64 b,.int .u64 c] w fun e w'=>e=.returned (.tuple #[.int .u64 (aw (a-b-min c 1)),.int .u64 (bor a (b+min c 1))])∧w=w':=by
 refine aa (fn:=Tryz.f290) Tryz.func290 rfl Tryz.ntmps290 (Nat.le_of_ble_eq_true rfl) ?_
 ((refine R.st ?_;(repeat' first|refine And.intro ?_ ?_|intro _);all_goals refine ah.mk ?_);all_goals repeat' (((with_reducible refine aN ?_);first|((with_reducible refine ff ?_);first|refine vd rfl rfl vv vv vv (Hp _ _ _ ha hb xj xj _) ?_));(refine R.st ?_;(repeat' first|refine And.intro ?_ ?_|intro _);all_goals refine ah.mk ?_)))
 exact ⟨rfl,rfl⟩
theorem BH (a b:Int) (ha:ai a) (hb:ai b) (w:World) :
  Calls Tryz.prog 114 #[.int .u64 a,.int .u64 b] w fun e w'=>e=.returned (.tuple #[.int .u64 (fW (a*b)),.int .u64 (aw (a*b))])∧w=w':=by
 unfold ai at ha hb
 obtain ⟨a,rfl⟩:=Int.eq_ofNat_of_zero_le ha.1
 obtain ⟨b,rfl⟩:=Int.eq_ofNat_of_zero_le hb.1
 refine aa (fn:=Tryz.f114) Tryz.func114 rfl Tryz.ntmps114 (Nat.le_of_ble_eq_true rfl) ?_
 ((refine R.st ?_;(repeat' first|refine And.intro ?_ ?_|intro _);all_goals refine ah.mk ?_);all_goals repeat' (((with_reducible refine aN ?_);first|((with_reducible refine ff ?_);first|(refine ar rfl rfl vv vv ?_;refine (Tryz.bits_Mul64 a b xj xj _).mono ?_;rintro e w' ⟨rfl,rfl⟩;refine ⟨_,rfl,?_⟩)));(refine R.st ?_;(repeat' first|refine And.intro ?_ ?_|intro _);all_goals refine ah.mk ?_)))
 have e1:fW ((a:Int)*b)=((a*b / 18446744073709551616:Nat):Int):=by unfold fW;rw [← Int.natCast_mul];omega
 have e2:aw ((a:Int)*b)=((a*b % 18446744073709551616:Nat):Int):=by unfold aw;rw [← Int.natCast_mul];omega
 rw [e1,e2]
 exact ⟨rfl,rfl⟩
theorem U9 (a:Int) (ha:ai a) (w:World) :
  Calls Tryz.prog 178 #[.int .u64 a] w fun e w'=>e=.returned (.int .i64 (Lib.bitLen a.toNat))∧w=w':=by
 unfold ai at ha
 refine aa (fn:=Tryz.f178) Tryz.func178 rfl Tryz.ntmps178 (Nat.le_of_ble_eq_true rfl) ?_
 ((refine R.st ?_;(repeat' first|refine And.intro ?_ ?_|intro _);all_goals refine ah.mk ?_);all_goals repeat' (((with_reducible refine aN ?_);first|((with_reducible refine ff ?_);first|(refine aA rfl rfl vv ?_;refine (Tryz.bits_Len64 a _ ha.1 xj).mono ?_;rintro e w' ⟨rfl,rfl⟩;refine ⟨_,rfl,?_⟩)));(refine R.st ?_;(repeat' first|refine And.intro ?_ ?_|intro _);all_goals refine ah.mk ?_)))
 exact ⟨rfl,rfl⟩
section
def ee (n:Nat):List Value:=[.int .u64 (wd n 0:Nat),.int .u64 (wd n 1:Nat),.int .u64 (wd n 2:Nat),.int .u64 (wd n 3:Nat),.int .u64 (wd n 4:Nat),.int .u64 (wd n 5:Nat),.int .u64 (wd n 6:Nat),.int .u64 (wd n 7:Nat)]
theorem fT (n:Nat):(ee n).length=8:=rfl
theorem kT (n k:Nat) (hk:k<8):(ee n)[k]?=some (.int .u64 (wd n k:Nat)):=by
 match k,hk with
 | 0,_=>rfl
 | 1,_=>rfl
 | 2,_=>rfl
 | 3,_=>rfl
 | 4,_=>rfl
 | 5,_=>rfl
 | 6,_=>rfl
 | 7,_=>rfl
theorem fJ (n:Nat):(ee n).toArray.size=8:=rfl
theorem eC (m n:Nat):(ee m).toArray.size=(ee n).toArray.size:=rfl
theorem fq (n:Nat):((ee n).toArray).all (·.oneCell')=true:=by simp [ee,Value.oneCell']
def WB (w:World) (g n:Nat):Prop:=w.heap[g]?=some (.cells (ee n).toArray 109 (0,0))
theorem WB.new (w:World) (n:Nat):WB (w.alloc (.cells (Value.cells (.agg (ee n).toArray)) 109)) w.heap.size n:=heap_alloc_new w _
theorem eZ:ee 0=[.int .u64 0,.int .u64 0,.int .u64 0,.int .u64 0,.int .u64 0,.int .u64 0,.int .u64 0,.int .u64 0]:=by simp [ee,Af]
theorem WB.sB {w:World} {n g:Nat} (hg:w.heap.size=g):WB (w.alloc (.cells (Value.cells (.agg (ee n).toArray)) 109)) g n:=by
 subst hg
 exact heap_alloc_new w _
theorem WB.zero (w:World):WB (w.alloc (.cells (Value.cells (.agg #[.int .u64 0,.int .u64 0,.int .u64 0,.int .u64 0,.int .u64 0,.int .u64 0,.int .u64 0,.int .u64 0])) 109)) w.heap.size 0:=by
 unfold WB
 rw [heap_alloc_new,eZ]
 rfl
theorem WB.nL {w:World} {g:Nat} (hg:w.heap.size=g):WB (w.alloc (.cells (Value.cells (.agg #[.int .u64 0,.int .u64 0,.int .u64 0,.int .u64 0,.int .u64 0,.int .u64 0,.int .u64 0,.int .u64 0])) 109)) g 0:=by
 subst hg
 exact WB.zero w
section
variable {w w':World} {g n k B:Nat}
theorem WB.lt (h:WB w g n):g<w.heap.size:=by
 rcases Nat.lt_or_ge g w.heap.size with hlt|hge
 ·exact hlt
 ·unfold WB at h;rw [Array.getElem?_eq_none hge] at h;cases h
theorem WB.alloc (h:WB w g n) (o:Obj):WB (w.alloc o) g n:=(Below.heap_alloc w o g h.lt).trans h
theorem WB.ext (h:WB w g n) (hb:Below B w w') (hg:g<B):WB w' g n:=(hb.block g hg).trans h
theorem WB.drew (h:WB w g n):WB w.drew g n:=h
theorem WB.row (h:WB w g n):gZ w ⟨g,0,none⟩ (ee n):=gZ.ql h
theorem WB.cell (h:WB w g n) (hk:k<8):w.cell? ((⟨g,0,none⟩:Addr).add (((k:Nat):Int).toNat*1))=some (.int .u64 (wd n k:Nat)):=by
 rw [Int.toNat_natCast,Nat.mul_one]
 exact h.row k _ (kT n k hk)
theorem WB.fz {i:Int} (h:WB w g n) (hi:i.toNat=k) (hk:k<8):w.cell? ((⟨g,0,none⟩:Addr).add (i.toNat*1))=some (.int .u64 (wd n k:Nat)):=by
 rw [hi,Nat.mul_one]
 exact h.row k _ (kT n k hk)
theorem sC (w:World) (a:Addr):w.drew.cell? a=w.cell? a:=rfl
theorem WB.frozen (h:WB w g n) (a:Addr) (ha:a.block=g):w.frozen? a=false:=by
 subst ha
 unfold WB at h
 simp [World.frozen?,h]
theorem WB.far (h:WB w g n) {a:Addr} (ha:g≠a.block) (u:Value):WB (w.setCell a u) g n:=(Below.heap_setCell w a u g ha).trans h
theorem WB.oH (h:WB w g n) {b:Nat} (hb:g≠b) (cs:Array Value):WB (w.setRow b cs) g n:=by
 unfold WB at h ⊢
 rw [setRow_other w b g cs hb]
 exact h
theorem WB.iJ (h:WB w g n) (m:Nat):WB (w.setRow g (ee m).toArray) g m:=by
 unfold WB at h ⊢
 exact setRow_heap w g _ _ _ _ h
theorem WB.aex (h:WB w g n) {m:Nat} {v:Int} (hv:v=(wd m k:Nat)) (hm:∀ j,j<8→j≠k→wd m j=wd n j):WB (w.setCell ((⟨g,0,none⟩:Addr).add (((k:Nat):Int).toNat*1)) (.int .u64 v)) g m:=by
 rw [Int.toNat_natCast,Nat.mul_one,Addr.add_lit,Nat.zero_add,hv]
 unfold WB at h ⊢
 rw [heap_setCell_same w g k _ _ _ h]
 congr 2
 rw [List.setIfInBounds_toArray]
 congr 1
 refine List.ext_getElem? fun j=>?_
 rcases Nat.lt_or_ge j 8 with hj|hj
 ·rw [kT m j hj,List.getElem?_set]
  split
  ·rename_i e
   subst e
   rw [if_pos (by rw [fT];exact hj)]
  ·rename_i e
   rw [kT n j hj,hm j hj (Ne.symm e)]
 ·rw [List.getElem?_eq_none (by rw [List.length_set,fT];exact hj),List.getElem?_eq_none (by rw [fT];exact hj)]
end
theorem l8 (n k:Nat):ai (wd n k:Nat):=by
 have:=gb n k
 unfold ai
 omega
theorem iA (S k:Nat):∀ j,j<8→j≠k→wd (S % 2 ^ (64*(k+1))) j=wd (S % 2 ^ (64*k)) j:=by
 intro j _ hne
 rcases Nat.lt_or_ge j k with h|h
 ·rw [vx xj,vx h]
 ·have hz:∀ m,m≤j→wd (S % 2 ^ (64*m)) j=0:=fun m hm=>by
   unfold wd
   rw [Nat.div_eq_of_lt (Nat.lt_of_lt_of_le (Nat.mod_lt _ (Nat.pow_pos xj)) (Nat.pow_le_pow_right xj xj))]
  rw [hz k h,hz (k+1) (by omega)]
theorem jQ (S k:Nat):wd (S % 2 ^ (64*(k+1))) k=wd S k:=vx xj
theorem oI (S:Nat):S % 2 ^ (64*0)=0:=by simp [Nat.mod_one]
theorem eD {B g:Nat} {w:World} (hg:B≤g) (cs:Array Value):Below B w (w.setRow g cs) :=
 ⟨rfl,rfl,rfl,by simp [World.setRow],fun k hk=>setRow_other w g k cs xj⟩
theorem PZ (x y:Nat):Cc x y % fI 8=Cc x y:=by
 have:=Gj x y
 unfold aq at this
 exact Nat.mod_eq_of_lt this
theorem sD {P:Program} {C:bO} {o:Oper} {f:R.Fr} {w:World} {K:Value→World→Prop} {t:TypeId} {a b:Operand} {g k n m:Nat} {v:Int} (hop:o.op=.store t a b)
  (hx:ev f a=.pointer (some ((⟨g,0,none⟩:Addr).add (((k:Nat):Int).toNat*1)))) (hy:ev f b=.int .u64 v) [dP P t 1] (hb:WB w g n) (hk:k<8) (hv:v=(wd m k:Nat)) (hm:∀ j,j<8→j≠k→wd m j=wd n j)
  (h:∀ w',WB w' g m→(∀ g' n',g'≠g→WB w g' n'→WB w' g' n')→(∀ B,B≤g→Below B w w')→K undef w'):WO P C o f w K :=
 have hbl:((⟨g,0,none⟩:Addr).add (((k:Nat):Int).toNat*1)).block=g:=by rw [Addr.add_lit]
 R.fb hop hx hy (by rw [hb.cell hk];rfl) (hb.frozen _ hbl) (h _ (hb.aex hv hm) (fun g' n' hne hg'=>hg'.far (by rw [hbl];exact hne) _) (fun B hB=>(Below.refl B w).setCell (by rw [hbl];exact hB) _))
set_option maxHeartbeats 1000000 in
theorem qX (x y:Nat) (hx:x<aq) (hy:y<aq) (w:World) :
  Calls Tryz.prog 237 #[.agg (ee x).toArray,.agg (ee y).toArray] w fun e w'=>e=.returned (.tuple #[.agg (ee ((x+y) % aq)).toArray,.bool (decide (x+y<aq))])∧Below w.heap.size w w':=by
 refine aa (fn:=Tryz.f237) Tryz.func237 rfl Tryz.ntmps237 (Nat.le_of_ble_eq_true rfl) ?_
 (refine R.st ?_;(repeat' first|refine And.intro ?_ ?_|intro _);all_goals refine ah.mk ?_)
 refine au (fun k:Nat=>[(2,.pointer (some ⟨w.heap.size,0,none⟩)),(3,.pointer (some ⟨w.heap.size+1,0,none⟩)),(4,.pointer (some ⟨w.heap.size+2,0,none⟩)),(6,.pointer (some ⟨w.heap.size+3,0,none⟩)),(7,.int .u64 (IV x y k:Nat)),(9,.int .i64 (k:Nat))])
  (fun k w1=>k≤8∧WB w1 w.heap.size x∧WB w1 (w.heap.size+1) y∧WB w1 (w.heap.size+2) 0∧WB w1 (w.heap.size+3) ((x+y) % 2 ^ (64*k))∧Below w.heap.size w w1) (fun k=>8-k)
  ⟨0,⟨rfl,p6 rfl (by simp),p6 rfl (by simp),p6 rfl (by simp),by rw [NK];rfl,rfl,trivial⟩,by omega,?_⟩ ?_
 ·rw [oI]
  exact ⟨(((WB.sB rfl).alloc _).alloc _).alloc _,((WB.sB (by simp)).alloc _).alloc _,(WB.nL (by simp)).alloc _,WB.nL (by simp),(((Below.refl _ w).alloc (Nat.le_refl _) _ |>.alloc (by simp) _).alloc (by simp;omega) _).alloc (by simp;omega) _⟩
 rintro k f w1 ⟨hk,b0,b1,b2,b3,hb⟩
 by_cases hlt:k<8
 ·have c0:=b0.cell hlt
  have c1:=b1.cell hlt
  have c3:=b3.cell hlt
  (refine R.st ?_;(repeat' first|refine And.intro ?_ ?_|intro _);all_goals refine ah.mk ?_)
  refine nZ (fun w2=>WB w2 w.heap.size x∧WB w2 (w.heap.size+1) y) [(0,false),(1,false),(2,false),(3,false),(4,false),(5,false),(6,false),(7,false),(8,true),(9,false),(10,false),(11,false),(12,false),(13,true),(14,false)] R.mixed wx ?_ ?_
  ·exact ⟨b0.drew,b1.drew⟩
  ((refine R.st ?_;(repeat' first|refine And.intro ?_ ?_|intro _);all_goals refine ah.mk ?_);all_goals repeat' ((first|((with_reducible refine aN ?_);first|((with_reducible refine bM ?_);refine bu rfl rfl (by first|assumption|exact hS.1.cell hlt|exact hS.2.cell hlt) ?_))|((with_reducible refine gJ ?_);first|(refine' FT rfl rfl ?_ ?_ (fun hS=>?_);rotate_left;(intro w0 hS;((with_reducible refine aN ?_);first|((with_reducible refine bM ?_);refine bu rfl rfl (by first|assumption|exact hS.1.cell hlt|exact hS.2.cell hlt) ?_));exact ⟨rfl,rfl⟩);rfl)));(refine R.st ?_;(repeat' first|refine And.intro ?_ ?_|intro _);all_goals refine ah.mk ?_)))
  refine fF rfl rfl vv vv vv ?_;refine (BG _ _ _ (l8 _ _) (l8 _ _) xj _).mono ?_
  rintro e w' ⟨rfl,rfl⟩
  refine ⟨_,rfl,hS,?_⟩
  (refine R.st ?_;(repeat' first|refine And.intro ?_ ?_|intro _);all_goals refine ah.mk ?_)
  obtain ⟨hc1,hc2⟩:=NL x y k
  have hcl:=Ya x y k
  refine sD rfl rfl rfl b3.drew hlt (m:=(x+y) % 2 ^ (64*(k+1))) ?_ (iA _ _) fun w2 d3 far bel=>?_
  ·rw [jQ]
   unfold aw
   omega
  refine ⟨⟨far _ _ xj b0.drew,far _ _ xj b1.drew⟩,?_⟩
  (refine R.st ?_;(repeat' first|refine And.intro ?_ ?_|intro _);all_goals refine ah.mk ?_)
  exact ⟨k+1,⟨rfl,rfl,rfl,rfl,aF rfl (by unfold fW;omega),aF rfl xj,trivial⟩,⟨by omega,far _ _ xj b0.drew,far _ _ xj b1.drew,far _ _ xj b2.drew,d3,hb.drew.trans (bel _ xj)⟩,by omega⟩
 ·obtain rfl:k=8:=by omega
  (refine R.st ?_;(repeat' first|refine And.intro ?_ ?_|intro _);all_goals refine ah.mk ?_)
  rw [gQ 8] at b3
  refine bP rfl rfl rfl b3.row ?_
  (refine R.st ?_;(repeat' first|refine And.intro ?_ ?_|intro _);all_goals refine ah.mk ?_)
  refine dm rfl rfl rfl (fJ _) b2 (eC _ _) (fq _) ?_
  (refine R.st ?_;(repeat' first|refine And.intro ?_ ?_|intro _);all_goals refine ah.mk ?_)
  have hflag:decide (((IV x y 8:Nat):Int)=0)=decide (x+y<aq):=decide_eq_decide.2 (Int.natCast_eq_zero.trans (Tn hx hy))
  refine xP (.inl rfl) rfl rfl (xo rfl hflag) rfl (b2.iJ _).row ?_
  exact ⟨rfl,hb.trans (eD xj _)⟩
set_option maxHeartbeats 1000000 in
theorem qY (x y:Nat) (hx:x<aq) (hy:y<aq) (w:World) :
  Calls Tryz.prog 235 #[.agg (ee x).toArray,.agg (ee y).toArray] w fun e w'=>e=.returned (.tuple #[.agg (ee (Cc x y)).toArray,.bool (decide (y≤x))])∧Below w.heap.size w w':=by
 refine aa (fn:=Tryz.f235) Tryz.func235 rfl Tryz.ntmps235 (Nat.le_of_ble_eq_true rfl) ?_
 (refine R.st ?_;(repeat' first|refine And.intro ?_ ?_|intro _);all_goals refine ah.mk ?_)
 refine au (fun k:Nat=>[(2,.pointer (some ⟨w.heap.size,0,none⟩)),(3,.pointer (some ⟨w.heap.size+1,0,none⟩)),(4,.pointer (some ⟨w.heap.size+2,0,none⟩)),(6,.pointer (some ⟨w.heap.size+3,0,none⟩)),(7,.int .u64 (KS x y k:Nat)),(9,.int .i64 (k:Nat))])
  (fun k w1=>k≤8∧WB w1 w.heap.size x∧WB w1 (w.heap.size+1) y∧WB w1 (w.heap.size+2) 0∧WB w1 (w.heap.size+3) (Cc x y % 2 ^ (64*k))∧Below w.heap.size w w1) (fun k=>8-k)
  ⟨0,⟨rfl,p6 rfl (by simp),p6 rfl (by simp),p6 rfl (by simp),by rw [NN];rfl,rfl,trivial⟩,by omega,?_⟩ ?_
 ·rw [oI]
  exact ⟨(((WB.sB rfl).alloc _).alloc _).alloc _,((WB.sB (by simp)).alloc _).alloc _,(WB.nL (by simp)).alloc _,WB.nL (by simp),(((Below.refl _ w).alloc (Nat.le_refl _) _ |>.alloc (by simp) _).alloc (by simp;omega) _).alloc (by simp;omega) _⟩
 rintro k f w1 ⟨hk,b0,b1,b2,b3,hb⟩
 by_cases hlt:k<8
 ·have c0:=b0.cell hlt
  have c1:=b1.cell hlt
  have c3:=b3.cell hlt
  (refine R.st ?_;(repeat' first|refine And.intro ?_ ?_|intro _);all_goals refine ah.mk ?_)
  refine nZ (fun w2=>WB w2 w.heap.size x∧WB w2 (w.heap.size+1) y) [(0,false),(1,false),(2,false),(3,false),(4,false),(5,false),(6,false),(7,false),(8,true),(9,false),(10,false),(11,false),(12,false),(13,true),(14,false)] R.mixed wx ?_ ?_
  ·exact ⟨b0.drew,b1.drew⟩
  ((refine R.st ?_;(repeat' first|refine And.intro ?_ ?_|intro _);all_goals refine ah.mk ?_);all_goals repeat' ((first|((with_reducible refine aN ?_);first|((with_reducible refine bM ?_);refine bu rfl rfl (by first|assumption|exact hS.1.cell hlt|exact hS.2.cell hlt) ?_))|((with_reducible refine gJ ?_);first|(refine' FT rfl rfl ?_ ?_ (fun hS=>?_);rotate_left;(intro w0 hS;((with_reducible refine aN ?_);first|((with_reducible refine bM ?_);refine bu rfl rfl (by first|assumption|exact hS.1.cell hlt|exact hS.2.cell hlt) ?_));exact ⟨rfl,rfl⟩);rfl)));(refine R.st ?_;(repeat' first|refine And.intro ?_ ?_|intro _);all_goals refine ah.mk ?_)))
  refine fF rfl rfl vv vv vv ?_;refine (U8 _ _ _ (l8 _ _) (l8 _ _) xj _).mono ?_
  rintro e w' ⟨rfl,rfl⟩
  refine ⟨_,rfl,hS,?_⟩
  (refine R.st ?_;(repeat' first|refine And.intro ?_ ?_|intro _);all_goals refine ah.mk ?_)
  have hc1:=NR x y k hlt hy
  have hcl:=NP x y k
  have hcl1:=NP x y (k+1)
  have hdw:=gb (Cc x y) k
  have hxw:=gb x k
  have hyw:=gb y k
  refine sD rfl rfl rfl b3.drew hlt (m:=Cc x y % 2 ^ (64*(k+1))) ?_ (iA _ _) fun w2 d3 far bel=>?_
  ·rw [jQ]
   unfold aw
   omega
  refine ⟨⟨far _ _ xj b0.drew,far _ _ xj b1.drew⟩,?_⟩
  (refine R.st ?_;(repeat' first|refine And.intro ?_ ?_|intro _);all_goals refine ah.mk ?_)
  exact ⟨k+1,⟨rfl,rfl,rfl,rfl,aF rfl (by unfold bor;split <;> omega),aF rfl xj,trivial⟩,⟨by omega,far _ _ xj b0.drew,far _ _ xj b1.drew,far _ _ xj b2.drew,d3,hb.drew.trans (bel _ xj)⟩,by omega⟩
 ·obtain rfl:k=8:=by omega
  (refine R.st ?_;(repeat' first|refine And.intro ?_ ?_|intro _);all_goals refine ah.mk ?_)
  rw [gQ 8,PZ] at b3
  refine bP rfl rfl rfl b3.row ?_
  (refine R.st ?_;(repeat' first|refine And.intro ?_ ?_|intro _);all_goals refine ah.mk ?_)
  refine dm rfl rfl rfl (fJ _) b2 (eC _ _) (fq _) ?_
  (refine R.st ?_;(repeat' first|refine And.intro ?_ ?_|intro _);all_goals refine ah.mk ?_)
  have hflag:decide (((KS x y 8:Nat):Int)=0)=decide (y≤x):=decide_eq_decide.2 (Int.natCast_eq_zero.trans (To hx hy))
  refine xP (.inl rfl) rfl rfl (xo rfl hflag) rfl (b2.iJ _).row ?_
  exact ⟨rfl,hb.trans (eD xj _)⟩
end
section
def wl (n:Nat):List Int:=[(wd n 0:Nat),(wd n 1:Nat),(wd n 2:Nat),(wd n 3:Nat),(wd n 4:Nat),(wd n 5:Nat),(wd n 6:Nat),(wd n 7:Nat)]
theorem P0 {m n:Nat} (hm:m<aq) (hn:n<aq):wl m=wl n↔m=n:=by
 refine ⟨fun h=>?_,fun h=>by rw [h]⟩
 simp only [wl,List.cons.injEq,Int.natCast_inj,and_true] at h
 obtain ⟨h0,h1,h2,h3,h4,h5,h6,h7⟩:=h
 refine KR (m:=8) hm hn fun k hk=>?_
 match k,hk with
 | 0,_=>exact h0
 | 1,_=>exact h1
 | 2,_=>exact h2
 | 3,_=>exact h3
 | 4,_=>exact h4
 | 5,_=>exact h5
 | 6,_=>exact h6
 | 7,_=>exact h7
theorem aey:Tryz.prog.underlying 107=some (.int .u64):=by kernel_rfl
theorem abk:aY Tryz.prog 107=some false:=by kernel_rfl
theorem aez:Tryz.prog.eqGuardType Tryz.prog.depth 109=false:=by kernel_rfl
section
variable {C:bO} {o:Oper} {f:R.Fr} {w:World} {K:Value→World→Prop} {u:TypeId} {x y i:Operand} {m n:Nat}
theorem ug (hop:o.op=.binOp .eql 109 x y u) (hx:ev f x=.agg (ee m).toArray) (hy:ev f y=.agg (ee n).toArray) (hm:m<aq) (hn:n<aq) (h:K (.bool (decide (m=n))) w):WO Tryz.prog C o f w K :=
 KL (k:=.u64) (a:=wl m) (b:=wl n) hop hx hy aey abk aez rfl rfl (by rw [show decide (wl m=wl n)=decide (m=n) from decide_eq_decide.2 (P0 hm hn)];exact h)
theorem P1:Tryz.prog.built 109 []=some #[.int .u64 0,.int .u64 0,.int .u64 0,.int .u64 0,.int .u64 0,.int .u64 0,.int .u64 0,.int .u64 0]:=by kernel_rfl
theorem P3 (a:Int):Tryz.prog.built 109 [(0,.int .u64 a)]=some #[.int .u64 a,.int .u64 0,.int .u64 0,.int .u64 0,.int .u64 0,.int .u64 0,.int .u64 0,.int .u64 0]:=by kernel_rfl
theorem EO {n k:Nat} (h:n<2 ^ (64*k)):wd n k=0:=by
 unfold wd
 rw [Nat.div_eq_of_lt h,Nat.zero_mod]
theorem U4 (a b:Nat) (ha:a<18446744073709551616) (hb:b<18446744073709551616):ee (a+b*18446744073709551616)=[.int .u64 (a:Nat),.int .u64 (b:Nat),.int .u64 0,.int .u64 0,.int .u64 0,.int .u64 0,.int .u64 0,.int .u64 0]:=by
 have hs:∀ k,2≤k→wd (a+b*18446744073709551616) k=0:=fun k hk=>EO (Nat.lt_of_lt_of_le (by omega:_<2 ^ (64*2)) (Nat.pow_le_pow_right xj xj))
 have h0:wd (a+b*18446744073709551616) 0=a:=by unfold wd;omega
 have h1:wd (a+b*18446744073709551616) 1=b:=by unfold wd;omega
 unfold ee
 rw [h0,h1,hs 2 xj,hs 3 xj,hs 4 xj,hs 5 xj,hs 6 xj,hs 7 (by omega)]
 rfl
theorem BF (a:Nat) (ha:a<18446744073709551616):ee a=[.int .u64 (a:Nat),.int .u64 0,.int .u64 0,.int .u64 0,.int .u64 0,.int .u64 0,.int .u64 0,.int .u64 0]:=by
 have:=U4 a 0 ha xj
 rw [Nat.zero_mul,Nat.add_zero] at this
 exact this
theorem Hf (hop:o.op=.build 109 #[]) (h:K (.agg (ee 0).toArray) w):WO Tryz.prog C o f w K :=
 qx hop (cells:=(ee 0).toArray) (by rw [eZ,← P1];simp) h
theorem Hg {a:Int} (hop:o.op=.build 109 #[(0,x)]) (hx:ev f x=.int .u64 a) (ha:ai a) (h:K (.agg (ee a.toNat).toArray) w):WO Tryz.prog C o f w K:=by
 unfold ai at ha
 refine qx hop (cells:=(ee a.toNat).toArray) ?_ h
 rw [BF _ xj,Int.toNat_of_nonneg ha.1,← P3]
 simp [hx]
theorem uh {j:Int} {k:IntKind} (hop:o.op=.index 109 x i) (hx:ev f x=.agg (ee m).toArray) (hi:ev f i=.int k j) (h0:0≤j) (h1:j<8) (h:K (.int .u64 (wd m j.toNat:Nat)) w):WO Tryz.prog C o f w K :=
 Ti hop rfl abk hx hi h0 h1 (kT m _ xj) h
end
theorem U5 (a:Nat) (ha:a<18446744073709551616) (w:World) :
  Calls Tryz.prog 161 #[.int .u64 (a:Nat)] w fun e w'=>e=.returned (.agg (ee a).toArray)∧Below w.heap.size w w':=by
 refine aa (fn:=Tryz.f161) Tryz.func161 rfl Tryz.ntmps161 (Nat.le_of_ble_eq_true rfl) ?_
 (refine R.st ?_;(repeat' first|refine And.intro ?_ ?_|intro _);all_goals refine ah.mk ?_)
 refine Hg rfl rfl (by unfold ai;omega) ?_
 rw [Int.toNat_natCast]
 (refine R.st ?_;(repeat' first|refine And.intro ?_ ?_|intro _);all_goals refine ah.mk ?_)
 refine dm rfl rfl rfl (fJ _) (WB.zero w) (eC 0 a) (fq _) ?_
 (refine R.st ?_;(repeat' first|refine And.intro ?_ ?_|intro _);all_goals refine ah.mk ?_)
 refine M4 (.inl rfl) rfl rfl rfl (WB.iJ (WB.zero w) _).row ?_
 exact ⟨rfl,((Below.refl _ w).alloc (Nat.le_refl _) _).trans (eD (Nat.le_refl _) _)⟩
theorem oJ (a:Nat) (ha:a<aq) (w:World) :
  Calls Tryz.prog 118 #[.agg (ee a).toArray] w fun e w'=>e=.returned (.bool (decide (a=0)))∧Below w.heap.size w w':=by
 refine aa (fn:=Tryz.f118) Tryz.func118 rfl Tryz.ntmps118 (Nat.le_of_ble_eq_true rfl) ?_
 (refine R.st ?_;(repeat' first|refine And.intro ?_ ?_|intro _);all_goals refine ah.mk ?_)
 refine bP rfl rfl rfl (WB.new w a).row ?_
 (refine R.st ?_;(repeat' first|refine And.intro ?_ ?_|intro _);all_goals refine ah.mk ?_)
 refine Hf rfl ?_
 (refine R.st ?_;(repeat' first|refine And.intro ?_ ?_|intro _);all_goals refine ah.mk ?_)
 refine ug rfl rfl rfl ha bK ?_
 (refine R.st ?_;(repeat' first|refine And.intro ?_ ?_|intro _);all_goals refine ah.mk ?_)
 exact ⟨rfl,(Below.refl _ w).alloc (Nat.le_refl _) _⟩
theorem U6 (a:Int) (w:World):Calls Tryz.prog 177 #[.int .u64 a] w fun e w'=>e=.returned (.bool false)∧w=w':=by
 refine aa (fn:=Tryz.f177) Tryz.func177 rfl Tryz.ntmps177 (Nat.le_of_ble_eq_true rfl) ?_
 (refine R.st ?_;(repeat' first|refine And.intro ?_ ?_|intro _);all_goals refine ah.mk ?_)
 exact ⟨by simp,rfl⟩
def mL (x y:Nat):Int:=if x<y then -1 else if y<x then 1 else 0
theorem tq (a b:Int) (w:World) :
  Calls Tryz.prog 115 #[.int .u64 a,.int .u64 b] w fun e w'=>e=.returned (.int .i64 (if a<b then -1 else if b<a then 1 else 0))∧w=w':=by
 refine aa (fn:=Tryz.f115) Tryz.func115 rfl Tryz.ntmps115 (Nat.le_of_ble_eq_true rfl) ?_
 ((refine R.st ?_;(repeat' first|refine And.intro ?_ ?_|intro _);all_goals refine ah.mk ?_);all_goals repeat' (((with_reducible refine aN ?_);first|((with_reducible refine ff ?_);first|(refine aA rfl rfl vv ?_;refine (U6 _ _).mono ?_;rintro e w' ⟨rfl,rfl⟩;refine ⟨_,rfl,?_⟩)));(refine R.st ?_;(repeat' first|refine And.intro ?_ ?_|intro _);all_goals refine ah.mk ?_)))
 ·exact ⟨by rw [if_pos (by assumption)],rfl⟩
 ·exact ⟨by rw [if_neg ww,if_pos (by omega)],rfl⟩
 ·exact ⟨by rw [if_neg ww,if_neg (by omega)],rfl⟩
set_option maxHeartbeats 1000000 in
theorem qZ (x y:Nat) (hx:x<aq) (hy:y<aq) (w:World) :
  Calls Tryz.prog 184 #[.agg (ee x).toArray,.agg (ee y).toArray] w fun e w'=>e=.returned (.int .i64 (mL x y))∧Below w.heap.size w w':=by
 refine aa (fn:=Tryz.f184) Tryz.func184 rfl Tryz.ntmps184 (Nat.le_of_ble_eq_true rfl) ?_
 (refine R.st ?_;(repeat' first|refine And.intro ?_ ?_|intro _);all_goals refine ah.mk ?_)
 refine au (fun k:Nat=>[(2,.pointer (some ⟨w.heap.size,0,none⟩)),(3,.pointer (some ⟨w.heap.size+1,0,none⟩)),(5,.int .i64 ((k:Int)-1))])
  (fun k w1=>k≤8∧x / 2 ^ (64*k)=y / 2 ^ (64*k)∧WB w1 w.heap.size x∧WB w1 (w.heap.size+1) y∧Below w.heap.size w w1) (fun k=>k)
  ⟨8,⟨rfl,p6 rfl (by simp),rfl,trivial⟩,by omega,?_⟩ ?_
 ·have hz:∀ n,n<aq→n / 2 ^ (64*8)=0:=fun n hn=>by
   rw [gQ 8]
   exact Nat.div_eq_of_lt hn
  exact ⟨by rw [hz x hx,hz y hy],(WB.sB rfl).alloc _,WB.sB (by simp),((Below.refl _ w).alloc (Nat.le_refl _) _).alloc (by simp) _⟩
 rintro k f w1 ⟨hk,htop,b0,b1,hb⟩
 by_cases hlt:0<k
 ·have c0:=b0.fz (i:=(k:Int)-1) (k:=k-1) xj xj
  have c1:=b1.fz (i:=(k:Int)-1) (k:=k-1) xj xj
  have d0:=c0
  have d1:=c1
  rw [← sC] at d0 d1
  (refine R.st ?_;(repeat' first|refine And.intro ?_ ?_|intro _);all_goals refine ah.mk ?_)
  refine ar rfl rfl vv vv ?_;refine ⟨rfl,_,(tq _ _ _).mono (fun _ _ h=>⟨h.1,h.2.symm⟩),?_⟩
  obtain ⟨k,rfl⟩:∃ j,k=j+1:=⟨k-1,by omega⟩
  rw [Nat.add_sub_cancel]
  rcases Nat.lt_trichotomy (wd x k) (wd y k) with h|h|h
  ·rw [if_pos (by omega)]
   (refine R.st ?_;(repeat' first|refine And.intro ?_ ?_|intro _);all_goals refine ah.mk ?_)
   exact ⟨by rw [mL,if_pos (x7 k htop h)],hb.drew⟩
  ·rw [if_neg xj,if_neg (by omega)]
   (refine R.st ?_;(repeat' first|refine And.intro ?_ ?_|intro _);all_goals refine ah.mk ?_)
   exact ⟨k,⟨rfl,rfl,aF rfl xj,trivial⟩,⟨by omega,NS k htop h,b0,b1,hb.drew⟩,by omega⟩
  ·rw [if_neg xj,if_pos (by omega)]
   (refine R.st ?_;(repeat' first|refine And.intro ?_ ?_|intro _);all_goals refine ah.mk ?_)
   have:=x7 k htop.symm h
   exact ⟨by rw [mL,if_neg xj,if_pos this],hb.drew⟩
 ·obtain rfl:k=0:=by omega
  (refine R.st ?_;(repeat' first|refine And.intro ?_ ?_|intro _);all_goals refine ah.mk ?_)
  rw [Nat.mul_zero,Nat.pow_zero,Nat.div_one,Nat.div_one] at htop
  exact ⟨by rw [mL,if_neg xj,if_neg (by omega)],hb⟩
end
end Go.Proofs.YtlmabdegojeheaaGreatDoor
