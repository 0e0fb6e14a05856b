/- WholeTurned: parts of its proof (Zf Opn Open Cl Cf Nt). -/
import Derived.Test.YtlmabdegojeheaaGreatDoorR6Ze
import Derived.Test.YtlmabdegojeheaaGreatDoorEncsWGo
import Derived.Test.YtlmabdegojeheaaGreatDoorFrame
import Derived.ProofKit
import Derived.OpenShut
import Derived.Deep.Slices
import Derived.Test.YtlmabdegojeheaaGreatDoorWNum2Wide3
import Derived.Test.YtlmabdegojeheaaGreatDoorWxWy
import Derived.Test.YtlmabdegojeheaaGreatDoorVGo
namespace Go.Proofs.YtlmabdegojeheaaGreatDoor
open R Go.RowKit
theorem cC {a b:Int}:aR a b<0↔a<b:=by
 unfold aR
 split
 ·omega
 ·split <;> omega
theorem kz {a b:Int}:aR a b=0↔a=b:=by
 unfold aR
 split
 ·omega
 ·split <;> omega
theorem rl {a b:Int}:te a b<0↔a<0∨a=0∧b<0:=by
 unfold te
 split <;> omega
theorem cq {a:Sp} (h:bo a=true):0<a.w.n∧a.x.br.n<2 ^ 120∧a.y.br.n<2 ^ 120∧a.w.n<2 ^ 120∧a.x=a8 a.x.z∧a.y=a8 a.y.z∧Nat.gcd (Nat.gcd a.x.z.natAbs a.y.z.natAbs) a.w.n=1:=by
 unfold bo at h
 simp only [Bool.and_eq_true,Bool.not_eq_true',decide_eq_false_iff_not,decide_eq_true_eq] at h
 obtain ⟨h0,h1,h2,h3,h4⟩:=h
 have len:∀ {n:Nat},iy n=true→n<2 ^ 120:=fun {n} h=>by
  unfold iy at h
  have h:=of_decide_eq_true h
  have h5:bitLen n≤120:=by omega
  exact Nat.lt_of_lt_of_le (bitLen_spec n).1 (Nat.pow_le_pow_right vj h5)
 have hw:=congrArg Sp.w h4
 have hx:=congrArg Sp.x h4
 have hy:=congrArg Sp.y h4
 have hG:(gS a.x a.y a.w).n=1:=by
  have e:a.w.n=a.w.n / (gS a.x a.y a.w).n:=by
   have:=congrArg Wd.n hw
   rwa [show (nH a.x a.y a.w).w=qW a.w (gS a.x a.y a.w) from rfl,QR] at this
  have hd:(gS a.x a.y a.w).n ∣ a.w.n:=by
   unfold gS
   rw [gU]
   exact Nat.gcd_dvd_right _ _
  obtain ⟨k,hk⟩:=hd
  have hp:0<(gS a.x a.y a.w).n:=by
   rcases Nat.eq_zero_or_pos (gS a.x a.y a.w).n with z|z
   ·rw [z] at hk
    omega
   ·exact z
  rw [hk,Nat.mul_div_cancel_left k hp] at e
  have hkp:0<k:=by
   rcases Nat.eq_zero_or_pos k with z|z
   ·rw [z] at hk
    omega
   ·exact z
  exact Nat.eq_of_mul_eq_mul_right hkp xj
 refine ⟨by omega,len h1,len h2,len h3,?_,?_,?_⟩
 ·have e:a.x=a8 (⟨a.x.neg,qW a.x.br (gS a.x a.y a.w)⟩:Sg).z:=hx
  have e2:qW a.x.br (gS a.x a.y a.w)=a.x.br:=Wd.lq (by rw [QR,hG,Nat.div_one])
  rw [e2] at e
  exact e
 ·have e:a.y=a8 (⟨a.y.neg,qW a.y.br (gS a.x a.y a.w)⟩:Sg).z:=hy
  have e2:qW a.y.br (gS a.x a.y a.w)=a.y.br:=Wd.lq (by rw [QR,hG,Nat.div_one])
  rw [e2] at e
  exact e
 ·have:=hG
  unfold gS at this
  rw [gU,gU,← a.x.abs,← a.y.abs] at this
  exact this
theorem uo {a:Int} {n:Nat} (ha:a.natAbs<2 ^ 120) (hn:n<2 ^ 120):(a*(n:Int)).natAbs<aq:=by
 rw [Int.natAbs_mul,Int.natAbs_natCast]
 have h1:a.natAbs*n<2 ^ 240:=by
  have:=Nat.mul_lt_mul'' ha hn
  rwa [← Nat.pow_add] at this
 have h2:(2:Nat) ^ 240≤aq:=Nat.le_trans (Nat.pow_le_pow_right vj (show 240≤64*4 by decide)) (vy (k:=4) (m:=8) vj)
 exact Nat.lt_of_lt_of_le h1 h2
theorem w_z (m:Wd):(⟨false,m⟩:Sg).z=(m.n:Int):=rfl
theorem uq {a b:Sg} {v m:Wd} (ha:a.br.n<2 ^ 120) (hb:b.br.n<2 ^ 120) (hv:v.n<2 ^ 120) (hm:m.n<2 ^ 120):Lj a b v m=aR (a.z*(m.n:Int)) (b.z*(v.n:Int)):=by
 rw [← a.abs] at ha
 rw [← b.abs] at hb
 unfold Lj
 rw [w_z,w_z,oB (uo ha hm),oB (uo hb hv),lX (uo ha hm),lX (uo hb hv)]
theorem Vk {a b:Sp} (ha:bo a=true) (hb:bo b=true):d9 a b=te (aR (a.x.z*(b.w.n:Int)) (b.x.z*(a.w.n:Int))) (aR (a.y.z*(b.w.n:Int)) (b.y.z*(a.w.n:Int))):=by
 obtain ⟨_,a1,a2,a3,_⟩:=cq ha
 obtain ⟨_,b1,b2,b3,_⟩:=cq hb
 unfold d9
 rw [uq a1 b1 a3 b3,uq a2 b2 a3 b3]
theorem nQ {a b:Sp} (ha:bo a=true) (hb:bo b=true):d9 a b<0↔a.x.z*(b.w.n:Int)<b.x.z*(a.w.n:Int)∨a.x.z*(b.w.n:Int)=b.x.z*(a.w.n:Int)∧a.y.z*(b.w.n:Int)<b.y.z*(a.w.n:Int):=by
 rw [Vk ha hb,rl,cC,kz,cC]
theorem ja {x y z:Int} {u v w:Int} (hv:0<v) (hw:0<w) (hu:0<u) (h1:x*v≤y*u) (h2:y*w≤z*v):x*w≤z*u∧(x*v<y*u∨y*w<z*v→x*w<z*u)∧(x*w=z*u→x*v=y*u∧y*w=z*v):=by
 have a1:x*v*w≤y*u*w:=Int.mul_le_mul_of_nonneg_right h1 xj
 have a2:y*w*u≤z*v*u:=Int.mul_le_mul_of_nonneg_right h2 xj
 have e1:x*v*w=x*w*v:=by grind
 have e2:y*u*w=y*w*u:=by grind
 have e3:z*v*u=z*u*v:=by grind
 have a3:x*w*v≤z*u*v:=by omega
 have le:x*w≤z*u:=Int.le_of_mul_le_mul_right a3 hv
 have lt:x*v<y*u∨y*w<z*v→x*w<z*u:=fun h=>by
  refine Int.lt_of_mul_lt_mul_right (a:=v) ?_ xj
  rcases h with h|h
  ·have:=Int.mul_lt_mul_of_pos_right h hw
   omega
  ·have:=Int.mul_lt_mul_of_pos_right h hu
   omega
 refine ⟨le,lt,fun e=>?_⟩
 constructor
 ·rcases Int.lt_or_eq_of_le h1 with h|h
  ·have:=lt (.inl h)
   omega
  ·exact h
 ·rcases Int.lt_or_eq_of_le h2 with h|h
  ·have:=lt (.inr h)
   omega
  ·exact h
theorem wN {a b c:Sp} (ha:bo a=true) (hb:bo b=true) (hc:bo c=true) (h1:d9 a b<0) (h2:d9 b c<0):d9 a c<0:=by
 rw [nQ ha hb] at h1
 rw [nQ hb hc] at h2
 rw [nQ ha hc]
 have pa:(0:Int)<a.w.n:=by have:=(cq ha).1;omega
 have pb:(0:Int)<b.w.n:=by have:=(cq hb).1;omega
 have pc:(0:Int)<c.w.n:=by have:=(cq hc).1;omega
 have X:=ja (x:=a.x.z) (y:=b.x.z) (z:=c.x.z) pb pc pa xj xj
 rcases h1 with h1|⟨h1,h1'⟩
 ·exact .inl (X.2.1 (.inl h1))
 ·rcases h2 with h2|⟨h2,h2'⟩
  ·exact .inl (X.2.1 (.inr h2))
  ·have Y:=ja (x:=a.y.z) (y:=b.y.z) (z:=c.y.z) pb pc pa xj xj
   have Z:=ja (x:=c.x.z) (y:=b.x.z) (z:=a.x.z) pb pa pc xj xj
   exact .inr ⟨by have:=X.1;have:=Z.1;omega,Y.2.1 (.inl h1')⟩
theorem rm {a b:Sp} (ha:bo a=true) (hb:bo b=true):¬ d9 a b<0↔b.x.z*(a.w.n:Int)<a.x.z*(b.w.n:Int)∨b.x.z*(a.w.n:Int)=a.x.z*(b.w.n:Int)∧b.y.z*(a.w.n:Int)≤a.y.z*(b.w.n:Int):=by
 rw [nQ ha hb]
 omega
theorem Fb {a b c:Sp} (ha:bo a=true) (hb:bo b=true) (hc:bo c=true) (h1:¬ d9 a b<0) (h2:¬ d9 b c<0):¬ d9 a c<0:=by
 rw [rm ha hb] at h1
 rw [rm hb hc] at h2
 rw [rm ha hc]
 have pa:(0:Int)<a.w.n:=by have:=(cq ha).1;omega
 have pb:(0:Int)<b.w.n:=by have:=(cq hb).1;omega
 have pc:(0:Int)<c.w.n:=by have:=(cq hc).1;omega
 have X:=ja (x:=c.x.z) (y:=b.x.z) (z:=a.x.z) pb pa pc xj xj
 rcases h1 with h1|⟨h1,h1'⟩
 ·exact .inl (X.2.1 (.inr h1))
 ·rcases h2 with h2|⟨h2,h2'⟩
  ·exact .inl (X.2.1 (.inl h2))
  ·have Y:=ja (x:=c.y.z) (y:=b.y.z) (z:=a.y.z) pb pa pc xj xj
   have Z:=ja (x:=a.x.z) (y:=b.x.z) (z:=c.x.z) pb pc pa xj xj
   exact .inr ⟨by have:=X.1;have:=Z.1;omega,Y.1⟩
theorem rn {a:Sp} (ha:bo a=true):¬ d9 a a<0:=by
 rw [nQ ha ha]
 omega
theorem sH {a b:Sp} (ha:bo a=true) (hb:bo b=true) (h1:¬ d9 a b<0) (h2:¬ d9 b a<0):a=b:=by
 rw [rm ha hb] at h1
 rw [rm hb ha] at h2
 have ex:a.x.z*(b.w.n:Int)=b.x.z*(a.w.n:Int):=by omega
 have ey:a.y.z*(b.w.n:Int)=b.y.z*(a.w.n:Int):=by omega
 obtain ⟨pa,_,_,_,ax,ay,ag⟩:=cq ha
 obtain ⟨pb,_,_,_,bx,by_,bg⟩:=cq hb
 have nx:a.x.z.natAbs*b.w.n=b.x.z.natAbs*a.w.n:=by
  have:=congrArg Int.natAbs ex
  rwa [Int.natAbs_mul,Int.natAbs_mul,Int.natAbs_natCast,Int.natAbs_natCast] at this
 have ny:a.y.z.natAbs*b.w.n=b.y.z.natAbs*a.w.n:=by
  have:=congrArg Int.natAbs ey
  rwa [Int.natAbs_mul,Int.natAbs_mul,Int.natAbs_natCast,Int.natAbs_natCast] at this
 have dv:∀ (x y w x' y' w':Nat),x*w'=x'*w→y*w'=y'*w→Nat.gcd (Nat.gcd x y) w=1→w ∣ w':=fun x y w x' y' w' h1 h2 hg=>by
  have h3:w ∣ Nat.gcd (Nat.gcd (x*w') (y*w')) (w*w'):=Nat.dvd_gcd (Nat.dvd_gcd ⟨x',by rw [h1,Nat.mul_comm]⟩ ⟨y',by rw [h2,Nat.mul_comm]⟩) ⟨w',rfl⟩
  rw [Nat.gcd_mul_right,Nat.gcd_mul_right,hg,Nat.one_mul] at h3
  exact h3
 have hw:a.w.n=b.w.n:=Nat.dvd_antisymm (dv _ _ _ _ _ _ nx ny ag) (dv _ _ _ _ _ _ nx.symm ny.symm bg)
 have hw2:((a.w.n:Nat):Int)=(b.w.n:Nat):=by rw [hw]
 rw [hw2] at ex ey
 have ex2:a.x.z=b.x.z:=Int.eq_of_mul_eq_mul_right xj ex
 have ey2:a.y.z=b.y.z:=Int.eq_of_mul_eq_mul_right xj ey
 exact Sp.ext_iff.2 ⟨by rw [ax,bx,ex2],by rw [ay,by_,ey2],Wd.lq hw⟩
theorem Zq {a b:Sp} (ha:bo a=true) (hb:bo b=true) (e:tS a=tS b):a=b:=by
 obtain ⟨_,_,_,_,_,ay,_⟩:=cq ha
 obtain ⟨_,_,_,_,_,by_,_⟩:=cq hb
 have h1:(tS a).x=(tS b).x:=by rw [e]
 replace h1:a8 (-a.y.z)=a8 (-b.y.z):=h1
 rw [Yw (by rw [Int.natAbs_neg];exact a.y.kF) (by rw [Int.natAbs_neg];exact b.y.kF)] at h1
 have hx:(tS a).y=(tS b).y:=by rw [e]
 have hw:(tS a).w=(tS b).w:=by rw [e]
 exact Sp.ext_iff.2 ⟨hx,by rw [ay,by_,show a.y.z=b.y.z by omega],hw⟩
namespace R
open Go.ChangeShapes Go.WideShapes Go.ChangeAt Go.RowKit
class xy (P:Program) (t:TypeId) (T:outParam Type) (enc:outParam (T→List Value)) (G:outParam (World→T→Prop)):Prop where
 h:∀ {H:Type} {eh:TypeId×Value→H} {W:World} {base:Nat} {sp:Nat→Bool} {held:Bool} {fuel:Nat} {cs:List Value} {x:DataW H×List MemPlace},DataW.trod eh P W base sp held fuel t cs=some x→∃ z,cs=enc z∧G W z
structure Sl (T:Type) where
 A:Option Addr
 n:Nat
 c:Nat
 L:List T
instance {T:Type}:Inhabited (Sl T):=⟨⟨none,0,0,[]⟩⟩
def iH {T:Type} (s:Sl T):List Value:=[.slice s.A s.n s.c]
def KT {T:Type} (enc:T→List Value) (sz:Nat) (G:World→T→Prop) (W:World) (s:Sl T):Prop:=gn [] W s.A s.n sz (s.L.flatMap enc)∧s.n=s.L.length∧(s.n≤s.c∧s.c≤9223372036854775807)∧∀ x∈s.L,G W x
instance acC {T:Type}:cA (iH (T:=T)) 1:=⟨fun _=>rfl,by simp [iH,Value.oneCell'],by decide⟩
section
variable {P:Program} {t e:TypeId}
theorem IZ {k:IntKind} {c:Int→List Value} (h:P.underlying t=some (.int k)) (hc:∀ n,c n=[.int k n]):xy P t Int c (fun _ n=>(Lit.int k n).wf=true):=⟨fun hx=>by
 obtain ⟨n,h1,_,hw⟩:=DataW.trod_int h hx
 exact ⟨n,by rw [hc];exact h1,hw⟩⟩
theorem NY (h:P.underlying t=some .bool):xy P t Bool cB (fun _ _=>True):=⟨fun hx=>by
 obtain ⟨b,h1,_⟩:=DataW.trod_bool h hx
 exact ⟨b,h1,trivial⟩⟩
theorem Gm {w:World} {base n:Nat} {a:Addr} {l:List Value} (h:w.cells? base a n=some l):l.length=n∧∀ i v,l[i]?=some v→w.cell? (a.add i)=some v:=by
 unfold World.cells? at h
 split at h
 ·have key:∀ (k m:Nat) (l:List Value),(List.range' k m).mapM (fun i=>w.cell? (a.add i))=some l→l.length=m∧∀ i v,l[i]?=some v→w.cell? (a.add (k+i))=some v:=by
   intro k m
   induction m generalizing k with
   | zero=>intro l h;simp at h;subst h;simp
   | succ m ih =>
    intro l h
    rw [List.range'_succ,List.mapM_cons] at h
    simp only [bind,Option.bind_eq_some_iff,pure,Option.some.injEq] at h
    obtain ⟨v0,h0,l',h1,rfl⟩:=h
    obtain ⟨h2,h3⟩:=ih (k+1) l' h1
    refine ⟨by simp [h2],fun i v hi=>?_⟩
    cases i with
    | zero=>simp at hi;subst hi;exact h0
    | succ i =>
     have:=h3 i v (by simpa using hi)
     rwa [Nat.add_assoc,Nat.add_comm 1 i] at this
  have:=key 0 n l (by rwa [List.range_eq_range'] at h)
  simpa using this
 ·cases h
theorem rU {T:Type} [Inhabited T] {enc:T→List Value} {sz:Nat} {G:World→T→Prop} (h:P.underlying t=some (.slice e)) (hc:P.cellsOf e=sz) [E:cA enc sz] [O:xy P e T enc G]:xy P t (Sl T) iH (KT enc sz G):=⟨fun {H eh W base sp held fuel cs x} hx=>by
 rcases Go.Deep.open_slice h hx with ⟨rfl,_⟩|⟨a,len,cap,m,n,D,Pl,rfl,hb,hl,hm,hmm,_,hel⟩
 ·exact ⟨⟨none,0,0,[]⟩,rfl,gn.nil _ _ _ _,rfl,by simp,by simp⟩
 ·have hle:len≤m:=by rw [hmm];split <;> omega
  have key:∀ i,∃ z:T,i<len→(W.cells? base (a.add (i*sz)) sz=some (enc z)∧G W z):=fun i=>by
   by_cases hi:i<len
   ·obtain ⟨cs',h1,h2⟩:=hel i xj
    obtain ⟨z,rfl,hg⟩:=O.h h2
    rw [hc] at h1
    exact ⟨z,fun _=>⟨h1,hg⟩⟩
   ·exact ⟨default,fun hi'=>absurd hi' hi⟩
  let z:Nat→T:=fun i=>Classical.choose (key i)
  have hz:∀ i,i<len→W.cells? base (a.add (i*sz)) sz=some (enc (z i))∧G W (z i):=fun i hi=>Classical.choose_spec (key i) hi
  refine ⟨⟨some a,len,cap,(List.range len).map z⟩,rfl,⟨?_,?_⟩,by simp,by simp only [maxLen] at hm;exact ⟨hl,by omega⟩,?_⟩
  ·rw [ef E.len];simp
  ·intro j v hj
   have hlt:j<((List.range len).map z).length*sz:=by
    have:=(List.getElem?_eq_some_iff.1 hj).1
    rwa [ef E.len] at this
   have hp:=E.pos
   have hi:j / sz<len:=by
    rw [List.length_map,List.length_range] at hlt
    exact Nat.div_lt_of_lt_mul (by rw [Nat.mul_comm];exact hlt)
   have hr:j % sz<sz:=Nat.mod_lt _ hp
   have hd:j / sz*sz+j % sz=j:=by rw [Nat.mul_comm];exact Nat.div_add_mod j sz
   rw [← hd,qC E.len _ (j / sz) (j % sz) (z (j / sz)) (by simp [hi]) hr] at hj
   obtain ⟨h1,_⟩:=hz _ hi
   have hcell:=(Gm h1).2 _ _ hj
   rw [jN,hd] at hcell
   refine ⟨a,rfl,?_,by simp,hcell⟩
   have hlt2:(a.add j).block<W.heap.size:=World.block_lt_of_cell? W _ hcell
   rwa [ga] at hlt2
  ·intro x hx
   obtain ⟨i,hi,rfl⟩:=List.mem_map.1 hx
   exact (hz i (List.mem_range.1 hi)).2⟩
def s7 (P:Program) (t:TypeId) (i:Nat):Option (Nat×TypeId×Nat):=match P.underlying t with
 | some (.struct fs)=>(fs[i]?).map fun f=>(f.offset,f.type,P.cellsOf f.type)
 | _=>none
theorem Dl {α β:Type} {f:α→Option β}:∀ {l:List α} {ys:List β},l.mapM f=some ys→∀ a∈l,∃ y,f a=some y
 | [],_,_,a,h=>by cases h
 | b::l,ys,hm,a,h=>by
  rw [List.mapM_cons] at hm
  simp only [bind,Option.bind_eq_some_iff,pure] at hm
  obtain ⟨y,hy,zs,hz,_⟩:=hm
  rcases List.mem_cons.1 h with rfl|h
  ·exact ⟨y,hy⟩
  ·exact Dl hz a h
theorem lQ {H:Type} {eh:TypeId×Value→H} {W:World} {base:Nat} {sp:Nat→Bool} {held:Bool} {fuel:Nat} {cs:List Value} {x:DataW H×List MemPlace} {i off ty n:Nat} (hf:s7 P t i=some (off,ty,n)) (h:DataW.trod eh P W base sp held fuel t cs=some x) :
  cs.length=P.cellsOf t∧∃ m y,DataW.trod eh P W base sp held m ty ((cs.drop off).take n)=some y:=by
 unfold s7 at hf
 split at hf
 ·rename_i fs hu
  rw [Option.map_eq_some_iff] at hf
  obtain ⟨fd,h1,h2⟩:=hf
  simp only [Prod.mk.injEq] at h2
  obtain ⟨rfl,rfl,rfl⟩:=h2
  cases fuel with
  | zero=>simp [DataW.trod] at h
  | succ m =>
   rw [DataW.trod_step] at h
   unfold DataW.trodStep at h
   simp only [hu] at h
   split at h
   ·rename_i hl
    rw [Option.map_eq_some_iff] at h
    obtain ⟨ys,hy,_⟩:=h
    exact ⟨hl,m,Dl hy fd (by rw [Array.mem_toList_iff];exact Array.mem_of_getElem? h1)⟩
   ·cases h
 ·cases hf
theorem lS {cs x r:List Value} {o n:Nat} (h1:(cs.drop o).take n=x) (h2:cs.drop (o+n)=r):cs.drop o=x++r:=by
 rw [← h1,← h2,← List.drop_drop,List.take_append_drop]
theorem I1 {cs:List Value} {o:Nat} (h:cs.length=o):cs.drop o=[]:=List.drop_of_length_le xj
theorem Dm {T0:Type} {e0:T0→List Value} {G0:World→T0→Prop} {t0 n0:Nat} {T1:Type} {e1:T1→List Value} {G1:World→T1→Prop} {t1 n1:Nat} {o0 o1:Nat} {T:Type} {enc:T→List Value} {G:World→T→Prop} (f0:s7 P t 0=some (o0,t0,n0)) [O0:xy P t0 T0 e0 G0] (f1:s7 P t 1=some (o1,t1,n1)) [O1:xy P t1 T1 e1 G1] (q0:o0=0) (q1:o1=0+n0) (qt:P.cellsOf t=0+n0+n1) (mk:T0→T1→T)
  (hm:∀ z0 z1,enc (mk z0 z1)=e0 z0++(e1 z1++([]))) (hg:∀ W z0 z1,G0 W z0→G1 W z1→G W (mk z0 z1)):xy P t T enc G:=⟨fun {H eh W base sp held fuel cs x} hx=>by
 subst q0 q1
 obtain ⟨hl0,m0,y0,hy0⟩:=lQ f0 hx
 obtain ⟨z0,hz0,g0⟩:=O0.h hy0
 obtain ⟨hl1,m1,y1,hy1⟩:=lQ f1 hx
 obtain ⟨z1,hz1,g1⟩:=O1.h hy1
 refine ⟨mk z0 z1,?_,hg W z0 z1 g0 g1⟩
 rw [hm]
 have:=(lS (o:=0) (n:=n0) hz0 (lS (o:=0+n0) (n:=n1) hz1 (I1 (o:=0+n0+n1) (by rw [hl0,qt]))))
 simpa using this⟩
theorem Dn {T0:Type} {e0:T0→List Value} {G0:World→T0→Prop} {t0 n0:Nat} {T1:Type} {e1:T1→List Value} {G1:World→T1→Prop} {t1 n1:Nat} {T2:Type} {e2:T2→List Value} {G2:World→T2→Prop} {t2 n2:Nat} {T3:Type} {e3:T3→List Value} {G3:World→T3→Prop} {t3 n3:Nat} {o0 o1 o2 o3:Nat} {T:Type} {enc:T→List Value} {G:World→T→Prop} (f0:s7 P t 0=some (o0,t0,n0)) [O0:xy P t0 T0 e0 G0] (f1:s7 P t 1=some (o1,t1,n1)) [O1:xy P t1 T1 e1 G1] (f2:s7 P t 2=some (o2,t2,n2)) [O2:xy P t2 T2 e2 G2] (f3:s7 P t 3=some (o3,t3,n3)) [O3:xy P t3 T3 e3 G3] (q0:o0=0) (q1:o1=0+n0) (q2:o2=0+n0+n1) (q3:o3=0+n0+n1+n2) (qt:P.cellsOf t=0+n0+n1+n2+n3) (mk:T0→T1→T2→T3→T)
  (hm:∀ z0 z1 z2 z3,enc (mk z0 z1 z2 z3)=e0 z0++(e1 z1++(e2 z2++(e3 z3++([]))))) (hg:∀ W z0 z1 z2 z3,G0 W z0→G1 W z1→G2 W z2→G3 W z3→G W (mk z0 z1 z2 z3)):xy P t T enc G:=⟨fun {H eh W base sp held fuel cs x} hx=>by
 subst q0 q1 q2 q3
 obtain ⟨hl0,m0,y0,hy0⟩:=lQ f0 hx
 obtain ⟨z0,hz0,g0⟩:=O0.h hy0
 obtain ⟨hl1,m1,y1,hy1⟩:=lQ f1 hx
 obtain ⟨z1,hz1,g1⟩:=O1.h hy1
 obtain ⟨hl2,m2,y2,hy2⟩:=lQ f2 hx
 obtain ⟨z2,hz2,g2⟩:=O2.h hy2
 obtain ⟨hl3,m3,y3,hy3⟩:=lQ f3 hx
 obtain ⟨z3,hz3,g3⟩:=O3.h hy3
 refine ⟨mk z0 z1 z2 z3,?_,hg W z0 z1 z2 z3 g0 g1 g2 g3⟩
 rw [hm]
 have:=(lS (o:=0) (n:=n0) hz0 (lS (o:=0+n0) (n:=n1) hz1 (lS (o:=0+n0+n1) (n:=n2) hz2 (lS (o:=0+n0+n1+n2) (n:=n3) hz3 (I1 (o:=0+n0+n1+n2+n3) (by rw [hl0,qt]))))))
 simpa using this⟩
theorem Dp {H:Type} {eh:TypeId×Value→H} {W:World} {base:Nat} {sp:Nat→Bool} {held:Bool} {r:Reach} {b0:Nat} {v:Value} {d:DataW H} {ps:List MemPlace} {T:Type} {enc:T→List Value} {G:World→T→Prop} [O:xy P t T enc G] (hval:Value.okWide P W r b0 t v) (hd:DataW.Trod eh P W base sp held t v d ps) :
  ∃ z,v.cells.toList=enc z∧G W z∧(aY P t=some true→v=.agg (enc z).toArray)∧(aY P t=some false→∀ c,enc z=[c]→v=c):=by
 obtain ⟨fuel,hf⟩:=hd
 obtain ⟨z,hz,hg⟩:=O.h hf
 refine ⟨z,hz,hg,fun hk=>?_,fun hk c hc=>?_⟩
 ·unfold aY at hk
  unfold Value.okWide at hval
  split at hval
  ·obtain ⟨cs,rfl,_⟩:=hval;rw [← hz];rfl
  ·obtain ⟨cs,rfl,_⟩:=hval;rw [← hz];rfl
  ·rename_i h1 h2
   cases hu:P.underlying t with
   | none=>simp [hu] at hk
   | some d=>cases d <;> simp_all
 ·rw [hc] at hz
  cases v with
  | agg cs =>
   exfalso
   unfold aY at hk
   unfold Value.okWide at hval
   split at hval
   ·rename_i fs hu;simp [hu] at hk
   ·rename_i hu;simp [hu] at hk
   ·unfold Cell.okWide at hval
    split at hval <;> first|(rename_i hh;cases hh)|(unfold Cell.ok at hval;split at hval <;> first|(rename_i hh;cases hh)|exact hval.elim|simp_all)|simp_all
  | _=>simpa [Value.cells] using hz
end
end R
section
open Go.ChangeShapes Go.WideShapes Go.ChangeAt Go.RowKit
section
variable {H:Type} {enc:TypeId×Value→H} {P:Program} {W:World} {base:Nat} {sp:Nat→Bool} {held:Bool} {t e:TypeId} {cs:List Value} {x:DataW H×List MemPlace} {fuel:Nat}
end
theorem NX (a r:Nat) (ha:a<18446744073709551616):wd (a+18446744073709551616*r) 0=a:=by unfold wd;omega
theorem Tt (a r k:Nat) (ha:a<18446744073709551616):wd (a+18446744073709551616*r) (k+1)=wd r k:=by
 unfold wd
 rw [show 64*(k+1)=64+64*k by omega,Nat.pow_add,← Nat.div_div_eq_div_mul]
 congr 2
 omega
section
variable {H:Type} {enc:TypeId×Value→H} {W:World} {base:Nat} {sp:Nat→Bool} {held:Bool} {cs:List Value} {x:DataW H×List MemPlace} {fuel:Nat}
end
end
section
open Go.ChangeShapes Go.WideShapes Go.ChangeAt Go.RowKit
structure Ed where
 a:Int
 b:Int
 w:Int
 f:Bool
 k:Bool
 deriving DecidableEq,Inhabited
structure Pc where
 e:Int
 f:Bool
 w:Int
 deriving DecidableEq,Inhabited
def B6 (x:Ed):List Value:=[.int .i64 x.a,.int .i64 x.b,.int .i64 x.w,.bool x.f,.bool x.k]
def yE (x:Pc):List Value:=[.int .i64 x.e,.bool x.f,.int .i64 x.w]
instance abX:cA B6 5:=⟨fun _=>rfl,by simp [B6,Value.oneCell'],by decide⟩
instance abY:cA yE 3:=⟨fun _=>rfl,by simp [yE,Value.oneCell'],by decide⟩
instance abZ:iU Tryz.prog 82 Ed B6 5:={}
instance ab0:iU Tryz.prog 127 Pc yE 3:={}
def GI (_:World) (n:Int):Prop:=(Lit.int .i64 n).wf=true
def GB (_:World) (_:Bool):Prop:=True
def GT {T:Type} (_:World) (_:T):Prop:=True
instance aeR:xy Tryz.prog 3 Int R.cI GI:=IZ wq fun _=>rfl
instance aeS:xy Tryz.prog 4 Bool cB GB:=NY wq
def GEd (_:World) (z:Ed):Prop:=(Lit.int .i64 z.a).wf=true∧(Lit.int .i64 z.b).wf=true∧(Lit.int .i64 z.w).wf=true
def GPc (_:World) (z:Pc):Prop:=(Lit.int .i64 z.e).wf=true∧(Lit.int .i64 z.w).wf=true
instance ac7:xy Tryz.prog 28 (Sl Int) iH (KT R.cI 1 GI):=rU (e:=3) wq wq
structure Nt where
 s:Sl Sp
 e:Sl Ed
 p:Sl (Sl Pc)
def L2 (x:Nt):List Value:=[.slice x.s.A x.s.n x.s.c,.slice x.e.A x.e.n x.e.c,.slice x.p.A x.p.n x.p.c]
def JW (W:World) (z:Nt):Prop:=KT bF 26 GT W z.s∧KT B6 5 GEd W z.e∧KT iH 1 (KT yE 3 GPc) W z.p
end
def tv {T:Type} (p:T→Bool) (L:List T):Int:=match L.findIdx? p with
 | some i=>i
 | none=>-1
theorem jH {T:Type} {p:T→Bool} {L:List T} (h:∀ x∈L,p x=false):tv p L=-1:=by
 have:L.findIdx? p=none:=List.findIdx?_eq_none_iff.2 h
 simp [tv,this]
theorem nS {T:Type} {p:T→Bool} {L:List T} {k:Nat} (hk:k<L.length) (h:∀ x∈L.take k,p x=false) (hp:p L[k]=true):tv p L=k:=by
 have:L.findIdx? p=some k:=by
  rw [List.findIdx?_eq_some_iff_getElem]
  refine ⟨hk,hp,fun j hj=>?_⟩
  have:=h L[j] (List.mem_take_iff_getElem.2 ⟨j,by omega,by simp⟩)
  simpa using this
 simp [tv,this]
theorem lu {T:Type} (p:T→Bool) (L:List T):decide (0≤tv p L)=L.any p:=by
 unfold tv
 cases h:L.findIdx? p with
 | none =>
  rw [List.findIdx?_eq_none_iff] at h
  simp
  exact h
 | some i =>
  rw [List.findIdx?_eq_some_iff_getElem] at h
  obtain ⟨hi,hp,_⟩:=h
  simp
  exact ⟨_,List.getElem_mem hi,hp⟩
theorem cd {T:Type} [Inhabited T] {L:List T} {k:Nat} (h:k<L.length):L.take (k+1)=L.take k++[nth L k]:=by
 rw [List.take_succ_eq_append_getElem h,av h]
theorem lv {T:Type} [Inhabited T] {L:List T} {k:Nat} {Q:T→Prop} (hk:k<L.length) (h:∀ x∈L.take k,Q x) (hq:Q (nth L k)):∀ x∈L.take (k+1),Q x:=by
 rw [cd hk]
 intro x hx
 rcases List.mem_append.1 hx with h1|h1
 ·exact h x h1
 ·simp at h1
  rw [h1]
  exact hq
theorem yD (A:Option Addr) (n c:Nat) (L:List Pc) (g:FuncId) [ab Tryz.prog g] (cap:List Value) (p:Pc→Bool) (w:World) (hA:gn [] w A n 3 (L.flatMap yE)) (hn:n=L.length) (hb:n≤9223372036854775807)
  (hp:∀ x w1,x∈L→Below w.heap.size w w1→Calls Tryz.prog g ([Value.agg (yE x).toArray]++cap).toArray w1 fun e w'=>e=.returned (.bool (p x))∧Below w1.heap.size w1 w') :
  Calls Tryz.prog 85 #[.slice A n c,.func (.func g) #[] cap.toArray] w fun e w'=>e=.returned (.int .i64 (tv p L))∧Below w.heap.size w w':=by
 have hM:=R.Own.start [] w
 refine aa (fn:=Tryz.f85) Tryz.func85 rfl Tryz.ntmps85 (Nat.le_of_ble_eq_true rfl) ?_
 (refine ak ?_;(repeat' first|refine And.intro ?_ ?_|intro _);all_goals refine ah.mk ?_)
 refine au (fun k:Nat=>[(0,.slice A n c),(1,.func (.func g) #[] cap.toArray),(4,.int .i64 0),(7,.int .i64 (n:Nat)),(8,.int .i64 (k:Nat))])
  (fun k w1=>k≤n∧R.Own [] w w1 []∧∀ x∈L.take k,p x=false) (fun k=>n-k) ⟨0,⟨rfl,rfl,rfl,rfl,rfl,trivial⟩,by omega,hM,by simp⟩ ?_
 rintro k f w1 ⟨hk,hM,hall⟩
 by_cases hlt:k<n
 ·have hx:=R.aB (L:=L) (i:=k) xj
  have hcall:=hp (nth L k) w1 hx hM.below
  (refine ak ?_;(repeat' first|refine And.intro ?_ ?_|intro _);all_goals refine ah.mk ?_)
  refine jK rfl rfl vv ?_
  refine hcall.mono ?_
  rintro e w2 ⟨rfl,hb2⟩
  have hM:=hM.call hb2
  refine ⟨_,rfl,?_⟩
  (refine ak ?_;(repeat' first|refine And.intro ?_ ?_|intro _);all_goals refine ah.mk ?_)
  ·rename_i hpx
   refine ⟨?_,hM.below⟩
   rw [nS (k:=k) xj hall (by rw [← av];exact hpx)]
  ·rename_i hpx
   exact ⟨k+1,⟨rfl,rfl,rfl,rfl,aF rfl xj,trivial⟩,⟨by omega,hM,lv xj hall hpx⟩,by omega⟩
 ·obtain rfl:k=n:=by omega
  (refine ak ?_;(repeat' first|refine And.intro ?_ ?_|intro _);all_goals refine ah.mk ?_)
  refine ⟨?_,hM.below⟩
  rw [jH (by rw [hn,List.take_length] at hall;exact hall)]
theorem tw (A:Option Addr) (n c:Nat) (L:List Pc) (g:FuncId) [ab Tryz.prog g] (cap:List Value) (p:Pc→Bool) (w:World) (hA:gn [] w A n 3 (L.flatMap yE)) (hn:n=L.length) (hb:n≤9223372036854775807)
  (hp:∀ x w1,x∈L→Below w.heap.size w w1→Calls Tryz.prog g ([Value.agg (yE x).toArray]++cap).toArray w1 fun e w'=>e=.returned (.bool (p x))∧Below w1.heap.size w1 w') :
  Calls Tryz.prog 51 #[.slice A n c,.func (.func g) #[] cap.toArray] w fun e w'=>e=.returned (.bool (L.any p))∧Below w.heap.size w w':=by
 refine aa (fn:=Tryz.f51) Tryz.func51 rfl Tryz.ntmps51 (Nat.le_of_ble_eq_true rfl) ?_
 (refine ak ?_;(repeat' first|refine And.intro ?_ ?_|intro _);all_goals refine ah.mk ?_)
 refine ar rfl rfl vv vv ?_
 refine (yD A n c L g cap p w hA hn hb hp).mono ?_
 rintro e w1 ⟨rfl,hb1⟩
 refine ⟨_,rfl,?_⟩
 (refine ak ?_;(repeat' first|refine And.intro ?_ ?_|intro _);all_goals refine ah.mk ?_)
 rw [lu]
 exact ⟨rfl,hb1⟩
theorem wX (A:Option Addr) (n c:Nat) (L:List (Sl Pc)) (g:FuncId) [ab Tryz.prog g] (cap:List Value) (p:(Sl Pc)→Bool) (w:World) (hA:gn [] w A n 1 (L.flatMap iH)) (hn:n=L.length) (hb:n≤9223372036854775807)
  (hp:∀ x w1,x∈L→Below w.heap.size w w1→Calls Tryz.prog g ([Value.slice x.A x.n x.c]++cap).toArray w1 fun e w'=>e=.returned (.bool (p x))∧Below w1.heap.size w1 w') :
  Calls Tryz.prog 84 #[.slice A n c,.func (.func g) #[] cap.toArray] w fun e w'=>e=.returned (.int .i64 (tv p L))∧Below w.heap.size w w':=by
 have hM:=R.Own.start [] w
 refine aa (fn:=Tryz.f84) Tryz.func84 rfl Tryz.ntmps84 (Nat.le_of_ble_eq_true rfl) ?_
 (refine ak ?_;(repeat' first|refine And.intro ?_ ?_|intro _);all_goals refine ah.mk ?_)
 refine au (fun k:Nat=>[(0,.slice A n c),(1,.func (.func g) #[] cap.toArray),(4,.int .i64 0),(7,.int .i64 (n:Nat)),(8,.int .i64 (k:Nat))])
  (fun k w1=>k≤n∧R.Own [] w w1 []∧∀ x∈L.take k,p x=false) (fun k=>n-k) ⟨0,⟨rfl,rfl,rfl,rfl,rfl,trivial⟩,by omega,hM,by simp⟩ ?_
 rintro k f w1 ⟨hk,hM,hall⟩
 by_cases hlt:k<n
 ·have hx:=R.aB (L:=L) (i:=k) xj
  have hcall:=hp (nth L k) w1 hx hM.below
  (refine ak ?_;(repeat' first|refine And.intro ?_ ?_|intro _);all_goals refine ah.mk ?_)
  refine jK rfl rfl vv ?_
  refine hcall.mono ?_
  rintro e w2 ⟨rfl,hb2⟩
  have hM:=hM.call hb2
  refine ⟨_,rfl,?_⟩
  (refine ak ?_;(repeat' first|refine And.intro ?_ ?_|intro _);all_goals refine ah.mk ?_)
  ·rename_i hpx
   refine ⟨?_,hM.below⟩
   rw [nS (k:=k) xj hall (by rw [← av];exact hpx)]
  ·rename_i hpx
   exact ⟨k+1,⟨rfl,rfl,rfl,rfl,aF rfl xj,trivial⟩,⟨by omega,hM,lv xj hall hpx⟩,by omega⟩
 ·obtain rfl:k=n:=by omega
  (refine ak ?_;(repeat' first|refine And.intro ?_ ?_|intro _);all_goals refine ah.mk ?_)
  refine ⟨?_,hM.below⟩
  rw [jH (by rw [hn,List.take_length] at hall;exact hall)]
theorem rA (A:Option Addr) (n c:Nat) (L:List (Sl Pc)) (g:FuncId) [ab Tryz.prog g] (cap:List Value) (p:(Sl Pc)→Bool) (w:World) (hA:gn [] w A n 1 (L.flatMap iH)) (hn:n=L.length) (hb:n≤9223372036854775807)
  (hp:∀ x w1,x∈L→Below w.heap.size w w1→Calls Tryz.prog g ([Value.slice x.A x.n x.c]++cap).toArray w1 fun e w'=>e=.returned (.bool (p x))∧Below w1.heap.size w1 w') :
  Calls Tryz.prog 49 #[.slice A n c,.func (.func g) #[] cap.toArray] w fun e w'=>e=.returned (.bool (L.any p))∧Below w.heap.size w w':=by
 refine aa (fn:=Tryz.f49) Tryz.func49 rfl Tryz.ntmps49 (Nat.le_of_ble_eq_true rfl) ?_
 (refine ak ?_;(repeat' first|refine And.intro ?_ ?_|intro _);all_goals refine ah.mk ?_)
 refine ar rfl rfl vv vv ?_
 refine (wX A n c L g cap p w hA hn hb hp).mono ?_
 rintro e w1 ⟨rfl,hb1⟩
 refine ⟨_,rfl,?_⟩
 (refine ak ?_;(repeat' first|refine And.intro ?_ ?_|intro _);all_goals refine ah.mk ?_)
 rw [lu]
 exact ⟨rfl,hb1⟩
def qz (L:List Sp) (i:Nat):Prop:=bo (nth L i)=true∧(0<i→d9 (nth L (i-1)) (nth L i)<0)
def t6 (w:Int):Prop:=0≤w∧w≤2147483648
def ltE (x y:Ed):Prop:=x.a<y.a∨x.a=y.a∧x.b<y.b
def vt (m:Nat) (E:List Ed) (i:Nat):Prop:=0≤(nth E i).a∧(nth E i).a<(nth E i).b∧(nth E i).b<m∧t6 (nth E i).w∧((nth E i).f=true∨(nth E i).k=true)∧(0<i→ltE (nth E (i-1)) (nth E i))
def lf (m:Nat) (p:Pc):Bool:=decide (p.e<0)||(decide ((m:Int)≤p.e)||!(decide (0≤p.w)&&decide (p.w≤2147483648)))
def KP (x:Nt):Prop:=x.s.n≤200000∧x.e.n≤200000∧x.p.n≤200000∧(∀ i,i<x.s.n→qz x.s.L i)∧(∀ i,i<x.e.n→vt x.s.n x.e.L i)∧∀ l∈x.p.L,∀ p∈l.L,lf x.e.n p=false
noncomputable def tE (x:Nt):Bool:=@decide (KP x) (Classical.propDecidable _)
theorem Gi {x:Nt} (h:KP x):tE x=true:=@decide_eq_true _ (Classical.propDecidable _) h
theorem Ae {x:Nt} (h:¬ KP x):tE x=false:=@decide_eq_false _ (Classical.propDecidable _) h
theorem nE {x:Nt}:tE x=true↔KP x:=by
  constructor
  · exact @of_decide_eq_true _ (Classical.propDecidable _)
  · exact Gi
noncomputable def vu (L:List Sp):Bool:=@decide (∀ i,i<L.length→qz L i) (Classical.propDecidable _)
theorem Dh {L:List Sp} (h:∀ i,i<L.length→qz L i):vu L=true:=@decide_eq_true _ (Classical.propDecidable _) h
theorem Di {L:List Sp} {i:Nat} (hi:i<L.length) (h:¬ qz L i):vu L=false:=@decide_eq_false _ (Classical.propDecidable _) fun g=>h (g i hi)
instance aaM (v:Int):bj Tryz.prog 47 #[.int .i64 v] Unit (fun _ _=>True) (fun _=>.bool (decide (0≤v)&&decide (v≤2147483648))):=⟨fun _ w _=>by
  refine aa (fn:=Tryz.f47) Tryz.func47 rfl Tryz.ntmps47 (Nat.le_of_ble_eq_true rfl) ?_
  (refine ak ?_;(repeat' first|refine And.intro ?_ ?_|intro _);all_goals refine ah.mk ?_)
  all_goals simp [*,Below.refl]⟩
structure En where
  a:Int
  b:Int
  deriving DecidableEq,Inhabited
def lg (x:En):List Value:=[.int .i64 x.a,.int .i64 x.b]
instance acA:cA lg 2:=⟨fun _=>rfl,by simp [lg,Value.oneCell'],by decide⟩
instance aaN (e:Ed):bj Tryz.prog 48 #[.agg (B6 e).toArray] Unit (fun _ _=>True) (fun _=>.agg (lg ⟨e.a,e.b⟩).toArray):=⟨fun _ w _=>by
  have hM:=R.Own.start [] w
  refine aa (fn:=Tryz.f48) Tryz.func48 rfl Tryz.ntmps48 (Nat.le_of_ble_eq_true rfl) ?_
  (refine ak ?_;(repeat' first|refine And.intro ?_ ?_|intro _);all_goals refine ah.mk ?_;(all_goals (try (exact ⟨rfl,R.Own.below ww⟩))))⟩
instance acB (a:Int):Dt Tryz.prog 82 #[.int .i64 a] Unit (fun _ _=>True) (fun _=>.bool false):=⟨fun _ w _=>by
  refine aa (fn:=Tryz.f82) Tryz.func82 rfl Tryz.ntmps82 (Nat.le_of_ble_eq_true rfl) ?_
  (refine ak ?_;(repeat' first|refine And.intro ?_ ?_|intro _);all_goals refine ah.mk ?_)
  all_goals simp⟩
instance aaO (a b:Int):Dt Tryz.prog 45 #[.int .i64 a,.int .i64 b] Unit (fun _ _=>True) (fun _=>.int .i64 (aR a b)):=⟨fun _ w _=>by
  refine aa (fn:=Tryz.f45) Tryz.func45 rfl Tryz.ntmps45 (Nat.le_of_ble_eq_true rfl) ?_
  (refine ak ?_;(repeat' first|refine And.intro ?_ ?_|intro _);all_goals refine ah.mk ?_)
  · rename_i h
    rw [kR h]
    exact ⟨rfl,rfl⟩
  · rename_i h1 h
    rw [kS (by omega)]
    exact ⟨rfl,rfl⟩
  · rename_i h1 h
    rw [show a=b by omega,fm]
    exact ⟨rfl,rfl⟩⟩
instance Dj (x y:En):bj Tryz.prog 23 #[.agg (lg x).toArray,.agg (lg y).toArray] Unit (fun _ _=>True) (fun _=>.int .i64 (te (aR x.a y.a) (aR x.b y.b))):=⟨fun _ w _=>by
  have hM:=R.Own.start [] w
  refine aa (fn:=Tryz.f23) Tryz.func23 rfl Tryz.ntmps23 (Nat.le_of_ble_eq_true rfl) ?_
  (refine ad ?_;(repeat' first|refine And.intro ?_ ?_|intro _);all_goals refine ah.mk ?_)
  refine bB [(0,false),(1,false),(2,false),(3,false),(5,false),(6,false),(7,false),(8,false),(4,true),(9,true),(10,true),(11,true),(12,false)] R.mixed wx aj ?_
  (refine ad ?_;(repeat' first|refine And.intro ?_ ?_|intro _);all_goals refine ah.mk ?_)
  rename_i hM
  refine aA rfl rfl vv ?_
  refine (we _ _ _ _ _ (R.Own.wW hM (.head _))).mono ?_
  rintro e w' ⟨rfl,rfl⟩
  refine ⟨_,rfl,?_⟩
  (refine ad ?_;(repeat' first|refine And.intro ?_ ?_|intro _);all_goals refine ah.mk ?_;(all_goals (try (exact ⟨rfl,R.Own.below ww⟩))))⟩
theorem vw {L:List Sp} {k:Nat} (h:∀ i,i<k→qz L i) (hk:qz L k):∀ i,i<k+1→qz L i:=fun i hi=>by
  rcases Nat.lt_or_ge i k with h1|h1
  · exact h i h1
  · obtain rfl:i=k:=by omega
    exact hk
attribute [local irreducible] aq d9 bo in
set_option maxHeartbeats 4000000 in
theorem KQ (A:Option Addr) (n c:Nat) (L:List Sp) (w:World) (hA:gn [] w A n 26 (L.flatMap bF)) (hn:n=L.length) (hb:n≤9223372036854775807):Calls Tryz.prog 46 #[.slice A n c] w fun e w'=>e=.returned (.bool (vu L))∧Below w.heap.size w w':=by
  have hM:=R.Own.start [] w
  refine aa (fn:=Tryz.f46) Tryz.func46 rfl Tryz.ntmps46 (Nat.le_of_ble_eq_true rfl) ?_
  (refine ak ?_;(repeat' first|refine And.intro ?_ ?_|intro _);all_goals refine ah.mk ?_)
  refine au (fun k:Nat=>[(0,.slice A n c),(2,.bool false),(5,.slice A n c),(6,.int .i64 (n:Nat)),(7,.int .i64 (k:Nat))])
    (fun k w2=>k≤n∧(∀ i,i<k→qz L i)∧R.Own [] w w2 []) (fun k=>n-k) ⟨0,⟨rfl,rfl,rfl,rfl,rfl,trivial⟩,by omega,fun i hi=>absurd hi (Nat.not_lt_zero _),hM⟩ ?_
  clear hM
  rintro k f w2 ⟨hk,hall,hM⟩
  by_cases hlt:k<n
  · have e:(((k:Nat):Int)-1).toNat=k-1:=by omega
    (refine ad ?_;(repeat' first|refine And.intro ?_ ?_|intro _);all_goals refine ah.mk ?_)
    refine iW [(0,false),(1,true),(2,false),(3,false),(4,false),(5,false),(6,false),(7,false),(8,false),(9,false),(10,false),(11,false),(12,false),(13,true),(14,false),(15,false),(16,false)] R.mixed wx aj ?_
    (refine ad ?_;(repeat' first|refine And.intro ?_ ?_|intro _);all_goals refine ah.mk ?_)
    all_goals rename_i hM
    all_goals first
      | (have h:(!bo (nth L k))=true:=by assumption
         rw [Di (L:=L) (i:=k) xj (fun g=>by rw [g.1] at h;cases h)]
         exact ⟨rfl,R.Own.below ww⟩)
      | (have h:(!bo (nth L k))=false:=by assumption
         have hm:bo (nth L k)=true:=by simpa using h
         first
         | (have h0:¬ 0<((k:Nat):Int):=by assumption
            refine ⟨k+1,⟨rfl,rfl,rfl,rfl,aF rfl xj,trivial⟩,⟨by omega,vw hall ⟨hm,fun g=>absurd g xj⟩,R.Own.KU ww⟩,by omega⟩)
         | (have h0:0<((k:Nat):Int):=by assumption
            have hp:bo (nth L (((k:Nat):Int)-1).toNat)=true:=by rw [e];exact (hall (k-1) xj).1
            have hv:(if bo (nth L (((k:Nat):Int)-1).toNat)&&bo (nth L k) then d9 (nth L (((k:Nat):Int)-1).toNat) (nth L k) else 0)=d9 (nth L (k-1)) (nth L k):=by rw [hp,hm,e];rfl
            first
            | (have hc:0≤(if bo (nth L (((k:Nat):Int)-1).toNat)&&bo (nth L k) then d9 (nth L (((k:Nat):Int)-1).toNat) (nth L k) else 0):=by assumption
               rw [hv] at hc
               rw [Di (L:=L) (i:=k) xj (fun g=>by have:=g.2 xj;omega)]
               exact ⟨rfl,R.Own.below ww⟩)
            | (have hc:¬ 0≤(if bo (nth L (((k:Nat):Int)-1).toNat)&&bo (nth L k) then d9 (nth L (((k:Nat):Int)-1).toNat) (nth L k) else 0):=by assumption
               rw [hv] at hc
               refine ⟨k+1,⟨rfl,rfl,rfl,rfl,aF rfl xj,trivial⟩,⟨by omega,vw hall ⟨hm,fun _=>by omega⟩,R.Own.KU ww⟩,by omega⟩)))
  obtain rfl:k=n:=by omega
  rw [Dh (by rw [← hn];exact hall)]
  (refine ad ?_;(repeat' first|refine And.intro ?_ ?_|intro _);all_goals refine ah.mk ?_;(all_goals (try (exact ⟨rfl,R.Own.below ww⟩))))
end Go.Proofs.YtlmabdegojeheaaGreatDoor
