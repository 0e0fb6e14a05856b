/- WholeTurned: parts of its proof (Zb Rd We Wp Zg Zh). -/
import Derived.Test.YtlmabdegojeheaaGreatDoorNoZa
import Derived.Test.YtlmabdegojeheaaGreatDoorGcS5
import Derived.Test.YtlmabdegojeheaaGreatDoorOvQt
import Derived.Test.YtlmabdegojeheaaGreatDoorZfNt
import Derived.Test.YtlmabdegojeheaaGreatDoorR6Ze
namespace Go.Proofs.YtlmabdegojeheaaGreatDoor
open R Go.RowKit
section
structure Rw where
 i:Nat
 k:Nat
 w:Int
 o:Bool
 deriving DecidableEq,Inhabited
def Rw.fw (r:Rw):Bool:=decide (r.i<r.k)
def Rw.key (r:Rw):Nat×Nat:=(min r.i r.k,max r.i r.k)
def BS:List Rw→Int
 | []=>0
 | r::l=>l.foldl (fun m r=>min m r.w) r.w
def JL (Q:List Rw) (k:Nat×Nat):Ed:=⟨(k.1:Nat),(k.2:Nat),BS Q,Q.any fun r=>r.fw||!r.o,Q.any fun r=>!r.fw||!r.o⟩
def E5 (R:List Rw) (k:Nat×Nat):List Rw:=R.filter fun r=>decide (r.key=k)
def aP (R:List Rw) (k:Nat×Nat):Ed:=JL (E5 R k) k
structure ZX (R:List Rw) (E:List Ed):Prop where
 nd:E.Nodup
 mem:∀ e,e∈E↔∃ r∈R,e=aP R r.key
def Rw.mv (p:Nat→Nat) (r:Rw):Rw:=⟨p r.i,p r.k,r.w,r.o⟩
def xF (p:Nat→Nat) (k:Nat×Nat):Nat×Nat:=(min (p k.1) (p k.2),max (p k.1) (p k.2))
theorem Hy (p:Nat→Nat) (r:Rw):(r.mv p).key=xF p r.key:=by
 show (min (p r.i) (p r.k),max (p r.i) (p r.k))=(min (p (min r.i r.k)) (p (max r.i r.k)),max (p (min r.i r.k)) (p (max r.i r.k)))
 rcases Nat.le_total r.i r.k with h|h
 ·rw [Nat.min_eq_left h,Nat.max_eq_right h]
 ·rw [Nat.min_eq_right h,Nat.max_eq_left h,Nat.min_comm (p r.k),Nat.max_comm (p r.k)]
theorem Vg (p:Nat→Nat):∀ Q:List Rw,BS (Q.map (Rw.mv p))=BS Q
 | []=>rfl
 | r::Q=>by
  show (Q.map (Rw.mv p)).foldl (fun m r=>min m r.w) r.w=_
  rw [List.foldl_map]
  rfl
theorem any_congr {α:Type} {f g:α→Bool}:∀ {l:List α},(∀ x∈l,f x=g x)→l.any f=l.any g
 | [],_=>rfl
 | a::l,h=>by
  rw [List.any_cons,List.any_cons,h a (by simp),any_congr fun x hx=>h x (by simp [hx])]
section
variable {m:Nat} {R:List Rw} {p:Nat→Nat} (hR:∀ r∈R,r.i<m∧r.k<m∧r.i≠r.k) (inj:∀ u v,u<m→v<m→p u=p v→u=v)
include hR inj
theorem BT {r:Rw} (hr:r∈R):r.key.1<r.key.2∧r.key.2<m∧p r.key.1≠p r.key.2:=by
 obtain ⟨h1,h2,h3⟩:=hR r hr
 have h4:r.key.1<r.key.2:=by
  show min r.i r.k<max r.i r.k
  omega
 have h5:r.key.2<m:=by
  show max r.i r.k<m
  omega
 exact ⟨h4,h5,fun e=>by
  have:=inj _ _ (Nat.lt_trans h4 h5) h5 e
  omega⟩
theorem JM {r s:Rw} (hr:r∈R) (hs:s∈R) (e:xF p r.key=xF p s.key):r.key=s.key:=by
 obtain ⟨a1,a2,a3⟩:=BT hR inj hr
 obtain ⟨b1,b2,b3⟩:=BT hR inj hs
 generalize r.key=k at *
 generalize s.key=l at *
 obtain ⟨a,b⟩:=k
 obtain ⟨c,d⟩:=l
 have e1:=congrArg Prod.fst e
 have e2:=congrArg Prod.snd e
 simp only [xF] at e1 e2 a1 a2 a3 b1 b2 b3 ⊢
 have i1:=inj a c xj xj
 have i2:=inj a d xj xj
 have i3:=inj b c xj xj
 have i4:=inj b d xj xj
 refine Prod.ext ?_ ?_ <;> show _=_ <;> simp only <;> omega
theorem Y7 {r:Rw} (hr:r∈R):E5 (R.map (Rw.mv p)) (xF p r.key)=(E5 R r.key).map (Rw.mv p):=by
 unfold E5
 rw [List.filter_map]
 refine congrArg _ (List.filter_congr fun s hs=>?_)
 show decide ((s.mv p).key=xF p r.key)=decide (s.key=r.key)
 rw [Hy]
 exact decide_eq_decide.2 ⟨JM hR inj hs hr,fun e=>by rw [e]⟩
theorem abR {r s:Rw} (hr:r∈R) (hs:s∈E5 R r.key):(s.mv p).fw=if p r.key.1<p r.key.2 then s.fw else !s.fw:=by
 obtain ⟨h1,h2,h3⟩:=BT hR inj hr
 have hk:s.key=r.key:=of_decide_eq_true (List.mem_filter.1 hs).2
 obtain ⟨g1,g2,g3⟩:=hR s (List.mem_filter.1 hs).1
 rw [← hk] at h1 h2 h3 ⊢
 have e:(s.key.1=s.i∧s.key.2=s.k)∨(s.key.1=s.k∧s.key.2=s.i):=by
  show (min s.i s.k=s.i∧max s.i s.k=s.k)∨(min s.i s.k=s.k∧max s.i s.k=s.i)
  omega
 have d1:(s.mv p).fw=decide (p s.i<p s.k):=rfl
 have d2:s.fw=decide (s.i<s.k):=rfl
 rw [d1,d2]
 rcases e with ⟨e1,e2⟩|⟨e1,e2⟩
 ·rw [e1,e2] at h1 h3 ⊢
  by_cases c:p s.i<p s.k
  ·rw [if_pos c,decide_eq_true c,decide_eq_true h1]
  ·rw [if_neg c,decide_eq_false c,decide_eq_true h1]
   rfl
 ·rw [e1,e2] at h1 h3 ⊢
  by_cases c:p s.k<p s.i
  ·rw [if_pos c,decide_eq_false xj,decide_eq_false (by omega)]
  ·rw [if_neg c,decide_eq_true xj,decide_eq_false (by omega)]
   rfl
theorem BU {r:Rw} (hr:r∈R):aP (R.map (Rw.mv p)) (xF p r.key)=if p r.key.1<p r.key.2 then ⟨(p r.key.1:Nat),(p r.key.2:Nat),(aP R r.key).w,(aP R r.key).f,(aP R r.key).k⟩ else ⟨(p r.key.2:Nat),(p r.key.1:Nat),(aP R r.key).w,(aP R r.key).k,(aP R r.key).f⟩:=by
 unfold aP
 rw [Y7 hR inj hr]
 unfold JL
 rw [Vg,List.any_map,List.any_map]
 have f1:=fun s hs=>abR hR inj hr (s:=s) hs
 by_cases c:p r.key.1<p r.key.2
 ·rw [if_pos c]
  have g1:(xF p r.key).1=p r.key.1:=by show min _ _=_;omega
  have g2:(xF p r.key).2=p r.key.2:=by show max _ _=_;omega
  rw [g1,g2]
  congr 1
  ·exact any_congr fun s hs=>by
    show ((s.mv p).fw||!s.o)=_
    rw [f1 s hs,if_pos c]
  ·exact any_congr fun s hs=>by
    show (!(s.mv p).fw||!s.o)=_
    rw [f1 s hs,if_pos c]
 ·rw [if_neg c]
  have g1:(xF p r.key).1=p r.key.2:=by show min _ _=_;omega
  have g2:(xF p r.key).2=p r.key.1:=by show max _ _=_;omega
  rw [g1,g2]
  congr 1
  ·exact any_congr fun s hs=>by
    show ((s.mv p).fw||!s.o)=_
    rw [f1 s hs,if_neg c]
  ·exact any_congr fun s hs=>by
    show (!(s.mv p).fw||!s.o)=_
    rw [f1 s hs,if_neg c,Bool.not_not]
theorem Y8 (lt:∀ v,v<m→p v<m) {E E':List Ed} (hE:ZX R E) (hE':ZX (R.map (Rw.mv p)) E'):Tnd m E E' p fun e=>aP (R.map (Rw.mv p)) (xF p (e.a.toNat,e.b.toNat)):=by
 have hq:∀ r∈R,aP (R.map (Rw.mv p)) (xF p ((aP R r.key).a.toNat,(aP R r.key).b.toNat))=aP (R.map (Rw.mv p)) (xF p r.key):=fun r _=>rfl
 have hends:∀ r∈R,∃ a b,a<m∧b<m∧(aP R r.key).a=(a:Nat)∧(aP R r.key).b=(b:Nat)∧(((aP (R.map (Rw.mv p)) (xF p r.key)).a=(p a:Nat)∧(aP (R.map (Rw.mv p)) (xF p r.key)).b=(p b:Nat))∨((aP (R.map (Rw.mv p)) (xF p r.key)).a=(p b:Nat)∧(aP (R.map (Rw.mv p)) (xF p r.key)).b=(p a:Nat))):=fun r hr=>by
  obtain ⟨h1,h2,h3⟩:=BT hR inj hr
  refine ⟨r.key.1,r.key.2,by omega,h2,rfl,rfl,?_⟩
  rw [BU hR inj hr]
  split
  ·exact .inl ⟨rfl,rfl⟩
  ·exact .inr ⟨rfl,rfl⟩
 refine ⟨inj,lt,?_,fun e he=>?_,fun e he=>?_,fun e he=>?_⟩
 ·have hnd:(E.map fun e=>aP (R.map (Rw.mv p)) (xF p (e.a.toNat,e.b.toNat))).Nodup:=by
   refine List.pairwise_map.2 (hE.nd.imp_of_mem ?_)
   intro x y hx hy hne e
   refine hne ?_
   obtain ⟨r,hr,rfl⟩:=(hE.mem x).1 hx
   obtain ⟨s,hs,rfl⟩:=(hE.mem y).1 hy
   rw [hq r hr,hq s hs] at e
   have e1:xF p r.key=xF p s.key:=by
    have e1:=congrArg Ed.a e
    have e2:=congrArg Ed.b e
    exact Prod.ext (Int.ofNat.inj e1) (Int.ofNat.inj e2)
   rw [JM hR inj hr hs e1]
  refine (List.perm_ext_iff_of_nodup hE'.nd hnd).2 fun e'=>?_
  rw [hE'.mem,List.mem_map]
  constructor
  ·rintro ⟨r',hr',rfl⟩
   obtain ⟨r,hr,rfl⟩:=List.mem_map.1 hr'
   exact ⟨aP R r.key,(hE.mem _).2 ⟨r,hr,rfl⟩,by rw [hq r hr,Hy]⟩
  ·rintro ⟨e,he,rfl⟩
   obtain ⟨r,hr,rfl⟩:=(hE.mem e).1 he
   exact ⟨r.mv p,List.mem_map_of_mem hr,by rw [hq r hr,Hy]⟩
 ·obtain ⟨r,hr,rfl⟩:=(hE.mem e).1 he
  exact hends r hr
 ·obtain ⟨r,hr,rfl⟩:=(hE.mem e).1 he
  rw [hq r hr,BU hR inj hr]
  split <;> rfl
 ·obtain ⟨r,hr,rfl⟩:=(hE.mem e).1 he
  rw [hq r hr,BU hR inj hr]
  split
  ·exact Iff.rfl
  ·exact eq_comm
end
end
section
end
section
open Go.ChangeShapes Go.WideShapes Go.ChangeAt Go.RowKit
structure P2 where
 a:Int
 b:Int
 deriving DecidableEq,Inhabited
def kI (x:P2):List Value:=[.int .i64 x.a,.int .i64 x.b]
instance ac2:cA kI 2:=⟨fun _=>rfl,by simp [kI,Value.oneCell'],by decide⟩
instance ac3:iU Tryz.prog 104 P2 kI 2:={}
def xE (w:Int):Bool:=decide (0≤w)&&decide (w≤2147483648)
def BC (p:P2):Bool:=decide (1≤p.b)&&(decide (0≤p.a)&&decide (p.a≤p.b))
def nK (a b:P2):Bool:=decide (b.a*a.b<a.a*b.b)
instance U1 (v:Int):bj Tryz.prog 76 #[.int .i64 v] Unit (fun _ _=>True) (fun _=>.bool (xE v)):=⟨fun _ w _=>by
 refine aa (fn:=Tryz.f76) Tryz.func76 rfl Tryz.ntmps76 (Nat.le_of_ble_eq_true rfl) ?_
 (refine ak ?_;(repeat' first|refine And.intro ?_ ?_|intro _);all_goals refine ah.mk ?_)
 all_goals simp [xE, *,Below.refl]⟩
instance YZ (p:P2):bj Tryz.prog 125 #[.agg (kI p).toArray] Unit (fun _ _=>True) (fun _=>.bool (BC p)):=⟨fun _ w _=>by
 have hM:=R.Own.start [] w
 refine aa (fn:=Tryz.f125) Tryz.func125 rfl Tryz.ntmps125 (Nat.le_of_ble_eq_true rfl) ?_
 (refine ak ?_;(repeat' first|refine And.intro ?_ ?_|intro _);all_goals refine ah.mk ?_)
 all_goals
  refine ⟨?_,R.Own.below ww⟩
  simp [BC, *]⟩
theorem Jw (a b:Int) (ha:ai a) (hb:ai b):ai (fW (a*b))∧ai (aw (a*b)):=by
 unfold ai fW aw at *
 have h1:0≤a*b:=Int.mul_nonneg ha.1 hb.1
 have h2:a*b≤18446744073709551615*18446744073709551615:=Int.mul_le_mul xj xj hb.1 xj
 omega
theorem wG {x y:Int}:(fW y<fW x∨fW y=fW x∧aw y<aw x)↔y<x:=by
 unfold fW aw
 omega
theorem sA {p:P2} (h:BC p=true):1≤p.b∧0≤p.a∧p.a≤p.b:=by
 unfold BC at h
 rw [Bool.and_eq_true,Bool.and_eq_true] at h
 exact ⟨of_decide_eq_true h.1,of_decide_eq_true h.2.1,of_decide_eq_true h.2.2⟩
instance V1 (a b:P2):bj Tryz.prog 126 #[.agg (kI a).toArray,.agg (kI b).toArray] Unit (fun _ _=>BC a=true∧BC b=true∧ao a.b∧ao b.b) (fun _=>.bool (nK a b)):=⟨fun _ w ⟨h1,h2,h3,h4⟩=>by
 have hM:=R.Own.start [] w
 have g1:=sA h1
 have g2:=sA h2
 unfold ao at h3 h4
 have u1:ai (fW (a.a*b.b))∧ai (aw (a.a*b.b)):=Jw _ _ (by unfold ai;omega) (by unfold ai;omega)
 have u2:ai (fW (b.a*a.b))∧ai (aw (b.a*a.b)):=Jw _ _ (by unfold ai;omega) (by unfold ai;omega)
 have hf:=wG (x:=a.a*b.b) (y:=b.a*a.b)
 refine aa (fn:=Tryz.f126) Tryz.func126 rfl Tryz.ntmps126 (Nat.le_of_ble_eq_true rfl) ?_
 (refine ak ?_;(repeat' first|refine And.intro ?_ ?_|intro _);all_goals refine ah.mk ?_)
 ·rename_i h
  rw [show nK a b=true from decide_eq_true (hf.1 (.inl h))]
  exact ⟨rfl,R.Own.below ww⟩
 ·rename_i hn he
  rw [show nK a b=decide (aw (b.a*a.b)<aw (a.a*b.b)) from decide_eq_decide.2 ⟨fun h=>((hf.2 h).resolve_left hn).2,fun h=>hf.1 (.inr ⟨he,h⟩)⟩]
  exact ⟨rfl,R.Own.below ww⟩
 ·rename_i hn he
  rw [show nK a b=false from decide_eq_false fun h=>(hf.2 h).elim hn fun g=>he g.1]
  exact ⟨rfl,R.Own.below ww⟩⟩
theorem PY (a b:Int):Tryz.prog.built 104 [(0,.int .i64 a),(1,.int .i64 b)]=some #[.int .i64 a,.int .i64 b]:=by kernel_rfl
theorem BD {C:bO} {o:Oper} {f:R.Fr} {w:World} {K:Value→World→Prop} {x y:Operand} {a b:Int} (hop:o.op=.build 104 #[(0,x),(1,y)]) (hx:ev f x=.int .i64 a) (hy:ev f y=.int .i64 b) (h:K (.agg (kI ⟨a,b⟩).toArray) w):WO Tryz.prog C o f w K:=by
 refine qx hop (cells:=#[.int .i64 a,.int .i64 b]) ?_ h
 rw [← PY]
 simp [hx,hy]
theorem U2 {n d:Int}:BC ⟨n,d⟩=!decide (n<0∨d<1∨d<n):=by
 unfold BC
 by_cases h:n<0∨d<1∨d<n
 ·rw [decide_eq_true h]
  rcases h with h|h|h
  ·rw [decide_eq_false (show ¬ 0≤(⟨n,d⟩:P2).a by show ¬ 0≤n;omega)];simp
  ·rw [decide_eq_false (show ¬ 1≤(⟨n,d⟩:P2).b by show ¬ 1≤d;omega)];simp
  ·rw [decide_eq_false (show ¬ (⟨n,d⟩:P2).a≤(⟨n,d⟩:P2).b by show ¬ n≤d;omega)];simp
 ·rw [decide_eq_false h,decide_eq_true (show 1≤(⟨n,d⟩:P2).b by show 1≤d;omega),decide_eq_true (show 0≤(⟨n,d⟩:P2).a by show 0≤n;omega),decide_eq_true (show (⟨n,d⟩:P2).a≤(⟨n,d⟩:P2).b by show n≤d;omega)]
  rfl
theorem V2 {v n d:Int} (h:(!BC ⟨n,d⟩)=true):oN v n d:=by
 rw [U2] at h
 simp at h
 unfold oN
 omega
instance Y0 (v n d:Int):bj Tryz.prog 78 #[.int .i64 v,.int .i64 n,.int .i64 d] Unit (fun _ _=>ao v∧ao n∧ao d) (fun _=>.tuple #[.int .i64 (if xE v then qG v n d else 0),.int .i64 (if xE v then yi v n d else 10)]):=⟨fun _ w ⟨h1,h2,h3⟩=>by
 have hM:=R.Own.start [] w
 refine aa (fn:=Tryz.f78) Tryz.func78 rfl Tryz.ntmps78 (Nat.le_of_ble_eq_true rfl) ?_
 (refine ak ?_;(repeat' first|refine And.intro ?_ ?_|intro _);all_goals refine ah.mk ?_)
 ·rename_i h
  rw [show xE v=false by simpa using h]
  exact ⟨rfl,R.Own.below ww⟩
 rename_i h
 refine BD rfl rfl rfl ?_
 have ho:xE v=true:=by simpa using h
 rw [ho]
 (refine ak ?_;(repeat' first|refine And.intro ?_ ?_|intro _);all_goals refine ah.mk ?_)
 ·rename_i h
  unfold qG yi
  rw [if_pos (V2 h),if_pos (V2 h)]
  exact ⟨rfl,R.Own.below ww⟩
 ·exact ⟨rfl,R.Own.below ww⟩⟩
end
def P7 (L:List P2) (i:Nat):Prop:=BC (nth L i)=true∧(0<i→nK (nth L (i-1)) (nth L i)=false)
def oV (L:List P2):Prop:=2≤L.length∧L.length≤2000∧(∀ i,i<L.length→P7 L i)∧(nth L 0).a=0∧(nth L (L.length-1)).a=(nth L (L.length-1)).b
noncomputable def rf (L:List P2):Bool:=@decide (oV L) (Classical.propDecidable _)
theorem Jz {L:List P2} (h:oV L):rf L=true:=@decide_eq_true _ (Classical.propDecidable _) h
theorem oK {L:List P2} (h:¬ oV L):rf L=false:=@decide_eq_false _ (Classical.propDecidable _) h
theorem P8 {L:List P2} (h:rf L=true):oV L:=@of_decide_eq_true _ (Classical.propDecidable _) h
def kU (v:Int) (p:P2):Int:=v*p.a / p.b
def e9 (v:Int) (L:List P2) (i:Nat):Int:=kU v (nth L (i+1))-kU v (nth L i)
def eN (v:Int) (L:List P2):List Int:=(List.range (L.length-1)).map (e9 v L)
theorem Hq {v:Int} (h:xE v=true):0≤v∧v≤2147483648:=by
 unfold xE at h
 rw [Bool.and_eq_true] at h
 exact ⟨of_decide_eq_true h.1,of_decide_eq_true h.2⟩
theorem ui {v:Int} {p:P2} (hv:0≤v) (h:BC p=true):0≤kU v p∧kU v p≤v:=by
 obtain ⟨h1,h2,h3⟩:=sA h
 exact ⟨Int.ediv_nonneg (Int.mul_nonneg hv h2) xj,Int.ediv_le_of_le_mul xj (Int.mul_le_mul_of_nonneg_left h3 hv)⟩
theorem LH {v:Int} {p q:P2} (hv:0≤v) (hp:BC p=true) (hq:BC q=true) (h:nK p q=false):kU v p≤kU v q:=by
 obtain ⟨p1,p2,p3⟩:=sA hp
 obtain ⟨q1,q2,q3⟩:=sA hq
 have h:¬ q.a*p.b<p.a*q.b:=of_decide_eq_false h
 unfold kU
 rw [Int.le_ediv_iff_mul_le (by omega)]
 refine Int.le_of_mul_le_mul_right (a:=p.b) ?_ xj
 have e1:v*p.a / p.b*p.b≤v*p.a:=Int.ediv_mul_le _ xj
 have e2:=Int.mul_le_mul_of_nonneg_right e1 (show 0≤q.b by omega)
 have e3:=Int.mul_le_mul_of_nonneg_left (Int.not_lt.1 h) hv
 have e4:v*p.a / p.b*q.b*p.b=v*p.a / p.b*p.b*q.b:=Int.mul_right_comm _ _ _
 have e5:v*p.a*q.b=v*(p.a*q.b):=Int.mul_assoc _ _ _
 have e6:v*q.a*p.b=v*(q.a*p.b):=Int.mul_assoc _ _ _
 omega
theorem P9 {v:Int} {L:List P2} (hv:0≤v) (h:oV L) {i:Nat} (hi:i+1<L.length):0≤e9 v L i∧e9 v L i≤v:=by
 have h1:=h.2.2.1 i xj
 have h2:=h.2.2.1 (i+1) hi
 have h3:=LH hv h1.1 h2.1 (by have:=h2.2 xj;rwa [Nat.add_sub_cancel] at this)
 have h4:=ui hv h1.1
 have h5:=ui hv h2.1
 unfold e9
 omega
theorem Hr {v:Int} {L:List P2} (h:oV L):kU v (nth L 0)=0:=by
 unfold kU
 rw [h.2.2.2.1,Int.mul_zero,Int.zero_ediv]
section
structure HJ where
 g:bJ
 w:Int
 o:Bool
 deriving Inhabited
def tT (s:HJ):HJ:=⟨tG s.g,s.w,s.o⟩
def tJ (c:Ct):P2:=⟨c.n,c.d⟩
def mf (nodes:List Sp) (x:Sp):Nat:=nodes.idxOf x
def fX (s:HJ) (C:List Ct) (nodes:List Sp):List Rw:=(List.range (C.length-1)).map fun j=>⟨mf nodes (nth C j).s,mf nodes (nth C (j+1)).s,e9 s.w (C.map tJ) j,s.o⟩
def iK (S:List HJ) (rows:List (List Ct)) (nodes:List Sp):List Rw:=(List.range S.length).flatMap fun i=>fX (nth S i) (nth rows i) nodes
structure gm (S:List HJ) (rows:List (List Ct)) (nodes:List Sp) (E:List Ed):Prop where
 len:rows.length=S.length
 row:∀ i,i<S.length→kW (S.map (·.g)) i (nth rows i)
 QS:nodes.Pairwise fun a b=>d9 a b<0
 mem:∀ x,x∈nodes↔∃ C∈rows,∃ c∈C,c.s=x
 Zt:ZX (iK S rows nodes) E
theorem aeP {s t:bJ} (hs:aK s) (ht:aK t) {x:Mt} (h:fK s t x):∀ c∈xG s x,oY s c:=by
 have over:∀ p,bL p→oY s (bT s (b9 s.a s.b p) (b9 s.a s.b s.b)):=fun p _=>me s (by
  have:=Vh hs.1 hs.2.1 hs.2.1
  omega)
 intro c hc
 cases h with
 | no=>cases hc
 | @over L _ _ hL =>
  have hm:∀ p∈L,bL p:=fun p hp=>by
   obtain ⟨h1,_⟩:=(hL.2 p).1 hp
   rcases h1 with rfl|rfl|rfl|rfl
   ·exact hs.1
   ·exact hs.2.1
   ·exact ht.1
   ·exact ht.2.1
  match L,hc with
  | [],hc=>cases hc
  | [p],hc =>
   rw [List.mem_singleton.1 (show c∈[bT s (if p=s.a then 0 else 1) 1] from hc)]
   exact me s xj
  | p::q::l,hc =>
   have hc:c∈[bT s (b9 s.a s.b p) (b9 s.a s.b s.b),bT s (b9 s.a s.b ((q::l).getLast (by simp))) (b9 s.a s.b s.b)]:=hc
   rcases List.mem_cons.1 hc with rfl|hc
   ·exact over p (hm p (by simp))
   ·rw [List.mem_singleton.1 hc]
    exact over _ (hm _ (List.mem_cons_of_mem _ (List.getLast_mem _)))
 | at_ =>
  have h1:=pK ht.1 ht.2.1 hs.1
  have h2:=pK ht.1 ht.2.1 hs.2.1
  unfold E9 at hc
  split at hc
  ·rw [List.mem_singleton.1 (show c∈[bT s _ _] from hc)]
   exact me s xj
  ·rw [List.mem_singleton.1 (show c∈[bT s _ _] from hc)]
   exact me s xj
theorem oL {S:List bJ} (hS:∀ s∈S,aK s) {i:Nat} (hi:i<S.length) {c:Ct} (h:tI S i c):oY (nth S i) c:=by
 have hl:∀ j,j<S.length→aK (nth S j):=fun j hj=>hS _ (by rw [av hj];exact List.getElem_mem hj)
 rcases h with rfl|rfl|⟨j,hj,_,_,x,hx,hc⟩
 ·exact me _ xj
 ·exact me _ xj
 ·exact aeP (hl i hi) (hl j hj) hx c hc
theorem Fc {s:bJ} (hs:aK s) {p q:Pt} (hp:dx s.a s.b p=0) (hq:dx s.a s.b q=0) (e:b9 s.a s.b p=b9 s.a s.b q):p=q:=by
 unfold dx at hp hq
 unfold b9 at e
 have pos:∀ u v:Int,(u≠0∨v≠0)→u*u+v*v≠0:=fun u v h k=>by
  have h1:0≤u*u:=by
   rcases Int.le_total 0 u with c|c
   ·exact Int.mul_nonneg c c
   ·exact Int.mul_nonneg_of_nonpos_of_nonpos c c
  have h2:0≤v*v:=by
   rcases Int.le_total 0 v with c|c
   ·exact Int.mul_nonneg c c
   ·exact Int.mul_nonneg_of_nonpos_of_nonpos c c
  have z1:u*u=0:=by omega
  have z2:v*v=0:=by omega
  rcases h with h|h
  ·exact h ((Int.mul_eq_zero.1 z1).elim id id)
  ·exact h ((Int.mul_eq_zero.1 z2).elim id id)
 have hu:s.b.x-s.a.x≠0∨s.b.y-s.a.y≠0:=by
  refine Classical.byContradiction fun k=>hs.2.2 (Pt.gW.2 ?_)
  omega
 have h0:=pos _ _ hu
 have k1:((s.b.x-s.a.x)*(s.b.x-s.a.x)+(s.b.y-s.a.y)*(s.b.y-s.a.y))*(p.x-q.x)=0:=by grind
 have k2:((s.b.x-s.a.x)*(s.b.x-s.a.x)+(s.b.y-s.a.y)*(s.b.y-s.a.y))*(p.y-q.y)=0:=by grind
 have z1:=(Int.mul_eq_zero.1 k1).resolve_left h0
 have z2:=(Int.mul_eq_zero.1 k2).resolve_left h0
 exact Pt.gW.2 ⟨by omega,by omega⟩
theorem QA {α:Type} (f:α→Int):∀ (l:List α),(∀ a∈l,∀ b∈l,f a=f b→a=b)→∃ L:List α,L.Pairwise (fun a b=>f a<f b)∧∀ x,x∈L↔x∈l
 | [],_=>⟨[],.nil,fun _=>Iff.rfl⟩
 | a::l,h=>by
  obtain ⟨L,h1,h2⟩:=QA f l fun x hx y hy=>h x (by simp [hx]) y (by simp [hy])
  refine ⟨L.filter (fun x=>decide (f x<f a))++a::L.filter (fun x=>decide (f a<f x)),?_,fun x=>?_⟩
  ·refine List.pairwise_append.2 ⟨h1.filter _,List.pairwise_cons.2 ⟨fun x hx=>of_decide_eq_true (List.mem_filter.1 hx).2,h1.filter _⟩,fun x hx y hy=>?_⟩
   have hxa:=of_decide_eq_true (List.mem_filter.1 hx).2
   rcases List.mem_cons.1 hy with rfl|hy
   ·exact hxa
   ·have:=of_decide_eq_true (List.mem_filter.1 hy).2
    omega
  ·rw [List.mem_append,List.mem_cons,List.mem_filter,List.mem_filter,decide_eq_true_iff,decide_eq_true_iff,List.mem_cons,h2]
   constructor
   ·rintro (⟨h3,_⟩|h3|⟨h3,_⟩)
    ·exact .inr h3
    ·exact .inl h3
    ·exact .inr h3
   ·rintro (h3|h3)
    ·exact .inr (.inl h3)
    ·rcases Int.lt_trichotomy (f x) (f a) with c|c|c
     ·exact .inl ⟨h3,c⟩
     ·exact .inr (.inl (h x (by simp [h3]) a (by simp) c))
     ·exact .inr (.inr ⟨h3,c⟩)
theorem Zr {s t:bJ} (hs:aK s):∃ L,oX s t L:=by
 obtain ⟨L,h1,h2⟩:=QA (b9 s.a s.b) ([s.a,s.b,t.a,t.b].filter fun p=>decide (kA s p∧kA t p)) fun p hp q hq e=>Fc hs (of_decide_eq_true (List.mem_filter.1 hp).2).1.1 (of_decide_eq_true (List.mem_filter.1 hq).2).1.1 e
 refine ⟨L,h1,fun p=>?_⟩
 rw [h2,List.mem_filter,decide_eq_true_iff]
 unfold Qu
 simp
theorem JS {s t:bJ} (hs:aK s):∃ x,fK s t x:=by
 by_cases h1:eE s t
 ·by_cases h2:gX s t
  ·obtain ⟨L,hL⟩:=Zr (t:=t) hs
   exact ⟨_,.over h1 h2 hL⟩
  ·exact ⟨_,.at_ h1 h2⟩
 ·exact ⟨_,.no h1⟩
theorem aB {α:Type} [Inhabited α] {l:List α} {i:Nat} (h:i<l.length):nth l i∈l:=by
 rw [av h]
 exact List.getElem_mem h
theorem kX {nodes:List Sp} {x:Sp} (h:x∈nodes):mf nodes x<nodes.length:=List.idxOf_lt_length_of_mem h
theorem mg {nodes:List Sp} {x:Sp} (h:x∈nodes):nth nodes (mf nodes x)=x:=by
 rw [av (kX h)]
 exact List.getElem_idxOf (kX h)
section
variable {S:List HJ} {rows rows':List (List Ct)} {nodes nodes':List Sp} {E E':List Ed} (hS:∀ s∈S,aK s.g)
include hS
theorem rp:∀ s∈S.map (·.g),aK s:=fun s hs=>by
 obtain ⟨x,hx,rfl⟩:=List.mem_map.1 hs
 exact hS x hx
theorem HL (h:gm S rows nodes E) {i:Nat} (hi:i<S.length) {c:Ct} (hc:c∈nth rows i):oY (nth S i).g c:=by
 have:=oL (rp hS) (i:=i) (by simpa using hi) (((h.row i hi).mem c).1 hc)
 rwa [bW hi] at this
omit hS in
theorem Vl (h:gm S rows nodes E) {C:List Ct} (hC:C∈rows):∃ i,i<S.length∧nth rows i=C:=by
 obtain ⟨i,hi,e⟩:=List.getElem_of_mem hC
 exact ⟨i,by rw [← h.len];exact hi,by rw [av hi];exact e⟩
theorem rq (h:gm S rows nodes E) {x:Sp} (hx:x∈nodes):bo x=true:=by
 obtain ⟨C,hC,c,hc,rfl⟩:=(h.mem x).1 hx
 obtain ⟨i,hi,rfl⟩:=Vl h hC
 obtain ⟨h1,h2,h3,h4,h5,_⟩:=HL hS h hi hc
 have hl:=hS _ (aB hi)
 rw [h5]
 exact sG hl.1 hl.2.1 h1 h2 h3 h4
theorem Ff (h:gm S rows nodes E):nodes.Nodup :=
 h.QS.imp_of_mem fun {a b} ha _ hab e=>by
  subst e
  exact rn (rq hS h ha) hab
omit hS in
theorem ru (h:gm S rows nodes E) {i:Nat} (hi:i<S.length) {c:Ct} (hc:c∈nth rows i):c.s∈nodes:=(h.mem _).2 ⟨_,aB (by rw [h.len];exact hi),c,hc,rfl⟩
theorem JT (h:gm S rows nodes E):∀ r∈iK S rows nodes,r.i<nodes.length∧r.k<nodes.length∧r.i≠r.k:=by
 intro r hr
 obtain ⟨i,hi,hr⟩:=List.mem_flatMap.1 hr
 have hi:=List.mem_range.1 hi
 obtain ⟨j,hj,rfl⟩:=List.mem_map.1 hr
 have hj:=List.mem_range.1 hj
 have m1:nth (nth rows i) j∈nth rows i:=aB xj
 have m2:nth (nth rows i) (j+1)∈nth rows i:=aB xj
 have n1:=ru h hi m1
 have n2:=ru h hi m2
 refine ⟨kX n1,kX n2,fun e=>?_⟩
 have e2:(nth (nth rows i) j).s=(nth (nth rows i) (j+1)).s:=by
  have:=congrArg (nth nodes) e
  rwa [mg n1,mg n2] at this
 obtain ⟨a1,a2,a3,a4,a5,_⟩:=HL hS h hi m1
 obtain ⟨b1,b2,b3,b4,b5,_⟩:=HL hS h hi m2
 rw [a5,b5] at e2
 have:=Qz (hS _ (aB hi)) a1 a2 a3 a4 b1 b2 b3 b4 e2
 have hlt:=List.pairwise_iff_getElem.1 (h.row i hi).QS j (j+1) xj xj xj
 rw [← av,← av] at hlt
 unfold V7 at hlt
 omega
theorem abU (h:gm S rows nodes E) (h':gm (S.map tT) rows' nodes' E'):nodes'.length=nodes.length∧∃ p q,Tnd nodes.length E E' p q:=by
 have hS':∀ s∈S.map tT,aK s.g:=fun s hs=>by
  obtain ⟨x,hx,rfl⟩:=List.mem_map.1 hs
  exact BV (hS x hx)
 have hg:(S.map tT).map (·.g)=(S.map (·.g)).map tG:=by
  rw [List.map_map,List.map_map]
  rfl
 have hrow:∀ i,i<S.length→nth rows' i=(nth rows i).map tC:=fun i hi=>by
  have h1:=h'.row i (by simpa using hi)
  rw [hg] at h1
  refine Qx h1 (V8 (by simpa using hi) (fun j hj=>?_) (h.row i hi))
  rw [bW hi]
  exact JS (hS _ (aB hi))
 have hlen:rows'.length=rows.length:=by rw [h'.len,h.len,List.length_map]
 have hrows:rows'=rows.map (List.map tC):=by
  refine List.ext_getElem (by rw [List.length_map,hlen]) fun i h1 h2=>?_
  have hi:i<S.length:=by rw [← h.len,← hlen];exact h1
  have:=hrow i hi
  rw [av h1,av (by rw [h.len];exact hi)] at this
  rw [this,List.getElem_map]
 have hmem:∀ x,x∈nodes'↔∃ y∈nodes,tS y=x:=fun x=>by
  rw [h'.mem,hrows]
  constructor
  ·rintro ⟨C',hC',c',hc',rfl⟩
   obtain ⟨C,hC,rfl⟩:=List.mem_map.1 hC'
   obtain ⟨c,hc,rfl⟩:=List.mem_map.1 hc'
   exact ⟨c.s,(h.mem _).2 ⟨C,hC,c,hc,rfl⟩,rfl⟩
  ·rintro ⟨y,hy,rfl⟩
   obtain ⟨C,hC,c,hc,rfl⟩:=(h.mem y).1 hy
   exact ⟨_,List.mem_map_of_mem hC,_,List.mem_map_of_mem hc,rfl⟩
 have hnd:=Ff hS h
 have hnd':=Ff hS' h'
 have hinj:∀ x y,x∈nodes→y∈nodes→tS x=tS y→x=y:=fun x y hx hy e=>Zq (rq hS h hx) (rq hS h hy) e
 have hperm:nodes'.Perm (nodes.map tS):=by
  refine (List.perm_ext_iff_of_nodup hnd' (List.pairwise_map.2 (hnd.imp_of_mem fun {x y} hx hy hne e=>hne (hinj x y hx hy e)))).2 fun x=>?_
  rw [hmem,List.mem_map]
 have hnl:nodes'.length=nodes.length:=by rw [hperm.length_eq,List.length_map]
 have hp:∀ x∈nodes,mf nodes' (tS x)=mf nodes' (tS (nth nodes (mf nodes x))):=fun x hx=>by rw [mg hx]
 have hruns:iK (S.map tT) rows' nodes'=(iK S rows nodes).map (Rw.mv fun v=>mf nodes' (tS (nth nodes v))):=by
  unfold iK
  rw [List.map_flatMap,List.length_map]
  refine congrArg List.flatten (List.map_congr_left fun i hi=>?_)
  have hi:=List.mem_range.1 hi
  rw [hrow i hi,bW hi]
  unfold fX
  rw [List.length_map]
  refine (List.map_congr_left fun j hj=>?_).trans List.map_map.symm
  have hj:=List.mem_range.1 hj
  have e1:nth ((nth rows i).map tC) j=tC (nth (nth rows i) j):=bW xj
  have e2:nth ((nth rows i).map tC) (j+1)=tC (nth (nth rows i) (j+1)):=bW xj
  have e3:((nth rows i).map tC).map tJ=(nth rows i).map tJ:=by
   rw [List.map_map]
   rfl
  show (⟨mf nodes' (nth ((nth rows i).map tC) j).s,mf nodes' (nth ((nth rows i).map tC) (j+1)).s,e9 (nth S i).w (((nth rows i).map tC).map tJ) j,(nth S i).o⟩:Rw)=Rw.mv _ ⟨_,_,_,_⟩
  rw [e1,e2,e3]
  unfold Rw.mv
  congr 1
  ·exact hp _ (ru h hi (aB xj))
  ·exact hp _ (ru h hi (aB xj))
 have hedge:=h'.Zt
 rw [hruns] at hedge
 have hin':∀ v,v<nodes.length→tS (nth nodes v)∈nodes':=fun v hv=>(hmem _).2 ⟨_,aB hv,rfl⟩
 have inj:∀ u v,u<nodes.length→v<nodes.length→mf nodes' (tS (nth nodes u))=mf nodes' (tS (nth nodes v))→u=v:=fun u v hu hv e=>by
  have e1:=congrArg (nth nodes') e
  rw [mg (hin' u hu),mg (hin' v hv)] at e1
  have e2:=hinj _ _ (aB hu) (aB hv) e1
  rw [av hu,av hv] at e2
  exact (List.getElem_inj hnd).1 e2
 exact ⟨hnl,_,_,Y8 (JT hS h) inj (fun v hv=>by rw [← hnl];exact kX (hin' v hv)) h.Zt hedge⟩
theorem QB (h:gm S rows nodes E) (h':gm (S.map tT) rows' nodes' E'):E'.length=E.length∧m7 E' E'.length=m7 E E.length∧kJ E' E'.length=kJ E E.length∧i9 (ec E' nodes'.length E'.length)=i9 (ec E nodes.length E.length):=by
 obtain ⟨hn,p,q,ht⟩:=abU hS h h'
 rw [hn]
 exact ht.same
end
end
structure Bo where
 lx:Int
 ly:Int
 hx:Int
 hy:Int
 k:Int
 deriving DecidableEq,Inhabited
def oQ (s:bJ) (i:Nat):Bo:=⟨min s.a.x s.b.x,min s.a.y s.b.y,max s.a.x s.b.x,max s.a.y s.b.y,i⟩
def nR (S:List bJ):List Bo:=(List.range S.length).map fun i=>oQ (nth S i) i
def ZY (a b:Bo):P2:=⟨min a.k b.k,max a.k b.k⟩
def QC (a b:Bo):Prop:=b.lx≤a.hx∧b.ly≤a.hy∧a.ly≤b.hy
def Zu (D:List Bo) (i j:Nat) (x:P2):Prop:=∃ p q,p<q∧q<D.length∧(p<i∨(p=i∧q<j))∧QC (nth D p) (nth D q)∧x=ZY (nth D p) (nth D q)
def lr (D:List Bo) (i j:Nat) (L:List P2):Prop:=∀ x,x∈L↔Zu D i j x
theorem Fg (D:List Bo):lr D 0 1 []:=fun x=>by
 constructor
 ·intro h
  cases h
 ·rintro ⟨p,q,h1,_,h3,_⟩
  omega
theorem LQ {D:List Bo} {i j:Nat} {L:List P2} (h:lr D i j L) (hi:i<j) (hj:j<D.length) (hs:QC (nth D i) (nth D j)):lr D i (j+1) (L++[ZY (nth D i) (nth D j)]):=fun x=>by
 rw [List.mem_append,h x,List.mem_singleton]
 constructor
 ·rintro (⟨p,q,h1,h2,h3,h4⟩|rfl)
  ·exact ⟨p,q,h1,h2,by omega,h4⟩
  ·exact ⟨i,j,hi,hj,by omega,hs,rfl⟩
 ·rintro ⟨p,q,h1,h2,h3,h4,h5⟩
  by_cases e:p=i∧q=j
  ·obtain ⟨rfl,rfl⟩:=e
   exact .inr h5
  ·exact .inl ⟨p,q,h1,h2,by omega,h4,h5⟩
theorem QD {D:List Bo} {i j:Nat} {L:List P2} (h:lr D i j L) (hs:¬ QC (nth D i) (nth D j)):lr D i (j+1) L:=fun x=>by
 rw [h x]
 constructor
 ·rintro ⟨p,q,h1,h2,h3,h4⟩
  exact ⟨p,q,h1,h2,by omega,h4⟩
 ·rintro ⟨p,q,h1,h2,h3,h4,h5⟩
  by_cases e:p=i∧q=j
  ·obtain ⟨rfl,rfl⟩:=e
   exact absurd h4 hs
  ·exact ⟨p,q,h1,h2,by omega,h4,h5⟩
theorem wO {D:List Bo} {i j:Nat} {L:List P2} (h:lr D i j L) (hs:D.Pairwise fun a b=>a.lx≤b.lx) (hb:j<D.length→(nth D i).hx<(nth D j).lx):lr D (i+1) (i+1+1) L:=fun x=>by
 rw [h x]
 constructor
 ·rintro ⟨p,q,h1,h2,h3,h4⟩
  exact ⟨p,q,h1,h2,by omega,h4⟩
 ·rintro ⟨p,q,h1,h2,h3,h4,h5⟩
  refine ⟨p,q,h1,h2,?_,h4,h5⟩
  by_cases e:p=i∧j≤q
  ·obtain ⟨rfl,hjq⟩:=e
   exfalso
   have h6:=hb xj
   have h7:(nth D j).lx≤(nth D q).lx:=by
    rcases Nat.lt_or_ge j q with c|c
    ·have:=List.pairwise_iff_getElem.1 hs j q xj h2 c
     rw [av (by omega:j<D.length),av h2]
     exact this
    ·obtain rfl:j=q:=by omega
     exact Int.le_refl _
   have:=h4.1
   omega
  ·omega
def B4 (S:List bJ) (L:List P2):Prop:=∀ x,x∈L↔∃ i k:Nat,i<k∧k<S.length∧oW (nth S i) (nth S k)∧x=⟨i,k⟩
theorem wP {S:List bJ} {b:Bo}:b∈nR S↔∃ i,i<S.length∧b=oQ (nth S i) i:=by
 unfold nR
 rw [List.mem_map]
 constructor
 ·rintro ⟨i,hi,rfl⟩
  exact ⟨i,List.mem_range.1 hi,rfl⟩
 ·rintro ⟨i,hi,rfl⟩
  exact ⟨i,List.mem_range.2 hi,rfl⟩
theorem wQ {S:List bJ} {i k:Nat} (h:(oQ (nth S i) i).lx≤(oQ (nth S k) k).lx):QC (oQ (nth S i) i) (oQ (nth S k) k)↔oW (nth S i) (nth S k):=by
 unfold QC oW
 simp only [oQ] at h ⊢
 omega
theorem QE {S:List bJ} {D:List Bo} {L:List P2} (hp:D.Perm (nR S)) (hs:D.Pairwise fun a b=>a.lx≤b.lx) (h:lr D D.length (D.length+1) L):B4 S L:=by
 have hin:∀ p,p<D.length→∃ i,i<S.length∧nth D p=oQ (nth S i) i:=fun p hpl=>wP.1 (hp.subset (R.aB hpl))
 have hnd:(D.map (·.k)).Nodup:=by
  refine (hp.map _).nodup_iff.2 ?_
  unfold nR
  rw [List.map_map]
  exact List.pairwise_map.2 ((List.nodup_range (n:=S.length)).imp fun {a b} hab e=>hab (by
   have e:(a:Int)=(b:Int):=e
   omega))
 have hk:∀ p q,p<D.length→q<D.length→(nth D p).k=(nth D q).k→p=q:=fun p q h1 h2 e=>by
  rw [av h1,av h2] at e
  have:=(List.getElem_inj (h₀:=by rw [List.length_map];exact h1) (h₁:=by rw [List.length_map];exact h2) hnd).1 (by rw [List.getElem_map,List.getElem_map];exact e)
  exact this
 have hlx:∀ p q,p<q→q<D.length→(nth D p).lx≤(nth D q).lx:=fun p q h1 h2=>by
  rw [av (by omega:p<D.length),av h2]
  exact List.pairwise_iff_getElem.1 hs p q xj h2 h1
 intro x
 rw [h x]
 constructor
 ·rintro ⟨p,q,h1,h2,h3,h4,rfl⟩
  obtain ⟨i,hi,ei⟩:=hin p xj
  obtain ⟨k,hk',ek⟩:=hin q h2
  have hl:=hlx p q h1 h2
  have hne:i≠k:=fun e=>by
   have:=hk p q xj h2 (by rw [ei,ek,e])
   omega
  rw [ei,ek] at h4 hl ⊢
  have hn:=(wQ hl).1 h4
  have e1:(oQ (nth S i) i).k=(i:Int):=rfl
  have e2:(oQ (nth S k) k).k=(k:Int):=rfl
  unfold ZY
  rw [e1,e2]
  rcases Nat.lt_or_ge i k with c|c
  ·exact ⟨i,k,c,hk',hn,by rw [Int.min_eq_left xj,Int.max_eq_right (by omega)]⟩
  ·exact ⟨k,i,by omega,hi,mP.1 hn,by rw [Int.min_eq_right xj,Int.max_eq_left (by omega)]⟩
 ·rintro ⟨i,k,h1,h2,h3,rfl⟩
  have at_:∀ j,j<S.length→∃ p,p<D.length∧nth D p=oQ (nth S j) j:=fun j hj=>by
   obtain ⟨p,hpl,e⟩:=List.getElem_of_mem (hp.symm.subset (wP.2 ⟨j,hj,rfl⟩))
   exact ⟨p,hpl,by rw [av hpl];exact e⟩
  obtain ⟨p,hpl,ep⟩:=at_ i xj
  obtain ⟨q,hql,eq⟩:=at_ k h2
  have e1:(oQ (nth S i) i).k=(i:Int):=rfl
  have e2:(oQ (nth S k) k).k=(k:Int):=rfl
  have hne:p≠q:=fun e=>by
   subst e
   rw [ep] at eq
   have e:=congrArg Bo.k eq
   rw [e1,e2] at e
   omega
  rcases Nat.lt_or_ge p q with c|c
  ·have hl:=hlx p q c hql
   refine ⟨p,q,c,hql,.inl xj,?_,?_⟩
   ·rw [ep,eq] at hl ⊢
    exact (wQ hl).2 h3
   ·rw [ep,eq]
    unfold ZY
    rw [e1,e2,Int.min_eq_left xj,Int.max_eq_right (by omega)]
  ·have hl:=hlx q p xj hpl
   refine ⟨q,p,by omega,hpl,.inl xj,?_,?_⟩
   ·rw [ep,eq] at hl ⊢
    exact (wQ hl).2 (mP.1 h3)
   ·rw [ep,eq]
    unfold ZY
    rw [e1,e2,Int.min_eq_right xj,Int.max_eq_left (by omega)]
end Go.Proofs.YtlmabdegojeheaaGreatDoor
