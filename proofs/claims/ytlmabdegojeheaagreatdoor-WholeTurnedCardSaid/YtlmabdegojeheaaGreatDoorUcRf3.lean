/- WholeTurned: parts of its proof (Uc Sn Ref2 Rf Rf3). -/
import Derived.Test.YtlmabdegojeheaaGreatDoorVGo
import Derived.Lib.AppendZerosOnto
import Derived.Laws.IdiomCopy
import Derived.Test.YtlmabdegojeheaaGreatDoorWxWy
import Derived.Test.YtlmabdegojeheaaGreatDoorFacts
import Derived.Test.YtlmabdegojeheaaGreatDoorNumWide2
namespace Go.Proofs.YtlmabdegojeheaaGreatDoor
open R Go.RowKit
section
theorem tA {T:Type} {a b:List T} {k:Nat} (h:a.length=k) (j:Nat):(a++b).take (k+j)=a++b.take j:=by
 subst h
 rw [List.take_append,List.take_of_length_le xj,Nat.add_sub_cancel_left]
theorem dA {T:Type} {a b:List T} {k:Nat} (h:a.length=k) (j:Nat):(a++b).drop (k+j)=b.drop j:=by
 subst h
 rw [List.drop_append,List.drop_eq_nil_of_le xj,Nat.add_sub_cancel_left,List.nil_append]
theorem mJ (b:Nat) (t:TypeId):∀ (vs:List Value) (o:Nat) (w:World) (cur:Array Value),w.heap[b]?=some (.cells cur t (0,0))→o+vs.length≤cur.size →
  ∃ k9,(w.setCells b o vs).heap[b]?=some (.cells k9 t (0,0))∧k9.size=cur.size∧k9.toList=cur.toList.take o++(vs++cur.toList.drop (o+vs.length))∧w.grownBy (w.setCells b o vs) (some b)
 | [],o,w,cur,h,_=>⟨cur,h,rfl,by simp,⟨rfl,rfl,rfl,Nat.le_refl _,fun _ _ _=>rfl⟩⟩
 | v::r,o,w,cur,h,hl=>by
  have hl':o+1+r.length≤cur.size:=by simp at hl;omega
  obtain ⟨c2,h1,h2,h3,h4⟩:=mJ b t r (o+1) (w.setCell ⟨b,o,none⟩ v) (cur.setIfInBounds o v) (heap_setCell_same w b o cur t v h) (by rw [Array.size_setIfInBounds];exact hl')
  refine ⟨c2,h1,by rw [h2,Array.size_setIfInBounds],?_,⟨h4.os,h4.tape,h4.output,?_,?_⟩⟩
  ·rw [h3,Array.toList_setIfInBounds,List.set_eq_take_append_cons_drop,if_pos (by rw [Array.length_toList];omega)]
   have e0:(cur.toList.take o).length=o:=by rw [List.length_take,Array.length_toList];omega
   rw [tA e0,show o+1+r.length=o+(1+r.length) by omega,dA e0,show 1+r.length=r.length+1 by omega]
   simp only [List.take_succ_cons,List.take_zero,List.drop_succ_cons,List.drop_drop,List.length_cons,List.append_assoc,List.cons_append,List.nil_append]
   rw [show o+1+r.length=o+(r.length+1) by omega]
  ·exact Nat.le_trans (by simp) h4.size
  ·intro k hk hne
   rw [show (w.setCells b o (v::r)).heap[k]?=((w.setCell ⟨b,o,none⟩ v).setCells b (o+1) r).heap[k]? from rfl,h4.block k (by simpa using hk) hne]
   exact heap_setCell_other w ⟨b,o,none⟩ k v (fun e=>hne (by rw [e]))
theorem Lm {w:World} {A:Option Addr} {n c sz:Nat} {e:TypeId} {cs:List Value} (h:w.ownsRow 0 e sz (.slice A n c) n cs) (hn:0<n):∃ g cur,A=some ⟨g,0,none⟩∧w.heap[g]?=some (.cells cur e (0,0))∧n≤c∧c≤maxLen∧cur.size=c*sz∧cur.toList.take (n*sz)=cs:=by
 rcases h.2 with ⟨hv,h0⟩|⟨g,cap,cur,hv,_,h1,h2,h3,h4,h5⟩
 ·omega
 ·injection hv with a1 a2 a3
  subst a3
  exact ⟨g,cur,a1,h1,h2,h3,h4,h5⟩
theorem wm (z:Array Value) (n:Nat):(Builtin.zeroCells z n).size=n*z.size:=by simp [Builtin.zeroCells]
namespace R
section
variable {P:Program} {C:bO} {o:Oper} {f:Fr} {w:World} {K:Value→World→Prop} {t t' e:TypeId} {x y:Operand} {n c c1 m mc d dc sz lo k cc i bytes:Nat} {z:Value} {A B:Option Addr} {F:List Nat} {W:World} {l l':List bX} {cs ms ss:List Value}
theorem yo {g:Nat} (hop:o.op=.call { callee:=.builtin .clear,args:=#[x],argTypes:=#[t] }) [hS:bq P t e sz] [hZ:bY P e z] (hzs:z.cells.size=sz) (hz1:∀ v∈z.cells.toList,v.oneCell'=true) (hs0:0<sz) (hx:ev f x=.slice (mH (some ⟨g,0,none⟩) cc lo sz) k dc) (hM:Own F W w (.row (some ⟨g,0,none⟩) n c e sz cs::l)) (hcc:cc≠lo) (hk0:0<k) (hnl:n≤lo) (hlk:lo+k≤c)
  (hk:∀ w',Own F W w' (.row (some ⟨g,0,none⟩) n c e sz cs::l)→K (.tuple #[]) w'):WO P C o f w K:=by
 have hrow:w.ownsRow 0 e sz (.slice (some ⟨g,0,none⟩) n c) n cs:=hM.ok _ (.head _)
 rcases hrow.2 with ⟨hv,_⟩|⟨g',cap,cur,hv,_,hgb,hnc,hcm,hcs,hct⟩
 ·cases hv
 injection hv with a1 a2 a3
 injection a1 with a1
 injection a1 with a1
 subst a1 a3
 have hx2:ev f x=.slice (some ⟨g,lo*sz,none⟩) k dc:=by
  rw [hx]
  unfold mH
  rw [if_neg hcc]
  simp [Addr.add_lit]
 have hfit:lo*sz+k*sz≤cur.size:=by
  rw [hcs,← Nat.add_mul]
  exact Nat.mul_le_mul_right _ hlk
 obtain ⟨zs,hzs2⟩:∃ zs,(Builtin.zeroCells z.cells k).toList=zs:=⟨_,rfl⟩
 have hzl:zs.length=k*sz:=by rw [← hzs2,Array.length_toList,wm,hzs]
 have hzo:∀ v∈zs,v.oneCell'=true:=fun v hv=>by
  rw [← hzs2] at hv
  unfold Builtin.zeroCells at hv
  rw [Array.toList_map] at hv
  obtain ⟨q,_,rfl⟩:=List.mem_map.1 hv
  have hq:q % z.cells.size<z.cells.size:=Nat.mod_lt _ xj
  rw [getElem!_pos z.cells _ hq]
  exact hz1 _ (Array.getElem_mem_toList hq)
 have hst:=run_storeCells_cells (P:=P) g (lo*sz) zs 0 w (fun j hj=>by simp only [World.cell?,hgb,Nat.add_zero];rw [Array.getElem?_eq_getElem (by omega)];rfl) (fun j hj=>by simp [World.frozen?,hgb]) hzo
 obtain ⟨c2,b1,b2,b3,b4⟩:=mJ g e zs (lo*sz) w cur hgb xj
 have hle:n*sz≤lo*sz:=Nat.mul_le_mul_right _ hnl
 obtain ⟨k,rfl⟩:∃ k',k=k'+1:=⟨k-1,by omega⟩
 refine pf (v:=.tuple #[]) (w':=w.setCells g (lo*sz) zs) ?_ (hk _ (hM.cw .head b4 ⟨hrow.1,.inr ⟨g,c,c2,rfl,Nat.zero_le _,b1,hnc,hcm,by rw [b2,hcs],?_⟩⟩ (.inl rfl)))
 ·simp only [Nat.add_zero] at hst
  simp [execOp,hop,resolve,invoke,builtin,hx2,Builtin.clear_,run_underlying hS.h,hZ.h,hzs2,hst,Result.andThen]
 ·have e1:(cur.toList.take (lo*sz)).length=lo*sz:=by rw [List.length_take,Array.length_toList];omega
  rw [b3,List.take_append_of_le_length xj,List.take_take,Nat.min_eq_left hle,hct]
theorem D3 {A:Option Addr} {m:Nat} (hM:Own F W w (.row A n c e sz cs::l)) (hm:m≤n):Own F W w (.row A m c e sz (cs.take (m*sz))::l):=by
 refine ⟨hM.os,hM.tape,hM.output,hM.size,hM.kept,fun r hr=>?_,fun r hr k hk=>?_,hM.nodup⟩
 ·rcases List.mem_cons.1 hr with rfl|hr
  ·have h:w.ownsRow 0 e sz (.slice A n c) n cs:=hM.ok _ (.head _)
   have hle:m*sz≤n*sz:=Nat.mul_le_mul_right _ hm
   refine ⟨by rw [List.length_take,h.1,Nat.min_eq_left hle],?_⟩
   rcases h.2 with ⟨hv,hn⟩|⟨g,cap,cur,hv,h1,h2,h3,h4,h5,h6⟩
   ·injection hv with a1 a2 a3
    exact .inl ⟨by rw [a1,a3,show m=0 by omega],by omega⟩
   ·injection hv with a1 a2 a3
    refine .inr ⟨g,cap,cur,by rw [a1,a3],h1,h2,by omega,h4,h5,?_⟩
    rw [← h6,List.take_take,Nat.min_eq_left hle]
  ·exact hM.ok r (.tail _ hr)
 ·rcases List.mem_cons.1 hr with rfl|hr
  ·exact hM.own (.row A n c e sz cs) (.head _) k hk
  ·exact hM.own r (.tail _ hr) k hk
end
section
variable {P:Program} {C:bO} {o:Oper} {f:Fr} {w:World} {K:Value→World→Prop} {t e:TypeId} {x y:Operand} {F:List Nat} {W:World} {l l':List bX} {n c sz i:Nat} {a:Addr}
theorem wo {T:Type} {enc:T→List Value} (h:∀ x,(enc x).length=sz):∀ (L:List T) (i:Nat),(L.flatMap enc).take (i*sz)=(L.take i).flatMap enc
 | [],i=>by simp
 | x::L,0=>by simp
 | x::L,i+1=>by
  rw [List.take_succ_cons,List.flatMap_cons,List.flatMap_cons,Nat.succ_mul,Nat.add_comm,tA (h x),wo h L i]
theorem wt {T:Type} {enc:T→List Value} (h:∀ x,(enc x).length=sz):∀ (L:List T) (i:Nat),(L.flatMap enc).drop (i*sz)=(L.drop i).flatMap enc
 | [],i=>by simp
 | x::L,0=>by simp
 | x::L,i+1=>by
  rw [List.drop_succ_cons,List.flatMap_cons,Nat.succ_mul,Nat.add_comm,dA (h x),wt h L i]
theorem Jh {T:Type} [Inhabited T] {enc:T→List Value} {L:List T} {z:T} (hop:o.op=.store t x y) (hx:ev f x=ptr (some a) i sz 0) (hy:ev f y=.agg (enc z).toArray) [hS:dP P t sz] [E:cA enc sz] (hM:Own F W w l)
  (hu:oM l (.row (some a) n c e sz (L.flatMap enc)) (.row (some a) n c e sz ((L.set i z).flatMap enc)) l') (hm:i<L.length) (hk:∀ w',Own F W w' l'→K undef w'):WO P C o f w K:=by
 have hrow:w.ownsRow 0 e sz (.slice (some a) n c) n (L.flatMap enc):=hM.ok _ hu.old
 have hl:n*sz=L.length*sz:=by rw [← hrow.1,ef E.len]
 have hn:n=L.length:=Nat.eq_of_mul_eq_mul_right E.pos hl
 obtain ⟨g,cur,hA,hg,hnc,hcm,hcs,hct⟩:=Lm hrow xj
 injection hA with hA
 subst hA
 have hlt:i*sz+sz≤n*sz:=by
  rw [hn,← Nat.succ_mul]
  exact Nat.mul_le_mul_right _ hm
 have hlc:n*sz≤c*sz:=Nat.mul_le_mul_right _ hnc
 obtain ⟨c2,b1,b2,b3,b4⟩:=mJ g e (enc z) (i*sz) w cur hg (by rw [E.len];omega)
 have hx':ev f x=.pointer (some ⟨g,i*sz,none⟩):=by rw [hx,eX,Addr.add_lit];simp
 refine C4 (w':=w.setCells g (i*sz) (enc z)) ?_ (hk _ (hM.cw hu b4 ⟨by rw [ef E.len,List.length_set,hn],.inr ⟨g,c,c2,rfl,Nat.zero_le _,b1,hnc,hcm,by rw [b2,hcs],?_⟩⟩ (.inl rfl)))
 ·have hst:=run_storeCells_cells (P:=P) g (i*sz) (enc z) 0 w
   (fun j hj=>by
    rw [E.len] at hj
    simp only [World.cell?,hg]
    rw [Array.getElem?_eq_getElem (by omega)];rfl)
   (fun j hj=>by simp [World.frozen?,hg]) (E.one z)
  have hs:=hS.h
  unfold ct at hs
  simp [execOp,hop,hx',hy,Instr.storeAt,Instr.sureAddr,storeVar,bI hS.h,Value.cells,E.len,hst]
 ·rw [b3,E.len]
  have hti:cur.toList.take (i*sz)=(L.take i).flatMap enc:=by
   rw [← wo E.len,← hct,List.take_take,Nat.min_eq_left (by omega)]
  have htd:(cur.toList.drop (i*sz+sz)).take (n*sz-(i*sz+sz))=(L.drop (i+1)).flatMap enc:=by
   rw [← wt E.len,← hct,Nat.succ_mul,List.drop_take]
  rw [hti,List.set_eq_take_append_cons_drop,if_pos hm,List.flatMap_append,List.flatMap_cons]
  have e1:((L.take i).flatMap enc).length=i*sz:=by rw [ef E.len,List.length_take,Nat.min_eq_left (by omega)]
  rw [show n*sz=i*sz+(sz+(n*sz-(i*sz+sz))) by omega,tA e1,tA (E.len z),htd]
end
end R
end
section
instance acP (a:Int):Decidable (ao a):=by unfold ao;infer_instance
def Sg.z (x:Sg):Int:=if x.neg then -(x.br.n:Int) else (x.br.n:Int)
theorem Sg.kF (x:Sg):x.z.natAbs<aq:=by
 unfold Sg.z
 have:=x.br.lt
 split <;> omega
theorem Sg.abs (x:Sg):x.z.natAbs=x.br.n:=by
 unfold Sg.z
 split <;> omega
def a8 (z:Int):Sg:=⟨decide (z<0),W z.natAbs⟩
theorem lX {z:Int} (h:z.natAbs<aq):(a8 z).z=z:=by
 unfold a8 Sg.z
 rw [oP h]
 by_cases hz:z<0
 ·rw [if_pos (decide_eq_true hz)];omega
 ·rw [if_neg (by simpa using hz)];omega
theorem Yw {a b:Int} (ha:a.natAbs<aq) (hb:b.natAbs<aq):a8 a=a8 b↔a=b :=
 ⟨fun h=>by rw [← lX ha,h,lX hb],fun h=>by rw [h]⟩
theorem d8 {z:Int} (h:z.natAbs<aq):(a8 z).br.n=z.natAbs:=oP h
theorem DP {a:Sg} (h:a.br.n=0):a8 a.z=⟨false,W 0⟩:=by
 have:a.z=0:=by have:=a.abs;omega
 rw [this];rfl
theorem DQ {a:Sg} (h:a.br.n≠0):a8 a.z=a:=by
 refine Sg.ext_iff.2 ⟨?_,Wd.lq ?_⟩
 ·unfold a8 Sg.z
  cases hn:a.neg
  ·simp
  ·simp;omega
 ·rw [d8 a.kF,a.abs]
theorem kQ (a:Sg):(a8 a.z).neg=decide (a.z<0):=rfl
theorem OH (a:Sg):(a8 a.z).z=a.z:=lX a.kF
theorem jD (a:Sg):(a8 a.z).br=a.br:=Wd.lq (by rw [d8 a.kF,a.abs])
def b7 (z:Int):Sg:=if z.natAbs<aq then a8 z else a8 0
theorem oB {z:Int} (h:z.natAbs<aq):b7 z=a8 z:=if_pos h
theorem TU {z:Int} (h:¬ z.natAbs<aq):b7 z=a8 0:=if_neg h
def aR (a b:Int):Int:=if a<b then -1 else if a=b then 0 else 1
theorem vU (m n:Nat):mL m n=aR m n:=by
 unfold aR mL
 rcases Nat.lt_trichotomy m n with h|h|h
 ·rw [if_pos h,if_pos (by omega)]
 ·subst h
  rw [if_neg xj,if_neg xj,if_neg xj,if_pos rfl]
 ·rw [if_neg xj,if_pos h,if_neg xj,if_neg (by omega)]
theorem DR {x y:Nat}:mL x y<0↔x<y:=by
 unfold mL
 by_cases h:x<y
 ·rw [if_pos h];exact ⟨fun _=>h,fun _=>by decide⟩
 ·rw [if_neg h]
  refine ⟨fun h2=>?_,fun h2=>absurd h2 h⟩
  split at h2 <;> omega
theorem kR {a b:Int} (h:a<b):aR a b=-1:=if_pos h
theorem kS {a b:Int} (h:b<a):aR a b=1:=by unfold aR;rw [if_neg xj,if_neg (by omega)]
theorem fm (a:Int):aR a a=0:=by unfold aR;rw [if_neg xj,if_pos rfl]
theorem OI (a b:Int):aR (-a) (-b)=aR b a:=by
 unfold aR
 by_cases h:b<a
 ·rw [if_pos xj,if_pos h]
 ·by_cases h2:b=a
  ·rw [if_neg xj,if_pos xj,if_neg h,if_pos h2]
  ·rw [if_neg xj,if_neg xj,if_neg h,if_neg h2]
theorem TV {a b:Sg} (ha:a.z<0) (hb:b.z<0):mL (a8 b.z).br.n (a8 a.z).br.n=aR a.z b.z:=by
 rw [d8 a.kF,d8 b.kF,vU,← OI]
 congr 1 <;> omega
theorem TW {a b:Sg} (ha:¬ a.z<0) (hb:¬ b.z<0):mL (a8 a.z).br.n (a8 b.z).br.n=aR a.z b.z:=by
 rw [d8 a.kF,d8 b.kF,vU]
 congr 1 <;> omega
theorem OJ {a:Sg} (h:a.br=W (wd a.br.n 0)):a.br.n=wd a.br.n 0:=by
 have h1:wd a.br.n 0<18446744073709551616:=gb _ _
 have h2:=congrArg Wd.n h
 rwa [oP (fV h1)] at h2
theorem OK {a:Sg} (h:a.br≠W (wd a.br.n 0)):18446744073709551616≤a.br.n:=by
 rcases Nat.lt_or_ge a.br.n 18446744073709551616 with h1|h1
 ·refine absurd (Wd.lq ?_) h
  have:wd a.br.n 0=a.br.n:=by unfold wd;simp;omega
  rw [this,oP a.br.lt]
 ·exact h1
theorem OL {a:Sg} (h:a.neg=true):a.z=-(a.br.n:Int):=by unfold Sg.z;rw [if_pos h]
theorem OM {a:Sg} (h:a.neg=false):a.z=(a.br.n:Int):=by unfold Sg.z;rw [h];rfl
theorem DS {k:Nat} (h:k≤9223372036854775808):IntKind.i64.wrap (aw (-(k:Int)))=-(k:Int):=by
 rw [IntKind.wrap_i64]
 unfold aw
 omega
theorem GV {a:Sg} (h:¬ ao a.z):Ending.returned (Value.tuple #[.int .i64 0,.bool false])=Ending.returned (Value.tuple #[.int .i64 (if ao a.z then a.z else 0),.bool (decide (ao a.z))]):=by
 rw [if_neg h,decide_eq_false h]
theorem AW {a:Sg} {v:Int} (h:ao a.z) (hv:v=a.z):Ending.returned (Value.tuple #[.int .i64 v,.bool true])=Ending.returned (Value.tuple #[.int .i64 (if ao a.z then a.z else 0),.bool (decide (ao a.z))]):=by
 rw [if_pos h,decide_eq_true h,hv]
theorem OO {a:Sg} (h:9223372036854775808<a.br.n):¬ ao a.z:=by
 have:=a.abs
 unfold ao
 omega
theorem Yx (a:Sg):(⟨!a.neg,a.br⟩:Sg).z=-a.z:=by
 unfold Sg.z
 cases a.neg <;> simp
def vV (neg:Bool) (m:Wd) (fits:Bool):Sg:=if fits then a8 (⟨neg,m⟩:Sg).z else a8 0
theorem AX {neg fits:Bool} {m:Nat} {z:Int} (h:fits=true↔z.natAbs<aq) (hm:z.natAbs<aq→(⟨neg,W m⟩:Sg).z=z):vV neg (W m) fits=b7 z∧fits=decide (z.natAbs<aq):=by
 unfold vV b7
 by_cases hz:z.natAbs<aq
 ·rw [if_pos (h.2 hz),if_pos hz,hm hz,h.2 hz,decide_eq_true hz];exact ⟨rfl,rfl⟩
 ·have:fits=false:=by
   cases hf:fits
   ·rfl
   ·exact absurd (h.1 hf) hz
  rw [this,if_neg hz,decide_eq_false hz];exact ⟨rfl,rfl⟩
theorem TX {neg:Bool} {m:Nat} (h:m<aq):(⟨neg,W m⟩:Sg).z=if neg then -(m:Int) else (m:Int):=by
 unfold Sg.z
 rw [oP h]
theorem add_same {a b:Sg} (h:(a8 a.z).neg=(a8 b.z).neg) :
  vV (a8 a.z).neg (W ((a8 a.z).br.n+(a8 b.z).br.n)) (decide ((a8 a.z).br.n+(a8 b.z).br.n<aq))=b7 (a.z+b.z)∧decide ((a8 a.z).br.n+(a8 b.z).br.n<aq)=decide ((a.z+b.z).natAbs<aq):=by
 rw [d8 a.kF,d8 b.kF,kQ]
 rw [kQ,kQ] at h
 have h1:a.z<0↔b.z<0:=by simpa using h
 have h2:(a.z+b.z).natAbs=a.z.natAbs+b.z.natAbs:=by omega
 refine AX (by rw [decide_eq_true_iff,h2]) fun hz=>?_
 rw [TX (by omega)]
 by_cases hn:a.z<0
 ·rw [if_pos (decide_eq_true hn)];omega
 ·rw [if_neg (by simpa using hn)];omega
theorem DT {a b:Sg} (h:(a8 a.z).neg≠(a8 b.z).neg) (hle:(a8 b.z).br.n≤(a8 a.z).br.n) :
  vV (a8 a.z).neg (kG (a8 a.z).br (a8 b.z).br) (decide ((a8 b.z).br.n≤(a8 a.z).br.n))=b7 (a.z+b.z)∧decide ((a8 b.z).br.n≤(a8 a.z).br.n)=decide ((a.z+b.z).natAbs<aq):=by
 have h0:=a.kF
 have e1:kG (a8 a.z).br (a8 b.z).br=W (a.z.natAbs-b.z.natAbs):=Wd.lq (by
  show Cc _ _=_
  rw [oh (Wd.lt _) hle,d8 a.kF,d8 b.kF,oP (by omega)])
 rw [e1]
 rw [d8 a.kF,d8 b.kF] at hle ⊢
 rw [kQ]
 rw [kQ,kQ] at h
 have h1:¬ (a.z<0↔b.z<0):=by simpa using h
 refine AX (by rw [decide_eq_true_iff];omega) fun hz=>?_
 rw [TX (by omega)]
 by_cases hn:a.z<0
 ·rw [if_pos (decide_eq_true hn)];omega
 ·rw [if_neg (by simpa using hn)];omega
theorem OP {a b:Sg}:vV (!(a.neg == b.neg)) (W (a.br.n*b.br.n)) (decide (a.br.n*b.br.n<aq))=b7 (a.z*b.z)∧decide (a.br.n*b.br.n<aq)=decide ((a.z*b.z).natAbs<aq):=by
 have h2:(a.z*b.z).natAbs=a.br.n*b.br.n:=by rw [Int.natAbs_mul,a.abs,b.abs]
 refine AX (by rw [decide_eq_true_iff,h2]) fun hz=>?_
 rw [TX (by omega)]
 unfold Sg.z
 cases a.neg <;> cases b.neg <;> simp [Int.neg_mul,Int.mul_neg]
theorem ad5 {n:Int} (h:ao n):(⟨decide (n<0),W (Int.toNat (n.natAbs:Int))⟩:Sg).z=n:=by
 rw [Int.toNat_natCast,TX (fV (by unfold ao at h;omega))]
 by_cases hn:n<0
 ·rw [if_pos (decide_eq_true hn)];omega
 ·rw [if_neg (by simpa using hn)];omega
section
variable {a b:Sg}
end
theorem R.ub {P:Program} {n:Nat} {Q:Exit→R.Fr→World→Prop} {f:R.Fr} {w:World} {c:Code} {ι:Type} (L:ι→List (Nat×Value)) (J:ι→World→Prop)
  (h1:WC P n (fun e f' w'=>e=.normal∧∃ i,rJ f' (L i)∧J i w') c f w) (h2:∀ i f w,J i w→Q .normal (R.over (L i) f) w):WC P n Q c f w:=by
 unfold WC at h1 ⊢
 intro a ha
 refine wp_mono (h1 a ha) fun e a' w' he=>?_
 obtain ⟨f',ha',rfl,i,hag,hJ⟩:=he
 refine ⟨f',ha',?_⟩
 rw [← iQ hag]
 exact h2 i f' w' hJ
end
section
instance acQ (a:Int):Dt Tryz.prog 283 #[.int .i64 a] Unit (fun _ _=>ao a) (fun _=>.tuple #[.bool (decide (a<0)),.int .u64 (a.natAbs:Nat)]):=⟨fun _ w h=>by
 have h1:=U7 a h w
 have h2:(if a<0 then -a else a)=((a.natAbs:Nat):Int):=by split <;> omega
 rw [h2] at h1
 exact h1⟩
theorem ad6 (a:Sg) (w:World):Calls Tryz.prog 181 #[.agg (cS a).toArray] w fun e w'=>e=.returned (.agg (cS (a8 a.z)).toArray)∧Below w.heap.size w w':=by
 have hM:=R.Own.start [] w
 by_cases h:a.br.n=0
 ·rw [DP h]
  refine aa (fn:=Tryz.f181) Tryz.func181 rfl Tryz.ntmps181 (Nat.le_of_ble_eq_true rfl) ?_
  (refine ad ?_;(repeat' first|refine And.intro ?_ ?_|intro _);all_goals refine ah.mk ?_;(all_goals (try (exact ⟨rfl,R.Own.below ww⟩))))
 ·rw [DQ h]
  refine aa (fn:=Tryz.f181) Tryz.func181 rfl Tryz.ntmps181 (Nat.le_of_ble_eq_true rfl) ?_
  (refine ad ?_;(repeat' first|refine And.intro ?_ ?_|intro _);all_goals refine ah.mk ?_;(all_goals (try (exact ⟨rfl,R.Own.below ww⟩))))
instance OQ (a:Sg):bj Tryz.prog 181 #[.agg (cS a).toArray] Unit (fun _ _=>True) (fun _=>.agg (cS (a8 a.z)).toArray):=⟨fun _ w _=>ad6 a w⟩
theorem sof (n:Int) (h:ao n) (w:World):Calls Tryz.prog 224 #[.int .i64 n] w fun e w'=>e=.returned (.agg (cS (a8 n)).toArray)∧Below w.heap.size w w':=by
 have hM:=R.Own.start [] w
 have h1:=ad5 h
 have h2:ai (n.natAbs:Nat):=by unfold ao at h;unfold ai;omega
 refine aa (fn:=Tryz.f224) Tryz.func224 rfl Tryz.ntmps224 (Nat.le_of_ble_eq_true rfl) ?_
 (refine ad ?_;(repeat' first|refine And.intro ?_ ?_|intro _);all_goals refine ah.mk ?_;(all_goals (try (exact ⟨rfl,R.Own.below ww⟩))))
 rw [h1]
 exact ⟨rfl,R.Own.below ww⟩
instance TY (n:Int):bj Tryz.prog 224 #[.int .i64 n] Unit (fun _ _=>ao n) (fun _=>.agg (cS (a8 n)).toArray):=⟨fun _ w h=>sof n h w⟩
theorem aa5 (a:Sg) (w:World):Calls Tryz.prog 480 #[.agg (cS a).toArray] w fun e w'=>e=.returned (.agg (cS (a8 (-a.z))).toArray)∧Below w.heap.size w w':=by
 have hM:=R.Own.start [] w
 have h1:=Yx a
 refine aa (fn:=Tryz.f480) Tryz.func480 rfl Tryz.ntmps480 (Nat.le_of_ble_eq_true rfl) ?_
 (refine ad ?_;(repeat' first|refine And.intro ?_ ?_|intro _);all_goals refine ah.mk ?_;(all_goals (try (exact ⟨rfl,R.Own.below ww⟩))))
 rw [h1]
 exact ⟨rfl,R.Own.below ww⟩
instance Li (a:Sg):bj Tryz.prog 480 #[.agg (cS a).toArray] Unit (fun _ _=>True) (fun _=>.agg (cS (a8 (-a.z))).toArray):=⟨fun _ w _=>aa5 a w⟩
theorem aa6 (neg:Bool) (m:Wd) (fits:Bool) (w:World):Calls Tryz.prog 247 #[.bool neg,.agg (cW m).toArray,.bool fits] w fun e w'=>e=.returned (.tuple #[.agg (cS (vV neg m fits)).toArray,.bool fits])∧Below w.heap.size w w':=by
 have hM:=R.Own.start [] w
 cases fits
 ·refine aa (fn:=Tryz.f247) Tryz.func247 rfl Tryz.ntmps247 (Nat.le_of_ble_eq_true rfl) ?_
  (refine ad ?_;(repeat' first|refine And.intro ?_ ?_|intro _);all_goals refine ah.mk ?_;(all_goals (try (exact ⟨rfl,R.Own.below ww⟩))))
 ·refine aa (fn:=Tryz.f247) Tryz.func247 rfl Tryz.ntmps247 (Nat.le_of_ble_eq_true rfl) ?_
  (refine ad ?_;(repeat' first|refine And.intro ?_ ?_|intro _);all_goals refine ah.mk ?_;(all_goals (try (exact ⟨rfl,R.Own.below ww⟩))))
instance ZO (neg:Bool) (m:Wd) (fits:Bool):bj Tryz.prog 247 #[.bool neg,.agg (cW m).toArray,.bool fits] Unit (fun _ _=>True) (fun _=>.tuple #[.agg (cS (vV neg m fits)).toArray,.bool fits]):=⟨fun _ w _=>aa6 neg m fits w⟩
attribute [local irreducible] aq in
set_option maxHeartbeats 1000000 in
theorem ad7 (a b:Sg) (w:World):Calls Tryz.prog 225 #[.agg (cS a).toArray,.agg (cS b).toArray] w fun e w'=>e=.returned (.tuple #[.agg (cS (b7 (a.z+b.z))).toArray,.bool (decide ((a.z+b.z).natAbs<aq))])∧Below w.heap.size w w':=by
 have hM:=R.Own.start [] w
 by_cases h:(a8 a.z).neg=(a8 b.z).neg
 ·obtain ⟨e1,e2⟩:=add_same h
  refine aa (fn:=Tryz.f225) Tryz.func225 rfl Tryz.ntmps225 (Nat.le_of_ble_eq_true rfl) ?_
  (refine ad ?_;(repeat' first|refine And.intro ?_ ?_|intro _);all_goals refine ah.mk ?_)
  (refine kj 2 [(0,false),(2,false),(1,true),(3,true),(4,true),(5,true)] R.mixed wx aj ?_;simp only [List.take_succ_cons,List.take_zero])
  (refine ad ?_;(repeat' first|refine And.intro ?_ ?_|intro _);all_goals refine ah.mk ?_;(all_goals (try (exact ⟨rfl,R.Own.below ww⟩))))
  all_goals (rw [e1,e2];exact ⟨rfl,R.Own.below ww⟩)
 ·by_cases hlt:(a8 a.z).br.n<(a8 b.z).br.n
  ·have hc:mL (a8 a.z).br.n (a8 b.z).br.n<0:=DR.2 hlt
   obtain ⟨e1,e2⟩:=DT (fun e=>h e.symm) (Nat.le_of_lt hlt)
   rw [Int.add_comm] at e1 e2
   refine aa (fn:=Tryz.f225) Tryz.func225 rfl Tryz.ntmps225 (Nat.le_of_ble_eq_true rfl) ?_
   (refine ad ?_;(repeat' first|refine And.intro ?_ ?_|intro _);all_goals refine ah.mk ?_)
   (refine kj 2 [(0,false),(2,false),(1,true),(3,true),(4,true),(5,true)] R.mixed wx aj ?_;simp only [List.take_succ_cons,List.take_zero])
   (refine ad ?_;(repeat' first|refine And.intro ?_ ?_|intro _);all_goals refine ah.mk ?_;(all_goals (try (exact ⟨rfl,R.Own.below ww⟩))))
   all_goals (rw [e1,e2];exact ⟨rfl,R.Own.below ww⟩)
  ·have hc:¬ mL (a8 a.z).br.n (a8 b.z).br.n<0:=fun h=>hlt (DR.1 h)
   obtain ⟨e1,e2⟩:=DT h xj
   refine aa (fn:=Tryz.f225) Tryz.func225 rfl Tryz.ntmps225 (Nat.le_of_ble_eq_true rfl) ?_
   (refine ad ?_;(repeat' first|refine And.intro ?_ ?_|intro _);all_goals refine ah.mk ?_)
   (refine kj 2 [(0,false),(2,false),(1,true),(3,true),(4,true),(5,true)] R.mixed wx aj ?_;simp only [List.take_succ_cons,List.take_zero])
   (refine ad ?_;(repeat' first|refine And.intro ?_ ?_|intro _);all_goals refine ah.mk ?_;(all_goals (try (exact ⟨rfl,R.Own.below ww⟩))))
   all_goals (rw [e1,e2];exact ⟨rfl,R.Own.below ww⟩)
instance OS (a b:Sg):bj Tryz.prog 225 #[.agg (cS a).toArray,.agg (cS b).toArray] Unit (fun _ _=>True) (fun _=>.tuple #[.agg (cS (b7 (a.z+b.z))).toArray,.bool (decide ((a.z+b.z).natAbs<aq))]):=⟨fun _ w _=>ad7 a b w⟩
end
section
attribute [local irreducible] aq in
theorem ad8 (a b:Sg) (w:World):Calls Tryz.prog 561 #[.agg (cS a).toArray,.agg (cS b).toArray] w fun e w'=>e=.returned (.tuple #[.agg (cS (b7 (a.z-b.z))).toArray,.bool (decide ((a.z-b.z).natAbs<aq))])∧Below w.heap.size w w':=by
 have hM:=R.Own.start [] w
 have e1:a.z+(a8 (-b.z)).z=a.z-b.z:=by rw [lX (by have:=b.kF;omega)];omega
 refine aa (fn:=Tryz.f561) Tryz.func561 rfl Tryz.ntmps561 (Nat.le_of_ble_eq_true rfl) ?_
 (refine ad ?_;(repeat' first|refine And.intro ?_ ?_|intro _);all_goals refine ah.mk ?_)
 refine bB [(0,false),(1,false),(2,true),(3,true),(4,false),(5,false),(6,true),(7,false)] R.mixed wx aj ?_
 (refine ad ?_;(repeat' first|refine And.intro ?_ ?_|intro _);all_goals refine ah.mk ?_;(all_goals (try (exact ⟨rfl,R.Own.below ww⟩))))
 rw [e1]
 exact ⟨rfl,R.Own.below ww⟩
instance OT (a b:Sg):bj Tryz.prog 561 #[.agg (cS a).toArray,.agg (cS b).toArray] Unit (fun _ _=>True) (fun _=>.tuple #[.agg (cS (b7 (a.z-b.z))).toArray,.bool (decide ((a.z-b.z).natAbs<aq))]):=⟨fun _ w _=>ad8 a b w⟩
attribute [local irreducible] aq in
theorem smul (a b:Sg) (w:World):Calls Tryz.prog 185 #[.agg (cS a).toArray,.agg (cS b).toArray] w fun e w'=>e=.returned (.tuple #[.agg (cS (b7 (a.z*b.z))).toArray,.bool (decide ((a.z*b.z).natAbs<aq))])∧Below w.heap.size w w':=by
 have hM:=R.Own.start [] w
 obtain ⟨e1,e2⟩:=@OP a b
 refine aa (fn:=Tryz.f185) Tryz.func185 rfl Tryz.ntmps185 (Nat.le_of_ble_eq_true rfl) ?_
 (refine ad ?_;(repeat' first|refine And.intro ?_ ?_|intro _);all_goals refine ah.mk ?_;(all_goals (try (exact ⟨rfl,R.Own.below ww⟩))))
 rw [e1,e2]
 exact ⟨rfl,R.Own.below ww⟩
instance OU (a b:Sg):bj Tryz.prog 185 #[.agg (cS a).toArray,.agg (cS b).toArray] Unit (fun _ _=>True) (fun _=>.tuple #[.agg (cS (b7 (a.z*b.z))).toArray,.bool (decide ((a.z*b.z).natAbs<aq))]):=⟨fun _ w _=>smul a b w⟩
attribute [local irreducible] aq in
theorem ad9 (a b:Sg) (w:World):Calls Tryz.prog 123 #[.agg (cS a).toArray,.agg (cS b).toArray] w fun e w'=>e=.returned (.int .i64 (aR a.z b.z))∧Below w.heap.size w w':=by
 have hM:=R.Own.start [] w
 refine aa (fn:=Tryz.f123) Tryz.func123 rfl Tryz.ntmps123 (Nat.le_of_ble_eq_true rfl) ?_
 (refine ad ?_;(repeat' first|refine And.intro ?_ ?_|intro _);all_goals refine ah.mk ?_)
 (refine kj 1 [(0,false),(2,false),(1,true),(3,true),(4,true),(5,true)] R.mixed wx aj ?_;simp only [List.take_succ_cons,List.take_zero])
 (refine ad ?_;(repeat' first|refine And.intro ?_ ?_|intro _);all_goals refine ah.mk ?_;(all_goals (try (exact ⟨rfl,R.Own.below ww⟩))))
 ·rw [TV ww (by assumption)]
  exact ⟨rfl,R.Own.below ww⟩
 ·rw [kR (by omega)]
  exact ⟨rfl,R.Own.below ww⟩
 ·rw [kS (by omega)]
  exact ⟨rfl,R.Own.below ww⟩
 ·rw [TW ww (by assumption)]
  exact ⟨rfl,R.Own.below ww⟩
instance OV (a b:Sg):bj Tryz.prog 123 #[.agg (cS a).toArray,.agg (cS b).toArray] Unit (fun _ _=>True) (fun _=>.int .i64 (aR a.z b.z)):=⟨fun _ w _=>ad9 a b w⟩
attribute [local irreducible] aq in
theorem Yy (a:Sg) (w:World):Calls Tryz.prog 479 #[.agg (cS a).toArray] w fun e w'=>e=.returned (.tuple #[.int .i64 (if ao a.z then a.z else 0),.bool (decide (ao a.z))])∧Below w.heap.size w w':=by
 have hM:=R.Own.start [] w
 have hw:=gb a.br.n 0
 refine aa (fn:=Tryz.f479) Tryz.func479 rfl Tryz.ntmps479 (Nat.le_of_ble_eq_true rfl) ?_
 (refine ad ?_;(repeat' first|refine And.intro ?_ ?_|intro _);all_goals refine ah.mk ?_)
 refine bB [(0,false),(1,false),(2,false),(3,true),(4,false),(5,false)] R.mixed wx aj ?_
 (refine ad ?_;(repeat' first|refine And.intro ?_ ?_|intro _);all_goals refine ah.mk ?_;(all_goals (try (exact ⟨rfl,R.Own.below ww⟩))))
 all_goals refine ⟨?_,R.Own.below ww⟩
 ·rename_i h
  have:=OK h
  exact GV (OO xj)
 all_goals have hs:=OJ (a:=a) (Decidable.not_not.1 ww)
 ·exact GV (OO xj)
 ·rename_i h
  have hz:=OM (a:=a) (by simpa using h)
  exact GV (by unfold ao;omega)
 ·rename_i h
  have hz:=OL h
  exact AW (by unfold ao;omega) (by rw [DS (by omega)];omega)
 ·rename_i h1 h
  rw [h] at h1
  cases h1
 ·rename_i h
  have hz:=OL h
  exact AW (by unfold ao;omega) (by rw [DS (by omega)];omega)
 ·rename_i h
  have hz:=OM h
  exact AW (by unfold ao;omega) xj
def GW (z:Int):Int:=if -9223372036854775808≤z∧z≤9223372036854775807 then z else 0
instance pB (a:Sg):bj Tryz.prog 479 #[.agg (cS a).toArray] Unit (fun _ _=>True) (fun _=>.tuple #[.int .i64 (GW a.z),.bool (decide (-9223372036854775808≤a.z∧a.z≤9223372036854775807))]):=⟨fun _ w _=>by
 have h:=Yy a w
 have h1:ao a.z↔(-9223372036854775808≤a.z∧a.z≤9223372036854775807):=by unfold ao;rfl
 have h2:decide (ao a.z)=decide (-9223372036854775808≤a.z∧a.z≤9223372036854775807):=decide_eq_decide.2 h1
 have h3:(if ao a.z then a.z else 0)=GW a.z:=by
  unfold GW
  by_cases h4:ao a.z
  ·rw [if_pos h4,if_pos (h1.1 h4)]
  ·rw [if_neg h4,if_neg (fun h=>h4 (h1.2 h))]
 rw [h2,h3] at h
 exact h⟩
end
section
end
section
section
variable {F:List Nat} {w:World} {A:Option Addr} {n:Nat} {L:List Int}
end
end
section
end
section
end
section
end
end Go.Proofs.YtlmabdegojeheaaGreatDoor
