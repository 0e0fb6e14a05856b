/- WholeTurned: parts of its proof (Rj Up Zl Uq Uu). -/
import Derived.Test.YtlmabdegojeheaaGreatDoorRhUm
import Derived.Maps.Range
import Derived.Test.YtlmabdegojeheaaGreatDoorUlUo
import Derived.Test.YtlmabdegojeheaaGreatDoorPtjPtl
import Derived.Test.YtlmabdegojeheaaGreatDoorUdRg
import Derived.Test.YtlmabdegojeheaaGreatDoorZbZh
import Derived.Test.YtlmabdegojeheaaGreatDoorZiSk
import Derived.Test.YtlmabdegojeheaaGreatDoorUgUk
namespace Go.Proofs.YtlmabdegojeheaaGreatDoor
open R Go.RowKit
namespace R
open Go.ChangeMaps (setBlock)
theorem se (p:MapEntry→Bool) {e:MapEntry}:∀ {l:List MapEntry},(l.map (·.born)).Nodup→e∈l→p e=false→(l.filter fun x=>p x||x.born == e.born).Perm (l.filter p++[e])
 | x::l,hn,he,hp=>by
  rw [List.map_cons,List.nodup_cons] at hn
  rcases List.mem_cons.1 he with rfl|he
  ·have h1:(l.filter fun x=>p x||x.born == e.born)=l.filter p:=List.filter_congr fun y hy=>by
    have:(y.born == e.born)=false:=beq_eq_false_iff_ne.2 fun h=>hn.1 (h▸List.mem_map_of_mem hy)
    rw [this,Bool.or_false]
   rw [List.filter_cons,List.filter_cons,hp,h1]
   simpa using (List.perm_append_comm (l₁:=[e]) (l₂:=l.filter p))
  ·have hne:(x.born == e.born)=false:=beq_eq_false_iff_ne.2 fun h=>hn.1 (h▸List.mem_map_of_mem he)
   have ih:=se p hn.2 he hp
   rw [List.filter_cons,List.filter_cons,hne,Bool.or_false]
   split
   ·exact ih.cons x
   ·exact ih
theorem DB (p:MapEntry→Bool) {e:MapEntry} {l:List MapEntry} (he:e∈l) (hp:p e=false):(l.filter p).length<l.length :=
 List.length_filter_lt_length_iff_exists.2 ⟨e,he,by rw [hp];exact Bool.false_ne_true⟩
def Ow (M E Y:TypeId):Code :=
 (Code.region 0 #[{ dst:=some 4,op:=.load M (.tmp 1),type:=M,pos:= "iter.go:27",after:=#[],guard:=none },{ dst:=some 5,op:=.range M (.tmp 4),type:=0,pos:= "iter.go:27",after:=#[{ on:=0,ground:=.data }],guard:=none }] false).seq
  (.block 0 ((Code.region 1 #[{ dst:=some 6,op:=.next (.tmp 5) false,type:=0,pos:= "iter.go:27",after:=#[],guard:=none },{ dst:=some 7,op:=.extract (.tmp 6) 0,type:=4,pos:= "iter.go:27",after:=#[{ on:=0,ground:=.data }],guard:=none }] false).seq
   ((Code.cond (.tmp 7) .skip (.exit 0)).seq
    (Code.block 1 ((Code.region 2 #[{ dst:=some 8,op:=.entry (.tmp 5),type:=0,pos:= "iter.go:27",after:=#[],guard:=none },{ dst:=some 9,op:=.extract (.tmp 8) 0,type:=E,pos:= "iter.go:27",after:=#[{ on:=0,ground:=.data }],guard:=none },{ dst:=some 3,op:=.alloc E,type:=0,pos:= "iter.go:27",after:=#[],guard:=none },{ dst:=none,op:=.store E (.tmp 3) (.tmp 9),type:=0,pos:= "iter.go:27",after:=#[{ on:=2,ground:=.data },{ on:=1,ground:=.data },{ on:=0,ground:=.phase },{ on:=1,ground:=.phase },{ on:=2,ground:=.phase }],guard:=none }] false).seq
     ((Code.region 3 #[{ dst:=some 10,op:=.move (.tmp 0),type:=Y,pos:= "iter.go:28",after:=#[],guard:=none },{ dst:=some 11,op:=.load E (.tmp 3),type:=E,pos:= "iter.go:28",after:=#[],guard:=none },{ dst:=some 12,op:=.call { callee:=.value (.tmp 10),args:=#[.tmp 11],argTypes:=#[E] },type:=4,pos:= "iter.go:28",after:=#[{ on:=0,ground:=.data },{ on:=1,ground:=.data }],guard:=none },{ dst:=some 13,op:=.unOp .not 4 (.tmp 12),type:=4,pos:= "iter.go:28",after:=#[{ on:=2,ground:=.data }],guard:=none }] false).seq
      (Code.cond (.tmp 13) .ret .skip)))))).loop)
section
variable {P:Program} {C:bO} {o:Oper} {f:Fr} {w w':World} {K:Value→World→Prop} {v:Value}
theorem sf (h:(execOp (ev f) o).run P w=.ok (.value v) w') (hk:K v w'):WO P C o f w K:=by
 unfold WO
 rw [h]
 exact hk
theorem DC {x:Operand} {t k e:TypeId} {b clock:Nat} {es:Array MapEntry} (hop:o.op=.range t x) (hx:ev f x=.map (some b)) (ht:P.underlying t=some (.map k e)) (hb:w.heap[b]?=some (.map es clock))
  (hk:K (.pointer (some ⟨w.heap.size,0,none⟩)) (w.alloc (.mapIter (some b) clock #[] clock))):WO P C o f w K:=by
 refine sf (v:=.pointer (some ⟨w.heap.size,0,none⟩)) (w':=w.alloc (.mapIter (some b) clock #[] clock)) ?_ hk
 simp [execOp,hop,hx,run_range_map w t k e b es clock ht hb,Result.andThen]
theorem Ld {x:Operand} {t k e:TypeId} (hop:o.op=.range t x) (hx:ev f x=.map none) (ht:P.underlying t=some (.map k e))
  (hk:K (.pointer (some ⟨w.heap.size,0,none⟩)) (w.alloc (.mapIter none 0 #[] 0))):WO P C o f w K:=by
 refine sf (v:=.pointer (some ⟨w.heap.size,0,none⟩)) (w':=w.alloc (.mapIter none 0 #[] 0)) ?_ hk
 simp [execOp,hop,hx,run_range_nilMap w t k e ht,Result.andThen]
theorem Ox {x:Operand} {r:Nat} (hop:o.op=.next x false) (hx:ev f x=.pointer (some ⟨r,0,none⟩)) (hr:w.heap[r]?=some (.mapIter none 0 #[] 0)) (hk:K (.tuple #[.bool false]) w):WO P C o f w K:=by
 refine sf (v:=.tuple #[.bool false]) ?_ hk
 have hgo:(getObj r).run P w=.ok (.mapIter none 0 #[] 0) w:=by simp [getObj,Sem.run,hr]
 simp only [execOp,hop,hx,Instr.next,Sem.run_bind,hgo,Result.andThen_ok,Sem.run_pure]
theorem I8 {x:Operand} {r b since c0 clock:Nat} {seen:Array Nat} {es:Array MapEntry} (hop:o.op=.next x false) (hx:ev f x=.pointer (some ⟨r,0,none⟩)) (hr:w.heap[r]?=some (.mapIter (some b) since seen c0)) (hb:w.heap[b]?=some (.map es clock)) (hold:∀ x∈es.toList,x.born<since) (hsc:since≤c0)
  (h0:(leftOf es seen).size=0→K (.tuple #[.bool false]) w) (h1:∀ e∈(leftOf es seen).toList,∀ w',w.grownBy w' (some r)→w'.heap.size=w.heap.size→w'.heap[r]?=some (.mapIter (some b) since (seen.push e.born) clock)→w'.heap[b]?=some (.map es clock)→K (.tuple #[.bool true,e.key,e.val]) w'):WO P C o f w K:=by
 rcases run_next_at (P:=P) w o.type r b since c0 seen es clock hr hb hold hsc with ⟨h,hrun⟩|⟨e,he,w1,hal,hrun⟩
 ·refine sf ?_ (h0 h)
  simp [execOp,hop,hx,hrun,Result.andThen]
 ·have hr1:w1.heap[r]?=some (.mapIter (some b) since seen c0):=by rcases hal with rfl|rfl <;> exact hr
  have hb1:w1.heap[b]?=some (.map es clock):=by rcases hal with rfl|rfl <;> exact hb
  have hset:=MapKept.heap_set (o':=.mapIter (some b) since (seen.push e.born) clock) hr1
  have hne:r≠b:=fun e=>by rw [e,hb] at hr;cases hr
  refine sf (v:=.tuple #[.bool true,e.key,e.val]) (w':=setBlock w1 r (.mapIter (some b) since (seen.push e.born) clock)) ?_ (h1 e he _ ?_ ?_ hset.1 ((hset.2 b (fun e1=>hne e1.symm)).trans hb1))
  ·simp [execOp,hop,hx,hrun,Result.andThen]
  ·rcases hal with rfl|rfl <;> exact ⟨rfl,rfl,rfl,by simp [setBlock],fun i _ hi=>hset.2 i (fun e1=>hi (by rw [e1]))⟩
  ·rcases hal with rfl|rfl <;> simp [setBlock]
theorem DD {x:Operand} {r b since clock:Nat} {seen:Array Nat} {es:Array MapEntry} {e:MapEntry} (hop:o.op=.entry x) (hx:ev f x=.pointer (some ⟨r,0,none⟩)) (hr:w.heap[r]?=some (.mapIter (some b) since (seen.push e.born) clock)) (hb:w.heap[b]?=some (.map es clock)) (he:e∈es.toList) (hn:(es.toList.map (·.born)).Nodup)
  (hk:K (.tuple #[e.key,e.val]) w):WO P C o f w K:=by
 refine sf (v:=.tuple #[e.key,e.val]) ?_ hk
 simp [execOp,hop,hx,run_entry_at w r b since seen es clock e hr hb he hn,Result.andThen]
end
section
variable {P:Program} {g:FuncId} {fn:Func} {M E Y kt et:TypeId} {T:Type} {enc:T→List Value} {sz:Nat} {zc:List Value} {w0:World} {b B clock:Nat} {es:Array MapEntry} {Kf:MapEntry→T}
set_option maxHeartbeats 2000000 in
theorem vP (hfn:P.funcs[g]?=some fn) (hb:fn.body=some (Ow M E Y)) (hn:fn.ntmps=14) (hr:fn.results=#[]) (ht:P.underlying M=some (.map kt et)) [bY P E (.agg zc.toArray)] [aG P E true] [dP P E sz] [aG P M false]
  (hlen:∀ x,(enc x).length=sz) (hone:∀ x,(enc x).all (·.oneCell')=true) (hzl:zc.length=sz)
  (hB:w0.cell? ⟨B,0,none⟩=some (.map (some b))) (hBl:B<w0.heap.size) (hm:w0.heap[b]?=some (.map es clock)) (hnd:(es.toList.map (·.born)).Nodup) (hborn:∀ x∈es.toList,x.born<clock)
  (hkey:∀ e∈es.toList,e.key=.agg (enc (Kf e)).toArray) (w1:World) (hw1:Below w0.heap.size w0 w1) :
  SeqStopsK Fence.wide 4 P g #[.pointer (some ⟨B,0,none⟩)] (fun x:T=>#[.agg (enc x).toArray]) (Oo w0.heap.size) (fun xs=>xs.Perm (es.toList.map Kf)) (fun _=>True) es.size w1:=by
 intro l J Jx W hW hJ hJx hY h0
 have hWb:Below w0.heap.size w0 W:=hw1.trans (hW.mono hw1.size)
 have hbl:b<w0.heap.size:=(Array.getElem?_eq_some_iff.1 hm).1
 refine callsIn_wide.2 ?_
 show Calls P g [.func (.yield l) #[] #[],.pointer (some ⟨B,0,none⟩)].toArray W _
 refine aa hfn hb hn (Nat.le_of_ble_eq_true rfl) ?_
 unfold Ow
 refine aU (dI 4 ?_)
 refine aJ (fun _=>trivial) rfl (fun c h=>by cases h) rfl ?_
 refine bu (a:=⟨B,0,none⟩) (v:=.map (some b)) rfl rfl ((hWb.cell (p:=⟨B,0,none⟩) hBl).trans hB) ?_
 refine aJ (fun _=>trivial) rfl (fun c h=>by cases h) rfl ?_
 refine DC rfl rfl ht ((hWb.block b hbl).trans hm) ?_
 refine dy (aI ?_)
 have hga:W.grownBy (W.alloc (.mapIter (some b) clock #[] clock)) none:=World.grownBy_alloc W _ none
 refine cU (au (ι:=List T×Array Nat) (fun _=>[(0,.func (.yield l) #[] #[]),(5,.pointer (some ⟨W.heap.size,0,none⟩))])
  (fun i wr=>J i.1 wr∧Below w0.heap.size w0 wr∧W.heap.size≤wr.heap.size∧i.1.Perm ((es.toList.filter fun x=>i.2.contains x.born).map Kf)∧∃ c0,clock≤c0∧wr.heap[W.heap.size]?=some (.mapIter (some b) clock i.2 c0)) (fun i=>(leftOf es i.2).size)
  ⟨([],#[]),⟨rfl,rfl,trivial⟩,hJ _ W _ none h0 hga (fun r e=>by cases e),hWb.trans ((Below.refl _ W).alloc hWb.size _),hga.size,by simp,clock,Nat.le_refl _,World.alloc_heap_new W _⟩ ?_)
 rintro ⟨xs,seen⟩ f wr ⟨hJk,hbk,hsz,hperm,c0,hc0,hit⟩
 refine aU (dI 4 ?_)
 refine aJ (fun _=>trivial) rfl (fun c h=>by cases h) rfl ?_
 refine I8 rfl rfl hit ((hbk.block b hbl).trans hm) hborn hc0 (fun hz=>?_) (fun e he w2 hg2 hs2 hr2 hb2=>?_)
 ·refine aJ (fun _=>trivial) rfl (fun c h=>by cases h) rfl ?_
  refine cz (v:=.bool false) rfl rfl rfl ?_
  refine dy (aI (aU (cM rfl (gH ?_))))
  have hall:=all_seen es seen hz
  have hfe:(es.toList.filter fun x=>seen.contains x.born)=es.toList:=List.filter_eq_self.2 hall
  dsimp only at hperm
  rw [hfe] at hperm
  exact fC (fC (gG rfl (xN ⟨_,fun tmps _=>results_none hr tmps P _,⟨_,rfl⟩,.inl ⟨_,hperm,hJk⟩⟩)))
 ·obtain ⟨hem,hes⟩:=mem_left he
  have hw0W:w0.heap.size≤W.heap.size:=hWb.size
  have hb2':Below w0.heap.size w0 w2:=hbk.grown hg2 hbk.size (fun k e=>by cases e;exact hw0W)
  have hJ2:J xs w2:=hJ _ wr w2 _ hJk hg2 (fun r e=>by cases e;exact ⟨Nat.le_refl _,_,hit,rfl⟩)
  refine aJ (fun _=>trivial) rfl (fun c h=>by cases h) rfl ?_
  refine cz (v:=.bool true) rfl rfl rfl ?_
  refine dy (aI (aU (dN rfl (d5 (aI (cU (aU (dI 4 ?_))))))))
  refine aJ (fun _=>trivial) rfl (fun c h=>by cases h) rfl ?_
  refine DD rfl rfl hr2 hb2 hem hnd ?_
  refine aJ (fun _=>trivial) rfl (fun c h=>by cases h) rfl ?_
  refine cz (v:=.agg (enc (Kf e)).toArray) rfl rfl (by rw [← hkey e hem];rfl) ?_
  refine aJ (fun _=>trivial) rfl (fun c h=>by cases h) rfl ?_
  refine dO (z:=.agg zc.toArray) rfl (Own.start [] w2) fun gx w3 hM3=>?_
  refine aJ (fun _=>trivial) rfl (fun c h=>by cases h) rfl ?_
  refine iu (g:=gx) (ds:=enc (Kf e)) rfl rfl rfl hM3 .head (hlen _) (by simpa [Value.cells] using hzl) (hone _) fun w4 hM4=>?_
  refine dy (aI ?_)
  refine aU (dI 4 ?_)
  refine aJ (fun _=>trivial) rfl (fun c h=>by cases h) rfl ?_
  refine aH (x:=.tmp 0) (v:=.func (.yield l) #[] #[]) rfl rfl ?_
  refine aJ (fun _=>trivial) rfl (fun c h=>by cases h) rfl ?_
  refine bP (m:=sz) (a:=⟨gx,0,none⟩) (cs:=enc (Kf e)) rfl rfl (hlen _) (hM4.rowAt (.head _)) ?_
  have NC:=hM4.below
  have hJ4:J xs w4:=hJ _ w2 w4 none hJ2 ⟨NC.os,NC.tape,NC.output,NC.size,fun j hj _=>NC.block j hj⟩ (fun r e=>by cases e)
  have hit4:w4.heap[W.heap.size]?=some (.mapIter (some b) clock (seen.push e.born) clock):=(NC.block _ (Array.getElem?_eq_some_iff.1 hr2).1).trans hr2
  have hlx:xs.length<es.size:=by
   have h1:=hperm.length_eq
   have h2:=DB (fun x=>seen.contains x.born) hem hes
   simp only [List.length_map] at h1
   simp only [Array.length_toList] at h2
   omega
  have hp2:(xs++[Kf e]).Perm ((es.toList.filter fun x=>(seen.push e.born).contains x.born).map Kf):=by
   have h1:=(se (fun x=>seen.contains x.born) hnd hem hes).map Kf
   have h2:(es.toList.filter fun x=>(seen.push e.born).contains x.born)=es.toList.filter fun x=>seen.contains x.born||x.born == e.born:=List.filter_congr fun x _=>contains_push _ _ _
   rw [h2]
   refine List.Perm.trans ?_ h1.symm
   rw [List.map_append]
   exact hperm.append_right _
  refine qH rfl (fun _=>trivial) rfl rfl vj rfl (hY _ (Kf e) w4 hJ4 hlx) ?_
  rintro e' w5 (⟨rfl,hJ5,hK5⟩|⟨rfl,hJx5⟩)
  ·refine ⟨_,rfl,?_⟩
   refine aJ (fun _=>trivial) rfl (fun c h=>by cases h) rfl ?_
   refine jY (b:=true) rfl rfl ?_
   refine dy (aI ?_)
   refine cM rfl (d5 (iE (aI ?_)))
   refine ⟨(xs++[Kf e],seen.push e.born),⟨rfl,rfl,trivial⟩,⟨hJ5,?_,?_,hp2,clock,Nat.le_refl _,hK5.2.same _ _ hit4 rfl⟩,left_shrinks es seen e he⟩
   ·exact hb2'.trans ((NC.mono hb2'.size).trans hK5.1)
   ·have:=NC.size
    have:=hK5.1.size
    omega
  ·refine ⟨_,rfl,?_⟩
   refine aJ (fun _=>trivial) rfl (fun c h=>by cases h) rfl ?_
   refine jY (b:=false) rfl rfl ?_
   refine dy (aI ?_)
   refine dN rfl (jV (fN (jU (fN (CZ ?_)))))
   exact ⟨_,fun tmps _=>results_none hr tmps P _,⟨_,rfl⟩,.inr ⟨_,trivial,hJx5⟩⟩
end
end R
instance acY:iU Tryz.prog 71 En lg 2:={}
def YN (e:MapEntry):En:=match e.key with
 | .agg cs=>(match cs.toList with
  | [.int _ a,.int _ b]=>⟨a,b⟩
  | _=>⟨0,0⟩)
 | _=>⟨0,0⟩
theorem Jl {e:MapEntry} {k:En} (h:e.key=.agg (lg k).toArray):YN e=k:=by
 unfold YN
 rw [h]
 rfl
theorem Pv {T:Type} {encV:T→Value} {es:Array MapEntry} {clk:Nat} {L:List (En×T)} (hI:jF lg encV es clk L):es.toList.map YN=L.map (·.1)∧∀ e∈es.toList,e.key=.agg (lg (YN e)).toArray:=by
 have h:=hI.UD
 have hall:∀ e∈es.toList,∃ k:En,e.key=.agg (lg k).toArray:=fun e he=>by
  have h1:(e.key,e.val)∈es.toList.map (fun e=>(e.key,e.val)):=List.mem_map.2 ⟨e,he,rfl⟩
  rw [h] at h1
  obtain ⟨p,_,hp⟩:=List.mem_map.1 h1
  exact ⟨p.1,(congrArg Prod.fst hp).symm⟩
 refine ⟨?_,fun e he=>?_⟩
 ·have key:∀ (es:List MapEntry) (L:List (En×T)),es.map (fun e=>(e.key,e.val))=L.map (fun p=>(Value.agg (lg p.1).toArray,encV p.2))→es.map YN=L.map (·.1):=by
   intro es
   induction es with
   | nil =>
    intro L h
    cases L with
    | nil=>rfl
    | cons p L=>cases h
   | cons e es ih =>
    intro L h
    cases L with
    | nil=>cases h
    | cons p L =>
     rw [List.map_cons,List.map_cons] at h
     injection h with h1 h2
     rw [List.map_cons,List.map_cons,ih L h2,Jl (k:=p.1) (congrArg Prod.fst h1)]
  exact key _ _ h
 ·obtain ⟨k,hk⟩:=hall e he
  rw [Jl hk]
  exact hk
def oE (x y:En):Int:=te (aR x.a y.a) (aR x.b y.b)
theorem tm (x y:En):oE x y<0↔x.a<y.a∨(x.a=y.a∧x.b<y.b):=by
 unfold oE te aR
 repeat' split
 all_goals (try omega)
theorem Pw (b:Nat) (w:World):Calls Tryz.prog 22 #[.map (some b)] w fun e w'=>∃ g,e=.returned (.func (.func 43) #[] #[.pointer (some ⟨g,0,none⟩)])∧R.Own [] w w' [.blk g 65 [.map (some b)]]:=by
 have hM:=R.Own.start [] w
 refine aa (fn:=Tryz.f22) Tryz.func22 rfl Tryz.ntmps22 (Nat.le_of_ble_eq_true rfl) ?_
 (refine ad ?_;(repeat' first|refine And.intro ?_ ?_|intro _);all_goals refine ah.mk ?_)
 refine aH (x:=.const .nilFunc) rfl rfl ?_
 (refine ad ?_;(repeat' first|refine And.intro ?_ ?_|intro _);all_goals refine ah.mk ?_)
 rename_i g _ hM
 exact ⟨g,rfl,hM⟩
theorem EA (g b:Nat) (es:Array MapEntry) (clk:Nat) (L:List (En×Ed)) (w:World) (hI:jF lg Pm es clk L) (hb:L.length≤1000000) (hg:w.cell? ⟨g,0,none⟩=some (.map (some b))) (hgl:g<w.heap.size) (hm:w.heap[b]?=some (.map es clk)) :
  Calls Tryz.prog 41 #[.func (.func 43) #[] #[.pointer (some ⟨g,0,none⟩)]] w fun e w'=>∃ B c2,∃ xs:List En,e=.returned (.slice B xs.length c2)∧xs.Perm (L.map (·.1))∧R.Own [] w w' [.row B xs.length c2 71 2 (xs.flatMap lg)]:=by
 have hM:=R.Own.start [] w
 obtain ⟨hk1,hk2⟩:=Pv hI
 have hsz:es.size=L.length:=by
  have:=congrArg List.length hI.UD
  simpa using this
 refine aa (fn:=Tryz.f41) Tryz.func41 rfl Tryz.ntmps41 (Nat.le_of_ble_eq_true rfl) ?_
 (refine ad ?_;(repeat' first|refine And.intro ?_ ?_|intro _);all_goals refine ah.mk ?_)
 refine ar rfl rfl vv vv ?_
 refine (iI (P:=Tryz.prog) (T:=En) (enc:=lg) (N:=es.size) (Sx:=fun xs=>xs.Perm (es.toList.map YN)) Tryz.func79 rfl rfl rfl vj xj xj
  (fun w1 hw1=>vP (T:=En) (enc:=lg) (Kf:=YN) Tryz.func43 rfl rfl rfl (kt:=71) (et:=82) wq (fun x=>cA.len x) (fun x=>List.all_eq_true.2 fun v hv=>cA.one (enc:=lg) x v hv) rfl hg hgl hm hI.bnd hI.born hk2 w1 hw1)).mono ?_
 rintro e w' ⟨B,c2,xs,hxs,h0,rfl,hO⟩
 refine ⟨_,rfl,?_⟩
 (refine ad ?_;(repeat' first|refine And.intro ?_ ?_|intro _);all_goals refine ah.mk ?_)
 exact ⟨B,c2,xs,rfl,by rw [← hk1];exact hxs,hO⟩
set_option maxHeartbeats 4000000 in
theorem G9 (g b:Nat) (es:Array MapEntry) (clk:Nat) (L:List (En×Ed)) (w:World) (hI:jF lg Pm es clk L) (hb:L.length≤1000000) (hg:w.cell? ⟨g,0,none⟩=some (.map (some b))) (hgl:g<w.heap.size) (hm:w.heap[b]?=some (.map es clk)) :
  Calls Tryz.prog 21 #[.func (.func 43) #[] #[.pointer (some ⟨g,0,none⟩)],.func (.func 23) #[] #[]] w fun e w'=>∃ B c2,∃ D:List En,e=.returned (.slice B D.length c2)∧D.Perm (L.map (·.1))∧(D.Pairwise fun a b=>¬ oE b a<0)∧R.Own [] w w' [.row B D.length c2 71 2 (D.flatMap lg)]:=by
 have hM:=R.Own.start [] w
 refine aa (fn:=Tryz.f21) Tryz.func21 rfl Tryz.ntmps21 (Nat.le_of_ble_eq_true rfl) ?_
 (refine ad ?_;(repeat' first|refine And.intro ?_ ?_|intro _);all_goals refine ah.mk ?_)
 refine aA rfl rfl vv ?_
 refine (EA g b es clk L _ hI hb hg hgl hm).mono ?_
 rintro _ w2 ⟨B,c2,xs,rfl,hxs,hO⟩
 have hM:=hO
 clear hO
 have hxl:xs.length=L.length:=by rw [hxs.length_eq,List.length_map]
 refine ⟨_,rfl,?_⟩
 (refine ad ?_;(repeat' first|refine And.intro ?_ ?_|intro _);all_goals refine ah.mk ?_)
 refine ar rfl rfl vv vv ?_
 refine (UR (fun _=>True) oE (fun x _=>by rw [tm];omega) (fun x y z _ _ _=>by rw [tm,tm,tm];omega) (fun x y z _ _ _=>by rw [tm,tm,tm];omega) 23 [] xs rfl (fun _ _=>trivial) hM xj (fun w' hO x y hx hy=>?_)).mono ?_
 ·exact (Dj x y).h () w' trivial
 rintro _ w3 ⟨rfl,D,h1,h2,hM⟩
 refine ⟨_,rfl,?_⟩
 (refine ad ?_;(repeat' first|refine And.intro ?_ ?_|intro _);all_goals refine ah.mk ?_)
 rw [← h1.length_eq] at hM ⊢
 exact ⟨B,c2,D,rfl,h1.trans hxs,h2,hM⟩
theorem abV (s:bJ):(bT s 0 1).n=0∧(bT s 0 1).d=1:=by
 have e1:nP 0 1=0:=by decide
 have e2:ky 0 1=1:=by decide
 exact ⟨e1,e2⟩
theorem abW (s:bJ):(bT s 1 1).n=1∧(bT s 1 1).d=1:=by
 have e1:nP 1 1=1:=by decide
 have e2:ky 1 1=1:=by decide
 exact ⟨e1,e2⟩
theorem wU {S:List bJ} {i:Nat} {C:List Ct} (h:kW S i C) {a b:Nat} (hab:a<b) (hb:b<C.length):V7 (nth C a) (nth C b):=by
 have:=List.pairwise_iff_getElem.1 h.QS a b xj hb hab
 rwa [av xj,av hb]
theorem sJ {S:List bJ} (hS:∀ s∈S,aK s) {i:Nat} (hi:i<S.length) {C:List Ct} (h:kW S i C) (hl:C.length≤2000):oV (C.map tJ):=by
 have ok:∀ j,j<C.length→oY (nth S i) (nth C j):=fun j hj=>oL hS hi ((h.mem _).1 (R.aB hj))
 have at_:∀ c,c∈C→∃ j,j<C.length∧nth C j=c:=fun c hc=>by
  obtain ⟨j,hj,e⟩:=List.getElem_of_mem hc
  exact ⟨j,hj,by rw [av hj];exact e⟩
 obtain ⟨z1,z2⟩:=abV (nth S i)
 obtain ⟨o1,o2⟩:=abW (nth S i)
 obtain ⟨j0,h0,e0⟩:=at_ _ ((h.mem _).2 (.inl rfl))
 obtain ⟨j1,h1,e1⟩:=at_ _ ((h.mem _).2 (.inr (.inl rfl)))
 have hj0:j0=0:=by
  by_cases c:j0=0
  ·exact c
  ·exfalso
   have:=wU h (a:=0) (b:=j0) xj h0
   unfold V7 at this
   rw [e0,z1,z2] at this
   have:=(ok 0 xj).1
   omega
 have hj1:j1=C.length-1:=by
  by_cases c:j1=C.length-1
  ·exact c
  ·exfalso
   have:=wU h (a:=j1) (b:=C.length-1) xj xj
   unfold V7 at this
   rw [e1,o1,o2] at this
   have:=(ok (C.length-1) xj).2.2.1
   omega
 subst hj0
 subst hj1
 have hm:∀ j,j<C.length→nth (C.map tJ) j=tJ (nth C j):=fun j hj=>bW hj
 have hlen:(C.map tJ).length=C.length:=List.length_map ..
 have h2:2≤C.length:=by
  by_cases c:C.length-1=0
  ·exfalso
   rw [c] at e1
   have:=e0.symm.trans e1
   have:=congrArg Ct.n this
   rw [z1,o1] at this
   omega
  ·omega
 refine ⟨by omega,by omega,fun j hj=>?_,?_,?_⟩
 ·rw [hlen] at hj
  obtain ⟨k1,k2,k3,_⟩:=ok j hj
  refine ⟨?_,fun hp=>?_⟩
  ·rw [hm j hj]
   show (decide (1≤(nth C j).d)&&(decide (0≤(nth C j).n)&&decide ((nth C j).n≤(nth C j).d)))=true
   simp [k1,k2,k3]
  ·rw [hm j hj,hm (j-1) (by omega)]
   have:=wU h (a:=j-1) (b:=j) xj hj
   unfold V7 at this
   show decide ((nth C j).n*(nth C (j-1)).d<(nth C (j-1)).n*(nth C j).d)=false
   simp only [decide_eq_false_iff_not]
   omega
 ·rw [hm 0 (by omega)]
  show (nth C 0).n=0
  rw [e0,z1]
 ·rw [hlen,hm _ (by omega)]
  show (nth C (C.length-1)).n=(nth C (C.length-1)).d
  rw [e1,o1,o2]
theorem Vo {S:List bJ} (hS:∀ s∈S,aK s) {i:Nat} (hi:i<S.length) {C:List Ct} (h:kW S i C) (hl:C.length≤2000):2≤C.length:=by
 have:=(sJ hS hi h hl).1
 rwa [List.length_map] at this
def kE (k:Nat×Nat):En:=⟨(k.1:Nat),(k.2:Nat)⟩
theorem YO {k q:Nat×Nat} (h:kE k=kE q):k=q:=by
 have h1:=congrArg En.a h
 have h2:=congrArg En.b h
 have h1:(k.1:Int)=(q.1:Nat):=h1
 have h2:(k.2:Int)=(q.2:Nat):=h2
 exact Prod.ext xj xj
structure EB (L:List (En×Ed)) (Q:List Rw):Prop where
 get:∀ k,eY L (kE k)=wS Q k
 key:∀ e,e∈L.map (·.1)↔∃ r∈Q,e=kh r
 len:L.length≤Q.length
theorem Px:EB [] []:=⟨fun k=>(QH k).symm,fun _=>⟨fun h=>(List.not_mem_nil h).elim,fun ⟨_,h,_⟩=>(List.not_mem_nil h).elim⟩,Nat.le_refl _⟩
theorem Lx {L:List (En×Ed)} {Q:List Rw} (h:EB L Q) (r:Rw):EB (jj L (kh r) (fE (eY L (kh r)) r)) (Q++[r]) where
 get k:=by
  rw [wy]
  have er:eY L (kh r)=wS Q r.key:=h.get r.key
  by_cases c:kE k=kh r
  ·rw [if_pos c]
   obtain rfl:k=r.key:=YO c
   rw [LU,er]
  ·rw [if_neg c,HS (fun e=>c (by rw [← e];rfl))]
   exact h.get k
 key e:=by
  rw [sq]
  have hr:∀ e,(∃ s∈Q++[r],e=kh s)↔(∃ s∈Q,e=kh s)∨e=kh r:=fun e=>by
   constructor
   ·rintro ⟨s,hs,rfl⟩
    rcases List.mem_append.1 hs with hs|hs
    ·exact .inl ⟨s,hs,rfl⟩
    ·rw [List.mem_singleton.1 hs]
     exact .inr rfl
   ·rintro (⟨s,hs,rfl⟩|rfl)
    ·exact ⟨s,List.mem_append_left _ hs,rfl⟩
    ·exact ⟨r,by simp,rfl⟩
  rw [hr]
  split
  ·rename_i c
   rw [h.key]
   refine ⟨.inl,?_⟩
   rintro (h1|rfl)
   ·exact h1
   ·exact (h.key _).1 c
  ·rw [List.mem_append,h.key,List.mem_singleton]
 len:=by
  have e:=congrArg List.length (sq L (kh r) (fE (eY L (kh r)) r))
  rw [List.length_map] at e
  have:=h.len
  rw [List.length_append,e]
  split
  ·rw [List.length_map];omega
  ·rw [List.length_append,List.length_map]
   simp only [List.length_cons,List.length_nil]
   omega
def YP (e:En):Nat×Nat:=(e.a.toNat,e.b.toNat)
theorem UE (r:Rw):YP (kh r)=r.key:=rfl
theorem Py (r:Rw):kE (YP (kh r))=kh r:=rfl
def mh (Q:List Rw) (D:List En):List Ed:=D.map fun e=>aP Q (YP e)
theorem UF {L:List (En×Ed)} {Q:List Rw} (h:EB L Q) {e:En} (he:e∈L.map (·.1)):eY L e=some (aP Q (YP e)):=by
 obtain ⟨r,hr,rfl⟩:=(h.key e).1 he
 have e1:=h.get r.key
 rw [show kE r.key=kh r from rfl] at e1
 rw [e1,UE]
 unfold wS
 rw [if_pos ⟨r,hr,rfl⟩]
theorem UG {L:List (En×Ed)} {Q:List Rw} (h:EB L Q) (hnd:(L.map (·.1)).Nodup) {D:List En} (hD:D.Perm (L.map (·.1))):ZX Q (mh Q D):=by
 have e:mh Q D=(D.map YP).map (aP Q):=by unfold mh;rw [List.map_map];rfl
 rw [e]
 refine QI ?_ fun k=>?_
 ·refine List.pairwise_map.2 ((hD.nodup_iff.2 hnd).imp_of_mem fun {a b} ha hb hab e=>hab ?_)
  obtain ⟨r,_,rfl⟩:=(h.key a).1 (hD.subset ha)
  obtain ⟨s,_,rfl⟩:=(h.key b).1 (hD.subset hb)
  rw [← Py r,← Py s,e]
 ·rw [List.mem_map]
  constructor
  ·rintro ⟨e,he,rfl⟩
   obtain ⟨r,hr,rfl⟩:=(h.key e).1 (hD.subset he)
   exact ⟨r,hr,rfl⟩
  ·rintro ⟨r,hr,rfl⟩
   exact ⟨kh r,hD.symm.subset ((h.key _).2 ⟨r,hr,rfl⟩),rfl⟩
def UH (D:List En) (k:Nat):List (En×Int):=(List.range k).map fun i=>(nth D i,((i:Nat):Int))
theorem Pz {K T:Type} [DecidableEq K]:∀ (L:List (K×T)) (q:K) (v:T),eY L q=none→jj L q v=L++[(q,v)]:=by
 intro L
 induction L with
 | nil=>exact fun q v _=>rfl
 | cons p L ih =>
  intro q v h
  unfold eY at h
  unfold jj
  split at h
  ·cases h
  ·rename_i hp
   rw [if_neg hp,ih q v h]
   rfl
theorem EC {D:List En} (hD:D.Nodup) {k:Nat} (hk:k<D.length):jj (UH D k) (nth D k) ((k:Nat):Int)=UH D (k+1):=by
 have hn:eY (UH D k) (nth D k)=none:=yq.2 fun h=>by
  unfold UH at h
  rw [List.map_map] at h
  obtain ⟨i,hi,e⟩:=List.mem_map.1 h
  have hi:=List.mem_range.1 hi
  have e:nth D i=nth D k:=e
  rw [av xj,av hk] at e
  have:=(List.getElem_inj hD).1 e
  omega
 rw [Pz _ _ _ hn]
 unfold UH
 rw [List.range_succ,List.map_append]
 rfl
theorem UI {D:List En} (hD:D.Nodup) {s:En} (h:s∈D):eY (UH D D.length) s=some ((D.idxOf s:Nat):Int):=by
 have key:∀ k,k≤D.length→∀ i,i<k→eY (UH D k) (nth D i)=some ((i:Nat):Int):=by
  intro k
  induction k with
  | zero=>exact fun _ i hi=>absurd hi (Nat.not_lt_zero _)
  | succ k ih =>
   intro hk i hi
   rw [← EC hD xj,wy]
   by_cases e:i=k
   ·subst e
    rw [if_pos rfl]
   ·rw [if_neg fun h=>e (by
     rw [av xj,av (by omega)] at h
     exact (List.getElem_inj hD).1 h)]
    exact ih xj i xj
 have hlt:=List.idxOf_lt_length_iff.2 h
 have h2:=key D.length (Nat.le_refl _) (D.idxOf s) hlt
 rw [av hlt,List.getElem_idxOf hlt] at h2
 exact h2
def su (s:iX):HJ:=⟨s.g,s.w,s.o⟩
def PA (St:List iX) (Cs:List (List Ct)) (nodes:List Sp) (k:Nat):List Rw:=(List.range k).flatMap fun i=>fX (su (nth St i)) (nth Cs i) nodes
theorem ED (St:List iX) (Cs:List (List Ct)) (nodes:List Sp) (k:Nat):PA St Cs nodes (k+1)=PA St Cs nodes k++fX (su (nth St k)) (nth Cs k) nodes:=by
 unfold PA
 rw [List.range_succ,List.flatMap_append]
 simp
theorem Jm {St:List iX} {Cs:List (List Ct)} {nodes:List Sp} {b:Nat}:∀ (k:Nat),(∀ i,i<k→(nth Cs i).length≤b)→(PA St Cs nodes k).length≤k*b
 | 0,_=>Nat.zero_le _
 | k+1,h=>by
  have h1:=Jm (St:=St) (nodes:=nodes) k fun i hi=>h i xj
  have h2:=h k xj
  rw [ED,List.length_append,Nat.succ_mul]
  have:(fX (su (nth St k)) (nth Cs k) nodes).length=(nth Cs k).length-1:=by unfold fX;rw [List.length_map,List.length_range]
  omega
theorem Jn (St:List iX) (Cs:List (List Ct)) (nodes:List Sp):PA St Cs nodes St.length=iK (St.map su) Cs nodes:=by
 unfold PA iK
 rw [List.length_map]
 have:∀ (l:List Nat),(∀ i∈l,i<St.length)→l.flatMap (fun i=>fX (su (nth St i)) (nth Cs i) nodes)=l.flatMap fun i=>fX (nth (St.map su) i) (nth Cs i) nodes:=by
  intro l
  induction l with
  | nil=>exact fun _=>rfl
  | cons a l ih =>
   intro h
   rw [List.flatMap_cons,List.flatMap_cons,ih fun i hi=>h i (List.mem_cons_of_mem _ hi),bW (h a (by simp))]
 exact this _ fun i hi=>List.mem_range.1 hi
theorem UJ (x:iX) (C:List Ct) (nodes:List Sp):runK x C nodes (C.length-1)=fX (su x) C nodes:=rfl
section
theorem abc (St:List iX):(St.map su).map (·.g)=St.map (·.g):=by
 rw [List.map_map]
 rfl
theorem YS {S:List HJ} {rows:List (List Ct)} {nodes:List Sp} {E:List Ed} (hS:∀ s∈S,aK s.g) (hw:∀ s∈S,xE s.w=true) (hl:∀ i,i<S.length→(nth rows i).length≤2000) (h:gm S rows nodes E):∀ r∈iK S rows nodes,0≤r.w∧r.w≤2147483648:=by
 intro r hr
 obtain ⟨i,hi,hr⟩:=List.mem_flatMap.1 hr
 have hi:=List.mem_range.1 hi
 obtain ⟨j,hj,rfl⟩:=List.mem_map.1 hr
 have hj:=List.mem_range.1 hj
 have hv:=Hq (hw _ (aB hi))
 have:=P9 hv.1 (sJ (rp hS) (by simpa using hi) (h.row i hi) (hl i hi)) (i:=j) (by rw [List.length_map];omega)
 exact ⟨this.1,Int.le_trans this.2 hv.2⟩
section
variable {St:List iX} {Cs:List (List Ct)} {D:List Sp} {L:List (En×Ed)} {Dk:List En} {Q:List Rw} (hS:∀ s∈St,aK s.g∧xE s.w=true) (hlen:Cs.length=St.length) (hrow:∀ i,i<St.length→kW (St.map (·.g)) i (nth Cs i)) (hle:∀ i,i<St.length→(nth Cs i).length≤802)
 (hDs:D.Pairwise fun a b=>d9 a b<0) (hDm:∀ x,x∈D↔x∈ea Cs) (hQ:Q=PA St Cs D St.length) (hG:EB L Q) (hnd:(L.map (·.1)).Nodup) (hDk:Dk.Perm (L.map (·.1))) (hDo:Dk.Pairwise fun a b=>¬ oE b a<0)
include hS hlen hrow hle hDs hDm hQ hG hnd hDk
omit hS hle in
theorem wE:gm (St.map su) Cs D (mh Q Dk) where
 len:=by rw [hlen,List.length_map]
 row i hi:=by
  rw [abc]
  exact hrow i (by simpa using hi)
 QS:=hDs
 mem x:=by
  rw [hDm]
  unfold ea
  rw [List.mem_flatMap]
  exact ⟨fun ⟨C,hC,hx⟩=>⟨C,hC,List.mem_map.1 hx⟩,fun ⟨C,hC,hx⟩=>⟨C,hC,List.mem_map.2 hx⟩⟩
 Zt:=by
  rw [← Jn,← hQ]
  exact UG hG hnd hDk
theorem sw:(∀ r∈Q,r.i<D.length∧r.k<D.length∧r.i≠r.k)∧∀ r∈Q,0≤r.w∧r.w≤2147483648:=by
 have hn:=wE hlen hrow hDs hDm hQ hG hnd hDk
 have hS2:∀ s∈St.map su,aK s.g:=fun s hs=>by
  obtain ⟨t,ht,rfl⟩:=List.mem_map.1 hs
  exact (hS t ht).1
 have e:Q=iK (St.map su) Cs D:=by rw [hQ,Jn]
 rw [e]
 refine ⟨JT hS2 hn,YS hS2 (fun s hs=>?_) (fun i hi=>?_) hn⟩
 ·obtain ⟨t,ht,rfl⟩:=List.mem_map.1 hs
  exact (hS t ht).2
 ·have:=hle i (by simpa using hi)
  omega
omit hS hlen hrow hle hDs hDm hQ hnd in
theorem EH {e:En} (he:e∈Dk):∃ r∈Q,e=kh r:=(hG.key e).1 (hDk.subset he)
include hDo
theorem wF:∀ i,i<Dk.length→vt D.length (mh Q Dk) i:=by
 obtain ⟨hR,hW⟩:=sw hS hlen hrow hle hDs hDm hQ hG hnd hDk
 have ei:∀ i,i<Dk.length→nth (mh Q Dk) i=aP Q (YP (nth Dk i)):=fun i hi=>by unfold mh;exact bW hi
 intro i hi
 obtain ⟨r,hr,e⟩:=EH hG hDk (R.aB hi)
 have hm:=QJ hR hW hr
 have e2:nth (mh Q Dk) i=aP Q r.key:=by rw [ei i hi,e];rfl
 rw [← e2] at hm
 obtain ⟨h1,h2,h3,h4,h5,h6⟩:=hm
 refine ⟨h1,h2,h3,⟨h4,h5⟩,h6,fun h0=>?_⟩
 obtain ⟨s,hs,e3⟩:=EH hG hDk (R.aB (L:=Dk) (i:=i-1) xj)
 have e4:nth (mh Q Dk) (i-1)=aP Q s.key:=by rw [ei (i-1) xj,e3];rfl
 rw [e2,e4]
 have hlt:=List.pairwise_iff_getElem.1 hDo (i-1) i xj hi xj
 rw [← av,← av,tm,e,e3] at hlt
 have hne:nth Dk (i-1)≠nth Dk i:=fun h=>by
  rw [av xj,av hi] at h
  have:=(List.getElem_inj (hDk.nodup_iff.2 hnd)).1 h
  omega
 rw [e,e3] at hne
 unfold ltE
 rw [(dn Q s.key).1,(dn Q s.key).2,(dn Q r.key).1,(dn Q r.key).2]
 have f:∀ (r s:Rw),kh r≠kh s→(kh r).a≠(kh s).a∨(kh r).b≠(kh s).b:=fun r s h=>by
  by_cases c:(kh r).a=(kh s).a
  ·exact .inr fun c2=>h (by cases hr:kh r;cases hs:kh s;simp_all)
  ·exact .inl c
 have g:=f s r hne
 have a1:(kh s).a=(s.key.1:Nat):=rfl
 have a2:(kh s).b=(s.key.2:Nat):=rfl
 have a3:(kh r).a=(r.key.1:Nat):=rfl
 have a4:(kh r).b=(r.key.2:Nat):=rfl
 rw [a1,a2,a3,a4] at g hlt
 omega
theorem PE {x:Nt} (h1:x.s.L=D) (h2:x.s.n=D.length) (h3:x.e.L=mh Q Dk) (h4:x.e.n=Dk.length) (h5:x.p.n≤20) (hd:D.length≤200000) (hk:Dk.length≤200000)
  (hp:∀ l∈x.p.L,∀ p∈l.L,∃ r∈Q,p.e=((Dk.idxOf (kh r):Nat):Int)∧p.w=r.w):KP x:=by
 obtain ⟨_,hW⟩:=sw hS hlen hrow hle hDs hDm hQ hG hnd hDk
 have hn:=wE hlen hrow hDs hDm hQ hG hnd hDk
 have hS2:∀ s∈St.map su,aK s.g:=fun s hs=>by
  obtain ⟨t,ht,rfl⟩:=List.mem_map.1 hs
  exact (hS t ht).1
 refine ⟨by omega,by omega,by omega,fun i hi=>?_,fun i hi=>?_,fun l hl p hpl=>?_⟩
 ·rw [h2] at hi
  rw [h1]
  refine ⟨rq hS2 hn (R.aB hi),fun h0=>?_⟩
  have:=List.pairwise_iff_getElem.1 hDs (i-1) i xj hi xj
  rwa [← av,← av] at this
 ·rw [h4] at hi
  rw [h2,h3]
  exact wF hS hlen hrow hle hDs hDm hQ hG hnd hDk hDo i hi
 ·obtain ⟨r,hr,e1,e2⟩:=hp l hl p hpl
  have hw:=hW r hr
  have hlt:Dk.idxOf (kh r)<Dk.length:=List.idxOf_lt_length_iff.2 (hDk.symm.subset ((hG.key _).2 ⟨r,hr,rfl⟩))
  unfold lf
  rw [h4,e1,e2]
  simp only [Bool.or_eq_false_iff,decide_eq_false_iff_not,Bool.not_eq_false',Bool.and_eq_true,decide_eq_true_iff]
  omega
end
end
end Go.Proofs.YtlmabdegojeheaaGreatDoor
