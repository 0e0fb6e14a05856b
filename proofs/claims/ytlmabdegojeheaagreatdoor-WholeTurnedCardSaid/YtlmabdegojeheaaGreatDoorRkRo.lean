/- WholeTurned: parts of its proof (Rk Ro). -/
import Derived.Test.YtlmabdegojeheaaGreatDoorRjUu
import Derived.Test.YtlmabdegojeheaaGreatDoorEvRn
import Derived.OrdersIn
namespace Go.Proofs.YtlmabdegojeheaaGreatDoor
open R Go.RowKit
namespace R
open Go.ChangeMaps (setBlock)
def I9 (M E Y:TypeId):Code :=
 (Code.region 0 #[{ dst:=some 4,op:=.load M (.tmp 1),type:=M,pos:= "iter.go:27",after:=#[],guard:=none },{ dst:=some 5,op:=.range M (.tmp 4),type:=0,pos:= "iter.go:27",after:=#[{ on:=0,ground:=.data }],guard:=none }] false).seq
  (.block 0 ((Code.region 1 #[{ dst:=some 6,op:=.next (.tmp 5) false,type:=0,pos:= "iter.go:27",after:=#[],guard:=none },{ dst:=some 7,op:=.extract (.tmp 6) 0,type:=4,pos:= "iter.go:27",after:=#[{ on:=0,ground:=.data }],guard:=none }] false).seq
   ((Code.cond (.tmp 7) .skip (.exit 0)).seq
    (Code.block 1 ((Code.region 2 #[{ dst:=some 8,op:=.entry (.tmp 5),type:=0,pos:= "iter.go:27",after:=#[],guard:=none },{ dst:=some 9,op:=.extract (.tmp 8) 0,type:=E,pos:= "iter.go:27",after:=#[{ on:=0,ground:=.data }],guard:=none },{ dst:=some 3,op:=.assign (.tmp 9),type:=E,pos:= "iter.go:27",after:=#[{ on:=1,ground:=.data },{ on:=0,ground:=.phase },{ on:=1,ground:=.phase }],guard:=none }] false).seq
     ((Code.region 3 #[{ dst:=some 10,op:=.move (.tmp 0),type:=Y,pos:= "iter.go:28",after:=#[],guard:=none },{ dst:=some 11,op:=.move (.tmp 3),type:=E,pos:= "iter.go:28",after:=#[],guard:=none },{ dst:=some 12,op:=.call { callee:=.value (.tmp 10),args:=#[.tmp 11],argTypes:=#[E] },type:=4,pos:= "iter.go:28",after:=#[{ on:=0,ground:=.data },{ on:=1,ground:=.data }],guard:=none },{ dst:=some 13,op:=.unOp .not 4 (.tmp 12),type:=4,pos:= "iter.go:28",after:=#[{ on:=2,ground:=.data }],guard:=none }] false).seq
      (Code.cond (.tmp 13) .ret .skip)))))).loop)
section
variable {P:Program} {g:FuncId} {fn:Func} {M E Y kt et:TypeId} {T:Type} {val:T→Value} {w0:World} {b B clock:Nat} {es:Array MapEntry} {Kf:MapEntry→T}
set_option maxHeartbeats 2000000 in
theorem yj (hfn:P.funcs[g]?=some fn) (hb:fn.body=some (I9 M E Y)) (hn:fn.ntmps=14) (hr:fn.results=#[]) (ht:P.underlying M=some (.map kt et)) [aG P M false]
  (hB:w0.cell? ⟨B,0,none⟩=some (.map (some b))) (hBl:B<w0.heap.size) (hm:w0.heap[b]?=some (.map es clock)) (hnd:(es.toList.map (·.born)).Nodup) (hborn:∀ x∈es.toList,x.born<clock)
  (hkey:∀ e∈es.toList,e.key=val (Kf e)) (w1:World) (hw1:Below w0.heap.size w0 w1) :
  SeqStopsK Fence.wide 4 P g #[.pointer (some ⟨B,0,none⟩)] (fun x:T=>#[val x]) (On w0.heap.size) (fun xs=>xs.Perm (es.toList.map Kf)) (fun _=>True) es.size w1:=by
 intro l J Jx W hW hJ hJx hY h0
 have hWb:Below w0.heap.size w0 W:=hw1.trans (hW.mono hw1.size)
 have hbl:b<w0.heap.size:=(Array.getElem?_eq_some_iff.1 hm).1
 refine callsIn_wide.2 ?_
 show Calls P g [.func (.yield l) #[] #[],.pointer (some ⟨B,0,none⟩)].toArray W _
 refine aa hfn hb hn (Nat.le_of_ble_eq_true rfl) ?_
 unfold I9
 refine aU (dI 4 ?_)
 refine aJ (fun _=>trivial) rfl (fun c h=>by cases h) rfl ?_
 refine bu (a:=⟨B,0,none⟩) (v:=.map (some b)) rfl rfl ((hWb.cell (p:=⟨B,0,none⟩) hBl).trans hB) ?_
 refine aJ (fun _=>trivial) rfl (fun c h=>by cases h) rfl ?_
 refine DC rfl rfl ht ((hWb.block b hbl).trans hm) ?_
 refine dy (aI ?_)
 have hga:W.grownBy (W.alloc (.mapIter (some b) clock #[] clock)) none:=World.grownBy_alloc W _ none
 refine cU (au (ι:=List T×Array Nat) (fun _=>[(0,.func (.yield l) #[] #[]),(5,.pointer (some ⟨W.heap.size,0,none⟩))])
  (fun i wr=>J i.1 wr∧Below w0.heap.size w0 wr∧W.heap.size≤wr.heap.size∧i.1.Perm ((es.toList.filter fun x=>i.2.contains x.born).map Kf)∧∃ c0,clock≤c0∧wr.heap[W.heap.size]?=some (.mapIter (some b) clock i.2 c0)) (fun i=>(leftOf es i.2).size)
  ⟨([],#[]),⟨rfl,rfl,trivial⟩,hJ _ W _ none h0 hga (fun r e=>by cases e),hWb.trans ((Below.refl _ W).alloc hWb.size _),hga.size,by simp,clock,Nat.le_refl _,World.alloc_heap_new W _⟩ ?_)
 rintro ⟨xs,seen⟩ f wr ⟨hJk,hbk,hsz,hperm,c0,hc0,hit⟩
 refine aU (dI 4 ?_)
 refine aJ (fun _=>trivial) rfl (fun c h=>by cases h) rfl ?_
 refine I8 rfl rfl hit ((hbk.block b hbl).trans hm) hborn hc0 (fun hz=>?_) (fun e he w2 hg2 hs2 hr2 hb2=>?_)
 ·refine aJ (fun _=>trivial) rfl (fun c h=>by cases h) rfl ?_
  refine cz (v:=.bool false) rfl rfl rfl ?_
  refine dy (aI (aU (cM rfl (gH ?_))))
  have hall:=all_seen es seen hz
  have hfe:(es.toList.filter fun x=>seen.contains x.born)=es.toList:=List.filter_eq_self.2 hall
  dsimp only at hperm
  rw [hfe] at hperm
  exact fC (fC (gG rfl (xN ⟨_,fun tmps _=>results_none hr tmps P _,⟨_,rfl⟩,.inl ⟨_,hperm,hJk⟩⟩)))
 ·obtain ⟨hem,hes⟩:=mem_left he
  have hw0W:w0.heap.size≤W.heap.size:=hWb.size
  have hb2':Below w0.heap.size w0 w2:=hbk.grown hg2 hbk.size (fun k e=>by cases e;exact hw0W)
  have hJ2:J xs w2:=hJ _ wr w2 _ hJk hg2 (fun r e=>by cases e;exact ⟨Nat.le_refl _,_,hit,rfl⟩)
  refine aJ (fun _=>trivial) rfl (fun c h=>by cases h) rfl ?_
  refine cz (v:=.bool true) rfl rfl rfl ?_
  refine dy (aI (aU (dN rfl (d5 (aI (cU (aU (dI 4 ?_))))))))
  refine aJ (fun _=>trivial) rfl (fun c h=>by cases h) rfl ?_
  refine DD rfl rfl hr2 hb2 hem hnd ?_
  refine aJ (fun _=>trivial) rfl (fun c h=>by cases h) rfl ?_
  refine cz (v:=val (Kf e)) rfl rfl (by rw [← hkey e hem];rfl) ?_
  refine aJ (fun _=>trivial) rfl (fun c h=>by cases h) rfl ?_
  refine aH (x:=.tmp 9) (v:=val (Kf e)) rfl rfl ?_
  refine dy (aI ?_)
  refine aU (dI 4 ?_)
  refine aJ (fun _=>trivial) rfl (fun c h=>by cases h) rfl ?_
  refine aH (x:=.tmp 0) (v:=.func (.yield l) #[] #[]) rfl rfl ?_
  refine aJ (fun _=>trivial) rfl (fun c h=>by cases h) rfl ?_
  refine aH (x:=.tmp 3) (v:=val (Kf e)) rfl rfl ?_
  have hlx:xs.length<es.size:=by
   have h1:=hperm.length_eq
   have h2:=DB (fun x=>seen.contains x.born) hem hes
   simp only [List.length_map] at h1
   simp only [Array.length_toList] at h2
   omega
  have hp2:(xs++[Kf e]).Perm ((es.toList.filter fun x=>(seen.push e.born).contains x.born).map Kf):=by
   have h1:=(se (fun x=>seen.contains x.born) hnd hem hes).map Kf
   have h2:(es.toList.filter fun x=>(seen.push e.born).contains x.born)=es.toList.filter fun x=>seen.contains x.born||x.born == e.born:=List.filter_congr fun x _=>contains_push _ _ _
   rw [h2]
   refine List.Perm.trans ?_ h1.symm
   rw [List.map_append]
   exact hperm.append_right _
  refine qH rfl (fun _=>trivial) rfl rfl vj rfl (hY _ (Kf e) w2 hJ2 hlx) ?_
  rintro e' w5 (⟨rfl,hJ5,hK5⟩|⟨rfl,hJx5⟩)
  ·refine ⟨_,rfl,?_⟩
   refine aJ (fun _=>trivial) rfl (fun c h=>by cases h) rfl ?_
   refine jY (b:=true) rfl rfl ?_
   refine dy (aI ?_)
   refine cM rfl (d5 (iE (aI ?_)))
   refine ⟨(xs++[Kf e],seen.push e.born),⟨rfl,rfl,trivial⟩,⟨hJ5,?_,?_,hp2,clock,Nat.le_refl _,hK5.2.same _ _ hr2 rfl⟩,left_shrinks es seen e he⟩
   ·exact hb2'.trans hK5.1
   ·have:=hK5.1.size
    omega
  ·refine ⟨_,rfl,?_⟩
   refine aJ (fun _=>trivial) rfl (fun c h=>by cases h) rfl ?_
   refine jY (b:=false) rfl rfl ?_
   refine dy (aI ?_)
   refine dN rfl (jV (fN (jU (fN (CZ ?_)))))
   exact ⟨_,fun tmps _=>results_none hr tmps P _,⟨_,rfl⟩,.inr ⟨_,trivial,hJx5⟩⟩
end
def Ox (M:TypeId) (X:Code):Code :=
 (Code.region 0 #[{ dst:=some 4,op:=.load M (.tmp 1),type:=M,pos:= "iter.go:27",after:=#[],guard:=none },{ dst:=some 5,op:=.range M (.tmp 4),type:=0,pos:= "iter.go:27",after:=#[{ on:=0,ground:=.data }],guard:=none }] false).seq
  (.block 0 ((Code.region 1 #[{ dst:=some 6,op:=.next (.tmp 5) false,type:=0,pos:= "iter.go:27",after:=#[],guard:=none },{ dst:=some 7,op:=.extract (.tmp 6) 0,type:=4,pos:= "iter.go:27",after:=#[{ on:=0,ground:=.data }],guard:=none }] false).seq
   ((Code.cond (.tmp 7) .skip (.exit 0)).seq X)).loop)
set_option maxHeartbeats 2000000 in
theorem keys_nil {P:Program} {g:FuncId} {fn:Func} {M kt et:TypeId} {X:Code} {T:Type} {encs:T→Array Value} {w0:World} {B N:Nat} (hfn:P.funcs[g]?=some fn) (hb:fn.body=some (Ox M X)) (hn:fn.ntmps=14) (hr:fn.results=#[]) (ht:P.underlying M=some (.map kt et)) [aG P M false]
  (hB:w0.cell? ⟨B,0,none⟩=some (.map none)) (hBl:B<w0.heap.size) (w1:World) (hw1:Below w0.heap.size w0 w1) :
  SeqStopsK Fence.wide 4 P g #[.pointer (some ⟨B,0,none⟩)] encs (On w0.heap.size) (fun xs=>xs=[]) (fun _=>True) N w1:=by
 intro l J Jx W hW hJ hJx hY h0
 have hWb:Below w0.heap.size w0 W:=hw1.trans (hW.mono hw1.size)
 refine callsIn_wide.2 ?_
 show Calls P g [.func (.yield l) #[] #[],.pointer (some ⟨B,0,none⟩)].toArray W _
 refine aa hfn hb hn (Nat.le_of_ble_eq_true rfl) ?_
 unfold Ox
 refine aU (dI 4 ?_)
 refine aJ (fun _=>trivial) rfl (fun c h=>by cases h) rfl ?_
 refine bu (a:=⟨B,0,none⟩) (v:=.map none) rfl rfl ((hWb.cell (p:=⟨B,0,none⟩) hBl).trans hB) ?_
 refine aJ (fun _=>trivial) rfl (fun c h=>by cases h) rfl ?_
 refine Ld rfl rfl ht ?_
 refine dy (aI ?_)
 refine cU (au (ι:=Unit) (fun _=>[(0,.func (.yield l) #[] #[]),(5,.pointer (some ⟨W.heap.size,0,none⟩))])
  (fun _ wr=>wr=W.alloc (.mapIter none 0 #[] 0)) (fun _=>0) ⟨(),⟨rfl,rfl,trivial⟩,rfl⟩ ?_)
 rintro _ f wr rfl
 refine aU (dI 4 ?_)
 refine aJ (fun _=>trivial) rfl (fun c h=>by cases h) rfl ?_
 refine Ow rfl rfl (World.alloc_heap_new W _) ?_
 refine aJ (fun _=>trivial) rfl (fun c h=>by cases h) rfl ?_
 refine cz (v:=.bool false) rfl rfl rfl ?_
 refine dy (aI (aU (cM rfl (gH ?_))))
 exact fC (fC (gG rfl (xN ⟨_,fun tmps _=>results_none hr tmps P _,⟨_,rfl⟩,.inl ⟨_,rfl,hJ _ W _ none h0 (World.grownBy_alloc W _ none) (fun r e=>by cases e)⟩⟩)))
theorem TE {v:Value} (h:v.oneCell'=true):v.cells=[v].toArray:=by cases v <;> first|rfl|(simp [Value.oneCell'] at h)
def Le (E:TypeId):Code:=.region 2 #[{ dst:=some 5,op:=.assign (.tmp 7),type:=E,pos:= "iter.go:51",after:=#[],guard:=none }] false
def TF (S E:TypeId):Code:=.block 1 (.region 3 #[{ dst:=some 8,op:=.load S (.tmp 2),type:=S,pos:= "iter.go:52",after:=#[],guard:=none },{ dst:=some 9,op:=.move (.tmp 5),type:=E,pos:= "iter.go:52",after:=#[],guard:=none },{ dst:=some 10,op:=.buildSlice S 1 #[(0,.tmp 9)],type:=S,pos:= "iter.go:52",after:=#[{ on:=1,ground:=.data }],guard:=none },{ dst:=some 11,op:=.call { callee:=.builtin .append,args:=#[.tmp 8,.tmp 10],argTypes:=#[S,S] },type:=S,pos:= "iter.go:52",after:=#[{ on:=0,ground:=.data },{ on:=2,ground:=.data }],guard:=none },{ dst:=none,op:=.store S (.tmp 2) (.tmp 11),type:=0,pos:= "iter.go:52",after:=#[{ on:=3,ground:=.data },{ on:=3,ground:=.chain },{ on:=0,ground:=.phase },{ on:=1,ground:=.phase },{ on:=2,ground:=.phase },{ on:=3,ground:=.phase }],guard:=none }] false)
def Ja (S E Y:TypeId):Code :=
 (Code.region 0 #[{ dst:=some 2,op:=.box S (.tmp 0),type:=0,pos:= "iter.go:50",after:=#[],guard:=none },{ dst:=some 4,op:=.assign (.const (.slice none 0 0)),type:=S,pos:= "iter.go:50",after:=#[],guard:=none }] false).seq
  (((Code.region 1 #[{ dst:=some 6,op:=.move (.tmp 1),type:=Y,pos:= "iter.go:51",after:=#[],guard:=none }] false).seq (.block 0 (.rangeFunc (.tmp 6) #[7] (Le E) (TF S E)))).seq
   ((Code.region 4 #[{ dst:=some 12,op:=.load S (.tmp 2),type:=S,pos:= "iter.go:54",after:=#[],guard:=none },{ dst:=some 4,op:=.assign (.tmp 12),type:=S,pos:= "iter.go:54",after:=#[{ on:=0,ground:=.data },{ on:=0,ground:=.phase }],guard:=none }] false).seq .ret))
section
variable {P:Program} {g gf:FuncId} {fn:Func} {S E Y:TypeId} {T:Type} {val:T→Value} {bytes:Nat} {z:Value} {lb:Array Value} {w:World} {N:Nat} {Sx:List T→Prop}
set_option maxHeartbeats 2000000 in
theorem vQ (hfn:P.funcs[g]?=some fn) (hb:fn.body=some (Ja S E Y)) (hn:fn.ntmps=13) (hr:fn.results=#[.tmp 4]) [ab P gf] [bq P S E 1] [cV P E z 1 bytes] [bY P E z] [iU P E T (fun x=>[val x]) 1] [aG P S false] [dP P S 1]
  (hone:∀ x,(val x).oneCell'=true) (hNb:N*bytes≤140737488355328) (hN:N≤9223372036854775807)
  (hseq:∀ w1,Below w.heap.size w w1→SeqStopsK Fence.wide 4 P gf lb (fun x:T=>#[val x]) (On w.heap.size) Sx (fun _=>True) N w1) :
  Calls P g #[.slice none 0 0,.func (.func gf) #[] lb] w fun e w'=>∃ A c xs,Sx xs∧(xs=[]→A=none∧c=0)∧e=.returned (.slice A xs.length c)∧Own [] w w' [.row A xs.length c E 1 (xs.flatMap fun x=>[val x])]:=by
 have hnm:∀ (A:Option Addr) (k c B:Nat) (cs:List Value) (v:List Value),vL [.row A k c E 1 cs,.blk B S v]:=fun A k c B cs v r hr b es q e=>by
  subst e
  rcases List.mem_cons.1 hr with h|h
  ·cases h
  ·cases List.mem_singleton.1 h
 refine (callsIn_wide (n:=5)).1 (callsIn_of_wp_marks hfn hb trivial ?_ rfl)
 rw [hn]
 have ha0:=vN 13 [.slice none 0 0,.func (.func gf) #[] lb] (Nat.le_of_ble_eq_true rfl)
 generalize hact:({ tmps:=[Value.slice none 0 0,.func (.func gf) #[] lb].toArray++Array.replicate (13-[Value.slice none 0 0,.func (.func gf) #[] lb].toArray.size) Go.undef,defers:=[] }:Act)=a0 at ha0
 have hd0:a0.defers=[]:=by rw [← hact]
 unfold Ja
 refine wpIn_seq (wpIn_region_lit ((show IL P Fence.wide 5 13 _ _ [] _ (inits [.slice none 0 0,.func (.func gf) #[] lb]) w from ?_) a0 ha0 hd0))
 refine aJ (fun _=>trivial) rfl (fun c h=>by cases h) rfl ?_
 refine lT (v:=.slice none 0 0) rfl rfl rfl (Own.start [] w) fun gB w1 hM1=>?_
 refine aJ (fun _=>trivial) rfl (fun c h=>by cases h) rfl ?_
 refine aH (x:=.const (.slice none 0 0)) rfl rfl ?_
 refine fD fun a1 ha1 hd1=>?_
 refine wpIn_seq (wpIn_seq (wpIn_region_lit ((show IL P Fence.wide 5 13 _ _ [] _ _ w1 from ?_) a1 ha1 hd1)))
 refine aJ (fun _=>trivial) rfl (fun c h=>by cases h) rfl ?_
 refine aH (x:=.tmp 1) (v:=.func (.func gf) #[] lb) rfl rfl ?_
 refine fD fun a2 ha2 hd2=>?_
 have hev6:a2.eval (.tmp 6)=.func (.func gf) #[] lb:=by rw [ha2.eval];rfl
 have hM1':Own [] w w1 [.row none 0 0 E 1 [],.blk gB S [.slice none 0 0]]:=hM1.nil E 1
 have hB1:=hM1.below
 refine wpIn_block ?_
 refine wpIn_rangeFunc_ownH (F:=Fence.wide) (n:=5) (w:=w1) rfl vj (gf:=gf) (lb:=lb) hev6 trivial (fun args w=>aM inferInstance args w) (hseq w1 hB1)
  (fun h k=>h.trans k) (fun W l o o' hl ho hc hwk=>⟨belowK_b (w:=w1) hB1.size W l o o' hl ho hc hwk,walksK_b (w:=w1) W l o o' hl ho hc hwk⟩) (Below.refl _ _) (fun _=>rfl)
  (fun pre W=>∃ x:Option Addr×Nat,Own [] w W [.row x.1 pre.length x.2 E 1 (pre.flatMap fun x=>[val x]),.blk gB S [.slice x.1 pre.length x.2]]∧(pre=[]→x.1=none∧x.2=0))
  (fun _ _ _=>False)
  (DA hM1.size (fun (pre:List T) (x:Option Addr×Nat)=>[.row x.1 pre.length x.2 E 1 (pre.flatMap fun x=>[val x]),.blk gB S [.slice x.1 pre.length x.2]]) _ (fun s x=>hnm _ _ _ _ _ _))
  (fun _ _ _ _ _ hs _ _=>hs)
  ⟨(none,0),hM1',fun _=>⟨rfl,rfl⟩⟩
  (fun x a' _=>∃ f,vM 13 a' f∧a'.defers=[]∧f 2=.pointer (some ⟨gB,0,none⟩)∧f 5=val x)
  (fun x a' u X Z row hs hg hrw=>hs)
  ?assign ?body ?done ?stop
 case assign =>
  rintro l pre x W K ⟨⟨A,c⟩,hI,hnil⟩ hK
  have hIs:vM 13 { tmps:=((#[7]:Array Tmp).zip #[val x]).foldl (fun t (p,v)=>t.setIfInBounds p v) a2.tmps,defers:=[] } (cw (cH (cH (cH (inits [.slice none 0 0,.func (.func gf) #[] lb]) (some 2) (.pointer (some ⟨gB,0,none⟩))) (some 4) (.slice none 0 0)) (some 6) (.func (.func gf) #[] lb)) 7 (val x)):=by
   have:=(ha2.put (some 7) (val x) rfl).1
   have e:((#[7]:Array Tmp).zip #[val x]).foldl (fun t (p,v)=>t.setIfInBounds p v) a2.tmps=a2.tmps.setIfInBounds 7 (val x):=by
    rw [← Array.foldl_toList,Array.toList_zip]
    rfl
   rw [e]
   exact ⟨this.size,this.get⟩
  have hF:=Own.sa hI.N2
  refine wpIn_region_lit ((show IL P (Fence.wide.inRound l) _ 13 _ _ [] _ _ W from ?_) _ hIs rfl)
  refine aJ (d7 l) rfl (fun c h=>by cases h) rfl ?_
  refine aH (x:=.tmp 7) (v:=val x) rfl rfl ?_
  refine fD fun a3 ha3 hd3=>?_
  have hk:=j8 hI (hnm _ _ _ _ _ _) hF
  exact hK a3 W (hk.2 _) hk.1 ⟨(A,c),hI,hnil⟩ ⟨_,ha3,hd3,rfl,rfl⟩
 case body =>
  rintro l pre x a' W hl ⟨r,hr'⟩ ⟨⟨A,c⟩,hI,hnil⟩ ⟨f,ha,hd,h2,h5⟩ hlen
  dsimp only at hI hnil
  have hF:=Own.sa hI.N2
  refine wpIn_block (wpIn_region_lit ((show IL P (Fence.wide.inRound l) _ 13 _ _ [] _ f W from ?_) a' ha hd))
  refine aJ (d7 l) rfl (fun c h=>by cases h) rfl ?_
  refine dt (j:=0) rfl h2 rfl hF (.tail _ (.head _)) rfl ?_
  refine aJ (d7 l) rfl (fun c h=>by cases h) rfl ?_
  refine aH (x:=.tmp 5) (v:=val x) rfl (show cH f (some 8) _ 5=_ from h5) ?_
  refine aJ (d7 l) rfl (fun c h=>by cases h) rfl ?_
  refine ou (v0:=val x) (d0:=[val x]) rfl rfl (Nat.le_of_ble_eq_true rfl) hF (TE (hone x)) rfl fun A1 c1 w2 hM2=>?_
  refine aJ (d7 l) rfl (fun c h=>by cases h) rfl ?_
  refine mD (enc:=fun x=>[val x]) (L:=pre) (M:=[x]) (l':=fun A2 c2=>[.row A1 1 c1 E 1 [val x],.row A2 (pre.length+1) c2 E 1 ((pre++[x]).flatMap fun x=>[val x]),.blk gB S [.slice A pre.length c]]) rfl rfl rfl hM2 (fun A2 c2=>.tail .head) ⟨rfl⟩ (hM2.rd (.head _)) ⟨by simp⟩ xj ?_ fun A2 c2 w3 hM3=>?_
  ·exact Nat.le_trans (Nat.mul_le_mul_right _ (show pre.length+1≤N by omega)) hNb
  refine aJ (d7 l) rfl (fun c h=>by cases h) rfl ?_
  refine fh (g:=gB) (j:=0) (v:=.slice A2 (pre.length+1) c2) (l':=[.row A1 1 c1 E 1 [val x],.row A2 (pre.length+1) c2 E 1 ((pre++[x]).flatMap fun x=>[val x]),.blk gB S [.slice A2 (pre.length+1) c2]]) rfl h2 rfl rfl rfl hM3 (.tail (.tail .head)) Nat.zero_lt_one fun w4 hM4=>?_
  refine fD fun a3 ha3 hd3=>?_
  have hM5:=hM4.tl
  have hk:=j8 hI (hnm _ _ _ _ _ _) hM5
  refine ⟨hk.2 _,hk.1,(A2,c2),?_,fun h=>by simp at h⟩
  have:=Own.Ay hI hM5
  simpa using this
 case done =>
  rintro D xs W hD hS ⟨⟨A,c⟩,hM,hnil⟩ hK
  dsimp only at hM hnil
  have ha3:vM 13 { a2 with defers:={ target:=.collected D,args:=#[] }::a2.defers } _:=⟨ha2.size,ha2.get⟩
  refine wpIn_seq (wpIn_region_lit ((show IL P Fence.wide 5 13 _ _ ({ target:=.collected D,args:=#[] }::a2.defers) _ _ W from ?_) _ ha3 rfl))
  refine aJ (fun _=>trivial) rfl (fun c h=>by cases h) rfl ?_
  refine dt (j:=0) (g:=gB) rfl rfl rfl hM (.tail _ (.head _)) rfl ?_
  refine aJ (fun _=>trivial) rfl (fun c h=>by cases h) rfl ?_
  refine aH (x:=.tmp 12) (v:=.slice A xs.length c) rfl rfl ?_
  refine fD fun a4 ha4 hd4=>?_
  refine wpIn_ret ?_
  show LeavesInM Fence.wide 5 P fn a4.tmps _ a4.defers .returning W
  rw [hd4,hd2]
  refine ⟨by simp,.inl ⟨_,_,rfl,run_takeDeferred hK,?_⟩⟩
  refine ⟨_,results_tmp hr _ _ _,A,c,xs,hS,hnil,?_,?_⟩
  ·rw [ha4.get]
   rfl
  ·have hM':Own [] w W [.row A xs.length c E 1 (xs.flatMap fun x=>[val x])]:=hM.sub (by simp)
   refine hM'.turn (grownBy_putObj' W D _) fun k e=>?_
   cases e
   refine ⟨Nat.le_trans hM1.size hD,fun r hm hk=>?_⟩
   obtain ⟨o,ho,hc⟩:=hM.cells (hnm _ _ _ _ _ _) (List.mem_of_mem_head? (by rw [List.mem_singleton.1 hm];rfl)) hk
   rw [hK] at ho
   cases ho
   cases hc
 case stop =>
  rintro D c pre W _ _ h _
  exact h.elim
end
end R
namespace R
section
variable {F:List Nat} {W w w':World} {l:List bX}
theorem Own.adZ {B:Nat} {t:TypeId} {cs cs':List Value} (h:Own F W w (l++[.blk B t cs])) (hg:w.grownBy w' (some B)) (hb:w'.heap[B]?=some (.cells cs'.toArray t (0,0))):Own F W w' (l++[.blk B t cs']):=by
 have hk:∀ c,fQ (l++[.blk B t c])=fQ l++[B]:=fun c=>by simp [fQ,bX.key]
 have hnd:(fQ l++[B]).Nodup:=by rw [← hk cs];exact h.nodup
 have hB:=h.own _ (List.mem_append_right _ (.head _)) B rfl
 refine ⟨hg.os.trans h.os,hg.tape.trans h.tape,hg.output.trans h.output,Nat.le_trans h.size hg.size,h.ir hg (fun k e=>by cases e;exact hB),fun x hx=>?_,fun x hx k e=>?_,(by have:=hk cs';unfold fQ at this;rw [this];exact hnd)⟩
 ·rcases List.mem_append.1 hx with hx|hx
  ·refine (h.ok x (List.mem_append_left _ hx)).kC hg fun k e1 e2=>?_
   cases e2
   exact (List.nodup_append.1 hnd).2.2 _ (List.mem_filterMap.2 ⟨x,hx,e1⟩) _ (.head _) rfl
  ·cases List.mem_singleton.1 hx
   exact hb
 ·rcases List.mem_append.1 hx with hx|hx
  ·exact h.own x (List.mem_append_left _ hx) k e
  ·cases List.mem_singleton.1 hx
   cases e
   exact hB
end
section
variable {P:Program} {Fe:Fence} {n m:Nat} {a:Act} {f:Fr} {o:Oper} {w:World} {ops:Array Oper} {Q:Exit→Act→World→Prop} {D:List Deferred} {rest:List Oper} {listed:Array Bool} {fuel:Nat}
theorem Oz (hF:∀ g,Fe.fn g) (hC:∀ g args w R,Calls P g args w R→CallsIn Fe (m-1) P g args w R) (hm:1≤m) (ha:vM n a f) {K:Value→World→Prop} {next:Act→World→Prop} (h:WO P (bn P) o f w K) (hnd:∀ c,o.op≠.defer c) (hK:∀ v w',K v w'→next (a.put o.dst v) w'):o.wpIn Fe m P a w next Q:=by
 refine ⟨fun g _=>hF g,?_⟩
 rw [Oper.semAt_eq _ _ _ hnd,ha.eval]
 unfold WO at h
 generalize (execOp (ev f) o).run P w=r at *
 cases r with
 | halt x w'=>exact h.elim
 | ok x w' =>
  cases x with
  | value v=>exact hK _ _ h
  | skip=>exact hK _ _ h
  | enter g args =>
   rw [Oper.uponIn_enter]
   refine ⟨fun _=>hm,(hC _ _ _ _ h).mono fun e w'' h'=>?_⟩
   obtain ⟨v,rfl,hk⟩:=h'
   exact hK _ _ hk
  | _=>exact (show False from h).elim
theorem Yr (hF:∀ g,Fe.fn g) (hC:∀ g args w R,Calls P g args w R→CallsIn Fe (m-1) P g args w R) (hm:1≤m) (hg:o.guard=none) (hnd:∀ c,o.op≠.defer c) (hd:fx n o.dst=true) (h:WO P (bn P) o f w fun v w'=>IL P Fe m n ops Q D rest (cH f o.dst v) w'):IL P Fe m n ops Q D (o::rest) f w:=fun _ ha hD =>
 wpListIn_plain hg fun _ hK=>Oz hF hC hm ha h hnd fun v _ hk=>hK _ _ (hk _ (ha.put o.dst v hd).1 ((ha.put o.dst v hd).2.trans hD))
def AL (P:Program) (Fe:Fence) (m n:Nat) (ops:Array Oper) (Q:Exit→Act→World→Prop) (D:List Deferred) (fuel:Nat) (listed:Array Bool) (f:Fr) (w:World):Prop:=∀ a,vM n a f→a.defers=D→wpAnyIn Fe m P .any ops Q fuel listed a w
theorem TJ (hr:Region.ready .any ops listed=[]) (h:∀ a,vM n a f→a.defers=D→Q .normal a w):AL P Fe m n ops Q D fuel listed f w:=fun a ha hd=>wpAnyIn_done hr (h a ha hd) _
def AO (P:Program) (Fe:Fence) (m n:Nat) (ops:Array Oper) (Q:Exit→Act→World→Prop) (D:List Deferred) (fuel:Nat) (listed:Array Bool) (f:Fr) (w:World) (i:Nat):Prop:=∃ o,ops[i]?=some o∧o.guard=none∧(∀ c,o.op≠.defer c)∧fx n o.dst=true∧WO P (bn P) o f w fun v w'=>AL P Fe m n ops Q D fuel (listed.setIfInBounds i true) (cH f o.dst v) w'
theorem ji {rs:List Nat} (hF:∀ g,Fe.fn g) (hC:∀ g args w R,Calls P g args w R→CallsIn Fe (m-1) P g args w R) (hm:1≤m) (hr:Region.ready .any ops listed=rs) (hne:rs≠[]) (h:∀ i∈rs,AO P Fe m n ops Q D fuel listed f w i):AL P Fe m n ops Q D (fuel+1) listed f w:=fun a ha hD =>
 wpAnyIn_all hr hne fun i hi=>by
  obtain ⟨o,ho,hg,hnd,hd,hw⟩:=h i hi
  unfold wpOpIn
  rw [ho]
  simp only [Region.wanted,hg,if_true]
  exact Oz hF hC hm ha hw hnd fun v w' hk=>hk _ (ha.put o.dst v hd).1 ((ha.put o.dst v hd).2.trans hD)
end
theorem GN {P:Program} {k:Nat} (l:Nat):∀ g args w R,Calls P g args w R→CallsIn (Fence.wide.inRound l) k P g args w R:=fun _ _ _ _ h=>CallsIn.inRound l (callsIn_wide.2 h)
def nG (x:List UInt8):ByteArray:=qJ (bs x) (bs [10])
abbrev AK (x:List UInt8):List Value:=[.string (nG x)]
instance aa1:cV Tryz.prog 9 (.string ⟨#[]⟩) 1 16:=⟨by kernel_rfl,rfl,by decide⟩
instance aa2:bY Tryz.prog 9 (.string ⟨#[]⟩):=⟨fun w=>by kernel_rfl⟩
instance acL:cA AK 1:=⟨fun _=>rfl,fun x v hv=>by cases List.mem_singleton.1 hv;rfl,by decide⟩
def sg:Array Oper:=#[{ dst:=some 8,op:=.load 176 (.tmp 3),type:=176,pos:= "token.go:20",after:=#[],guard:=none },{ dst:=some 9,op:=.move (.tmp 4),type:=9,pos:= "token.go:20",after:=#[],guard:=none },{ dst:=some 10,op:=.call { callee:=.value (.func 140),args:=#[.tmp 9,.const (.string { data:=#[10] })],argTypes:=#[9,9] },type:=9,pos:= "token.go:20",after:=#[{ on:=1,ground:=.data }],guard:=none },
 { dst:=some 11,op:=.buildSlice 176 1 #[(0,.tmp 10)],type:=176,pos:= "token.go:20",after:=#[{ on:=2,ground:=.data }],guard:=none },{ dst:=some 12,op:=.call { callee:=.builtin .append,args:=#[.tmp 8,.tmp 11],argTypes:=#[176,176] },type:=176,pos:= "token.go:20",after:=#[{ on:=0,ground:=.data },{ on:=3,ground:=.data },{ on:=2,ground:=.chain }],guard:=none },
 { dst:=none,op:=.store 176 (.tmp 3) (.tmp 12),type:=0,pos:= "token.go:20",after:=#[{ on:=4,ground:=.data },{ on:=4,ground:=.chain },{ on:=0,ground:=.phase },{ on:=1,ground:=.phase },{ on:=2,ground:=.phase },{ on:=3,ground:=.phase },{ on:=4,ground:=.phase }],guard:=none }]
set_option maxRecDepth 20000 in
set_option maxHeartbeats 2000000 in
theorem GP {Q:Exit→Act→World→Prop} {l:Nat} {f:Fr} {gO:Nat} {A:Option Addr} {c:Nat} {pre:List (List UInt8)} {x:List UInt8} {F:List Nat} {W w:World} {rest:List bX}
  (hn:pre.length<1000000) (hx:x.length≤1000000) (h3:f 3=.pointer (some ⟨gO,0,none⟩)) (h4:f 4=.string (bs x))
  (hM:Own F W w (.row A pre.length c 9 1 (pre.flatMap AK)::.blk gO 176 [.slice A pre.length c]::rest))
  (hQ:∀ a w' A' c',Own F W w' (.row A' (pre.length+1) c' 9 1 ((pre++[x]).flatMap AK)::.blk gO 176 [.slice A' (pre.length+1) c']::rest)→Q .normal a w') :
  ∀ a,vM 14 a f→a.defers=[]→(Code.region 4 sg true).wpIn (Fence.wide.inRound l) 3 Tryz.prog Q a w:=by
 have hwf:=d7 l
 have hwc:∀ g args w R,Calls Tryz.prog g args w R→CallsIn (Fence.wide.inRound l) (3-1) Tryz.prog g args w R:=GN l
 have t4:∀ (f':Fr) (w':World) (A1:Option Addr) (c1:Nat),f' 3=.pointer (some ⟨gO,0,none⟩)→f' 8=.slice A pre.length c→f' 11=.slice A1 1 c1 →
   Own F W w' (.row A1 1 c1 9 1 (AK x)::.row A pre.length c 9 1 (pre.flatMap AK)::.blk gO 176 [.slice A pre.length c]::rest) →
   AL Tryz.prog (Fence.wide.inRound l) 3 14 sg Q [] 2 #[true,true,true,true,false,false] f' w':=fun f' w' A1 c1 h3 h8 h11 hM'=>by
  refine ji (rs:=[4]) hwf hwc vj wx vj fun i hi=>?_
  cases List.mem_singleton.1 hi
  refine ⟨_,rfl,rfl,(fun c h=>by cases h),rfl,?_⟩
  haveI:iU Tryz.prog 9 (List UInt8) AK 1:={}
  refine mD (enc:=AK) (L:=pre) (M:=[x]) (l':=fun A2 c2=>.row A1 1 c1 9 1 (AK x)::.row A2 (pre.length+1) c2 9 1 ((pre++[x]).flatMap AK)::.blk gO 176 [.slice A pre.length c]::rest) rfl h8 h11 hM' (fun A2 c2=>.tail .head) ⟨rfl⟩ (hM'.rd (.head _)) ⟨by simp⟩ xj xj fun A2 c2 w3 hM3=>?_
  refine ji (rs:=[5]) hwf hwc vj wx vj fun i hi=>?_
  cases List.mem_singleton.1 hi
  refine ⟨_,rfl,rfl,(fun c h=>by cases h),rfl,?_⟩
  refine fh (g:=gO) (j:=0) (v:=.slice A2 (pre.length+1) c2) (l':=.row A1 1 c1 9 1 (AK x)::.row A2 (pre.length+1) c2 9 1 ((pre++[x]).flatMap AK)::.blk gO 176 [.slice A2 (pre.length+1) c2]::rest) rfl h3 rfl rfl rfl hM3 (.tail (.tail .head)) Nat.zero_lt_one fun w4 hM4=>?_
  exact TJ wx fun a _ _=>hQ a w4 A2 c2 hM4.tl
 have load:∀ (f':Fr) (w':World) (L:List bX) (K:Value→World→Prop),f' 3=.pointer (some ⟨gO,0,none⟩)→Own F W w' L→.blk gO 176 [.slice A pre.length c]∈L→K (.slice A pre.length c) w'→WO Tryz.prog (bn Tryz.prog) { dst:=some 8,op:=.load 176 (.tmp 3),type:=176,pos:= "token.go:20",after:=#[],guard:=none } f' w' K:=fun f' w' L K h3 hM hm hk=>dt (j:=0) rfl h3 rfl hM hm rfl hk
 have b3:∀ (f':Fr) (w':World) (K:Value→World→Prop),f' 10=.string (nG x)→Own F W w' (.row A pre.length c 9 1 (pre.flatMap AK)::.blk gO 176 [.slice A pre.length c]::rest) →
   (∀ A1 c1 w',Own F W w' (.row A1 1 c1 9 1 (AK x)::.row A pre.length c 9 1 (pre.flatMap AK)::.blk gO 176 [.slice A pre.length c]::rest)→K (.slice A1 1 c1) w')→WO Tryz.prog (bn Tryz.prog) { dst:=some 11,op:=.buildSlice 176 1 #[(0,.tmp 10)],type:=176,pos:= "token.go:20",after:=#[{ on:=2,ground:=.data }],guard:=none } f' w' K:=fun f' w' K h10 hM hk =>
  ou (v0:=.string (nG x)) (d0:=AK x) rfl h10 (Nat.le_of_ble_eq_true rfl) hM rfl rfl hk
 have c2:∀ (f':Fr) (w':World) (K:Value→World→Prop),f' 9=.string (bs x)→K (.string (nG x)) w'→WO Tryz.prog (bn Tryz.prog) { dst:=some 10,op:=.call { callee:=.value (.func 140),args:=#[.tmp 9,.const (.string { data:=#[10] })],argTypes:=#[9,9] },type:=9,pos:= "token.go:20",after:=#[{ on:=1,ground:=.data }],guard:=none } f' w' K:=fun f' w' K h9 hk=>by
  refine ar (v0:=.string (bs x)) (v1:=.string (bs [10])) rfl rfl h9 rfl ((AJ (bs x) (bs [10]) (by show (bs x).size≤_;rw [fk];exact hx) (by show (bs [10]).size≤_;rw [fk];decide) w').mono ?_)
  rintro _ w'' ⟨rfl,rfl⟩
  exact ⟨_,rfl,hk⟩
 intro a ha hd
 refine wpIn_region_any wq ((show AL Tryz.prog (Fence.wide.inRound l) 3 14 sg Q [] 6 #[false,false,false,false,false,false] f w.drew from ?_) a ha hd)
 have hMd:Own F W w.drew _:=hM.drew
 refine ji (rs:=[0,1]) hwf hwc vj wx vj fun i hi=>?_
 rcases List.mem_cons.1 hi with rfl|hi
 ·refine ⟨_,rfl,rfl,(fun c h=>by cases h),rfl,load _ _ _ _ h3 hMd (.tail _ (.head _)) ?_⟩
  refine ji (rs:=[1]) hwf hwc vj wx vj fun i hi=>?_
  cases List.mem_singleton.1 hi
  refine ⟨_,rfl,rfl,(fun c h=>by cases h),rfl,aH (x:=.tmp 4) (v:=.string (bs x)) rfl h4 ?_⟩
  refine ji (rs:=[2]) hwf hwc vj wx vj fun i hi=>?_
  cases List.mem_singleton.1 hi
  refine ⟨_,rfl,rfl,(fun c h=>by cases h),rfl,c2 _ _ _ rfl ?_⟩
  refine ji (rs:=[3]) hwf hwc vj wx vj fun i hi=>?_
  cases List.mem_singleton.1 hi
  refine ⟨_,rfl,rfl,(fun c h=>by cases h),rfl,b3 _ _ _ rfl hMd fun A1 c1 w' hM'=>?_⟩
  exact t4 _ _ A1 c1 h3 rfl rfl hM'
 ·cases List.mem_singleton.1 hi
  refine ⟨_,rfl,rfl,(fun c h=>by cases h),rfl,aH (x:=.tmp 4) (v:=.string (bs x)) rfl h4 ?_⟩
  refine ji (rs:=[0,2]) hwf hwc vj wx vj fun i hi=>?_
  rcases List.mem_cons.1 hi with rfl|hi
  ·refine ⟨_,rfl,rfl,(fun c h=>by cases h),rfl,load _ _ _ _ h3 hMd (.tail _ (.head _)) ?_⟩
   refine ji (rs:=[2]) hwf hwc vj wx vj fun i hi=>?_
   cases List.mem_singleton.1 hi
   refine ⟨_,rfl,rfl,(fun c h=>by cases h),rfl,c2 _ _ _ rfl ?_⟩
   refine ji (rs:=[3]) hwf hwc vj wx vj fun i hi=>?_
   cases List.mem_singleton.1 hi
   refine ⟨_,rfl,rfl,(fun c h=>by cases h),rfl,b3 _ _ _ rfl hMd fun A1 c1 w' hM'=>?_⟩
   exact t4 _ _ A1 c1 h3 rfl rfl hM'
  ·cases List.mem_singleton.1 hi
   refine ⟨_,rfl,rfl,(fun c h=>by cases h),rfl,c2 _ _ _ rfl ?_⟩
   refine ji (rs:=[0,3]) hwf hwc vj wx vj fun i hi=>?_
   rcases List.mem_cons.1 hi with rfl|hi
   ·refine ⟨_,rfl,rfl,(fun c h=>by cases h),rfl,load _ _ _ _ h3 hMd (.tail _ (.head _)) ?_⟩
    refine ji (rs:=[3]) hwf hwc vj wx vj fun i hi=>?_
    cases List.mem_singleton.1 hi
    refine ⟨_,rfl,rfl,(fun c h=>by cases h),rfl,b3 _ _ _ rfl hMd fun A1 c1 w' hM'=>?_⟩
    exact t4 _ _ A1 c1 h3 rfl rfl hM'
   ·cases List.mem_singleton.1 hi
    refine ⟨_,rfl,rfl,(fun c h=>by cases h),rfl,b3 _ _ _ rfl hMd fun A1 c1 w' hM'=>?_⟩
    refine ji (rs:=[0]) hwf hwc vj wx vj fun i hi=>?_
    cases List.mem_singleton.1 hi
    refine ⟨_,rfl,rfl,(fun c h=>by cases h),rfl,load _ _ _ _ h3 hM' (.tail _ (.tail _ (.head _))) ?_⟩
    exact t4 _ _ A1 c1 h3 rfl rfl hM'
end R
end Go.Proofs.YtlmabdegojeheaaGreatDoor
