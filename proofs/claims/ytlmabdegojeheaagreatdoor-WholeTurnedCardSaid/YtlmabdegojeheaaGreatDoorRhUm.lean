/- WholeTurned: parts of its proof (Rh Uh Um). -/
import Derived.Test.YtlmabdegojeheaaGreatDoorUdRg
import Derived.Test.YtlmabdegojeheaaGreatDoorEncsWGo
namespace Go.Proofs.YtlmabdegojeheaaGreatDoor
open R Go.RowKit
namespace R
section
variable {P:Program} {n m:Nat} {f:Fr} {w:World}
theorem dI {Q:Exit→Fr→World→Prop} {id:Nat} {l:List Oper} (m:Nat) (h:IL P Fence.wide m n l.toArray (RQ n Q) [] l f w):WC P n Q (.region id l.toArray false) f w:=by
 unfold WC
 exact fun a ha=>(wpIn_wide (n:=m)).1 (wpIn_region_lit (h a ha.is0 ha.Iy))
theorem dy {Q:Exit→Fr→World→Prop} {ops:Array Oper} (h:Q .normal f w):IL P Fence.wide m n ops (RQ n Q) [] [] f w:=fD fun _ ha hd=>⟨f,⟨ha.size,ha.get,hd⟩,h⟩
theorem qH {Fe:Fence} {o:Oper} {x y:Operand} {ts:Array TypeId} {l:Nat} {R:Ending→World→Prop} {ops:Array Oper} {Q:Exit→Act→World→Prop} {D:List Deferred} {rest:List Oper}
  (hop:o.op=.call { callee:=.value x,args:=#[y],argTypes:=ts }) (hF:∀ g,Fe.fn g) (hg:o.guard=none) (hd:fx n o.dst=true) (hm:1≤m) (hx:ev f x=.func (.yield l) #[] #[]) (hY:YieldAt Fe (m-1) P l #[ev f y] w R)
  (hR:∀ e w',R e w'→∃ v,e=.returned v∧IL P Fe m n ops Q D rest (cH f o.dst v) w'):IL P Fe m n ops Q D (o::rest) f w:=fun a ha hD =>
 wpListIn_plain hg fun K hK=>by
  obtain ⟨fn,tmps,assign,body,hy,hr⟩:=hY
  refine ⟨fun g _=>hF g,?_⟩
  rw [Oper.semAt_eq _ _ _ (by rw [hop];intro c hc;cases hc),ha.eval]
  have e:(execOp (ev f) o).run P w=.ok (.round l fn tmps assign body) w:=by
   rw [← hy]
   simp [execOp,hop,resolve,invoke,hx,Deferred.ofValue]
  rw [e,Oper.uponIn_round]
  refine ⟨fun _=>hm,hr.mono fun e' w' h'=>?_⟩
  obtain ⟨v,rfl,hv⟩:=hR e' w' h'
  exact hK _ _ (hv _ (ha.put o.dst v hd).1 ((ha.put o.dst v hd).2.trans hD))
end
def Ou (S E Y:TypeId):Code :=
 (Code.region 0 #[{ dst:=some 5,op:=.load S (.tmp 1),type:=S,pos:= "iter.go:39",after:=#[],guard:=none },{ dst:=some 6,op:=.call { callee:=.builtin .len,args:=#[.tmp 5],argTypes:=#[S] },type:=3,pos:= "iter.go:39",after:=#[{ on:=0,ground:=.data }],guard:=none },{ dst:=some 7,op:=.move (.const (.int .i64 0)),type:=3,pos:= "iter.go:39",after:=#[],guard:=none }] false).seq
  (.block 0 ((Code.region 1 #[{ dst:=some 8,op:=.binOp .lss 3 (.tmp 7) (.tmp 6) 3,type:=0,pos:= "iter.go:39",after:=#[],guard:=none }] false).seq
   ((Code.cond (.tmp 8) .skip (.exit 0)).seq
    ((Code.block 1 ((Code.region 2 #[{ dst:=some 9,op:=.indexAddr S (.tmp 5) (.tmp 7),type:=0,pos:= "iter.go:39",after:=#[],guard:=none },{ dst:=some 10,op:=.load E (.tmp 9),type:=E,pos:= "iter.go:39",after:=#[{ on:=0,ground:=.data }],guard:=none },{ dst:=some 4,op:=.alloc E,type:=0,pos:= "iter.go:39",after:=#[],guard:=none },{ dst:=none,op:=.store E (.tmp 4) (.tmp 10),type:=0,pos:= "iter.go:39",after:=#[{ on:=2,ground:=.data },{ on:=1,ground:=.data },{ on:=0,ground:=.phase },{ on:=1,ground:=.phase },{ on:=2,ground:=.phase }],guard:=none }] false).seq
     ((Code.region 3 #[{ dst:=some 11,op:=.move (.tmp 0),type:=Y,pos:= "iter.go:40",after:=#[],guard:=none },{ dst:=some 12,op:=.load E (.tmp 4),type:=E,pos:= "iter.go:40",after:=#[],guard:=none },{ dst:=some 13,op:=.call { callee:=.value (.tmp 11),args:=#[.tmp 12],argTypes:=#[E] },type:=4,pos:= "iter.go:40",after:=#[{ on:=0,ground:=.data },{ on:=1,ground:=.data }],guard:=none },{ dst:=some 14,op:=.unOp .not 4 (.tmp 13),type:=4,pos:= "iter.go:40",after:=#[{ on:=2,ground:=.data }],guard:=none }] false).seq
      (Code.cond (.tmp 14) .ret .skip)))).seq
     (Code.region 4 #[{ dst:=some 15,op:=.binOp .add 3 (.tmp 7) (.const (.int .i64 1)) 3,type:=3,pos:= "iter.go:39",after:=#[],guard:=none },{ dst:=some 7,op:=.move (.tmp 15),type:=3,pos:= "iter.go:39",after:=#[{ on:=0,ground:=.data }],guard:=none }] false)))).loop)
section
variable {P:Program} {g:FuncId} {fn:Func} {S E Y:TypeId} {T:Type} {enc:T→List Value} {sz:Nat} {zc:List Value} {w0:World} {A:Option Addr} {c B:Nat} {L:List T}
theorem AH {enc:T→List Value} {sz:Nat} (hl:∀ x,(enc x).length=sz):∀ {L:List T} {k:Nat} {x:T},L[k]?=some x→∀ {j:Nat} {v:Value},(enc x)[j]?=some v→(L.flatMap enc)[k*sz+j]?=some v
 | y::L,0,x,h,j,v,hj=>by
  cases h
  rw [Nat.zero_mul,Nat.zero_add,List.flatMap_cons,List.getElem?_append_left (List.getElem?_eq_some_iff.1 hj).1]
  exact hj
 | y::L,k+1,x,h,j,v,hj=>by
  rw [List.flatMap_cons,List.getElem?_append_right (by rw [hl,Nat.succ_mul];omega),hl,show (k+1)*sz+j-sz=k*sz+j by rw [Nat.succ_mul];omega]
  exact AH hl (L:=L) (by simpa using h) hj
set_option maxHeartbeats 2000000 in
theorem vO (hfn:P.funcs[g]?=some fn) (hb:fn.body=some (Ou S E Y)) (hn:fn.ntmps=16) (hr:fn.results=#[]) [bq P S E sz] [bY P E (.agg zc.toArray)] [aG P E true] [dP P E sz] [aG P S false]
  (hlen:∀ x,(enc x).length=sz) (hone:∀ x,(enc x).all (·.oneCell')=true) (hzl:zc.length=sz) (hp:0<sz) (hL:L.length≤9223372036854775807)
  (hB:w0.cell? ⟨B,0,none⟩=some (.slice A L.length c)) (hBl:B<w0.heap.size) (hI:gn [] w0 A L.length sz (L.flatMap enc)) (w1:World) (hw1:Below w0.heap.size w0 w1) :
  SeqStopsK Fence.wide 4 P g #[.pointer (some ⟨B,0,none⟩)] (fun x:T=>#[.agg (enc x).toArray]) (Oo w0.heap.size) (·=L) (fun _=>True) L.length w1:=by
 intro l J Jx W hW hJ hJx hY h0
 have hWb:Below w0.heap.size w0 W:=hw1.trans (hW.mono hw1.size)
 refine callsIn_wide.2 ?_
 show Calls P g [.func (.yield l) #[] #[],.pointer (some ⟨B,0,none⟩)].toArray W _
 refine aa hfn hb hn (Nat.le_of_ble_eq_true rfl) ?_
 unfold Ou
 refine aU (dI 4 ?_)
 refine aJ (fun _=>trivial) rfl (fun c h=>by cases h) rfl ?_
 refine bu (a:=⟨B,0,none⟩) (v:=.slice A L.length c) rfl rfl ((hWb.cell (p:=⟨B,0,none⟩) hBl).trans hB) ?_
 refine aJ (fun _=>trivial) rfl (fun c h=>by cases h) rfl ?_
 refine vc (A:=A) (n:=L.length) (c:=c) rfl rfl ?_
 refine aJ (fun _=>trivial) rfl (fun c h=>by cases h) rfl ?_
 refine aH (x:=.const (.int .i64 0)) rfl rfl ?_
 refine dy (aI ?_)
 refine cU (au (ι:=Nat) (fun k=>[(0,.func (.yield l) #[] #[]),(5,.slice A L.length c),(6,.int .i64 L.length),(7,.int .i64 k)]) (fun k wr=>k≤L.length∧J (L.take k) wr∧Below w0.heap.size w0 wr∧W.heap.size≤wr.heap.size) (fun k=>L.length-k) ⟨0,⟨rfl,rfl,rfl,rfl,trivial⟩,Nat.zero_le _,h0,hWb,Nat.le_refl _⟩ ?_)
 rintro k f wr ⟨hk,hJk,hbk,hsz⟩
 refine aU (dI 4 ?_)
 refine aJ (fun _=>trivial) rfl (fun c h=>by cases h) rfl ?_
 refine u6 (a:=(k:Int)) (b:=(L.length:Int)) rfl rfl rfl ?_
 refine dy (aI ?_)
 refine aU (dq (p:=(k:Int)<(L.length:Int)) rfl (fun hlt=>d5 (aI ?_)) (fun hlt=>gH ?_))
 ·have hlt':k<L.length:=by omega
  obtain ⟨x,hx⟩:∃ x,L[k]?=some x:=⟨_,List.getElem?_eq_getElem hlt'⟩
  have hA:∃ a,A=some a:=by
   have h1:=hlen x
   obtain ⟨v,hv⟩:∃ v,(enc x)[0]?=some v:=⟨_,List.getElem?_eq_getElem xj⟩
   obtain ⟨a,ha,_⟩:=hI.2 _ v (AH hlen hx hv)
   exact ⟨a,ha⟩
  obtain ⟨a,rfl⟩:=hA
  have hrow:gZ wr (a.add (k*sz)) (enc x):=fun j v hj=>by
   obtain ⟨a',ha',h1,_,hc⟩:=hI.2 _ v (AH hlen hx hj)
   cases ha'
   have:=(hbk.cell (p:=a.add (k*sz+j)) (by rw [ga];exact h1)).trans hc
   rw [jN]
   exact this
  refine aU (cU (aU (dI 4 ?_)))
  refine aJ (fun _=>trivial) rfl (fun c h=>by cases h) rfl ?_
  refine qj (A:=some a) (a:=a) (n:=L.length) (c:=c) (j:=(k:Int)) rfl rfl rfl rfl xj xj ?_
  refine aJ (fun _=>trivial) rfl (fun c h=>by cases h) rfl ?_
  refine bP (m:=sz) (a:=a.add (k*sz)) (cs:=enc x) rfl rfl (hlen x) hrow ?_
  refine aJ (fun _=>trivial) rfl (fun c h=>by cases h) rfl ?_
  refine dO (z:=.agg zc.toArray) rfl (Own.start [] wr) fun gx w2 hM2=>?_
  refine aJ (fun _=>trivial) rfl (fun c h=>by cases h) rfl ?_
  refine iu (g:=gx) (ds:=enc x) rfl rfl rfl hM2 .head (hlen x) (by simpa [Value.cells] using hzl) (hone x) fun w3 hM3=>?_
  refine dy (aI ?_)
  refine aU (dI 4 ?_)
  refine aJ (fun _=>trivial) rfl (fun c h=>by cases h) rfl ?_
  refine aH (x:=.tmp 0) (v:=.func (.yield l) #[] #[]) rfl rfl ?_
  refine aJ (fun _=>trivial) rfl (fun c h=>by cases h) rfl ?_
  refine bP (m:=sz) (a:=⟨gx,0,none⟩) (cs:=enc x) rfl rfl (hlen x) (hM3.rowAt (.head _)) ?_
  have hb3:=hM3.below
  have hJ3:J (L.take k) w3:=hJ _ wr w3 none hJk ⟨hb3.os,hb3.tape,hb3.output,hb3.size,fun j hj _=>hb3.block j hj⟩ (fun r e=>by cases e)
  refine qH rfl (fun _=>trivial) rfl rfl vj rfl (hY _ x w3 hJ3 (by rw [List.length_take];omega)) ?_
  rintro e w4 (⟨rfl,hJ4,hK4⟩|⟨rfl,hJx4⟩)
  ·refine ⟨_,rfl,?_⟩
   refine aJ (fun _=>trivial) rfl (fun c h=>by cases h) rfl ?_
   refine jY (b:=true) rfl rfl ?_
   refine dy (aI ?_)
   refine cM rfl (d5 (iE (aI ?_)))
   refine dI 4 ?_
   refine aJ (fun _=>trivial) rfl (fun c h=>by cases h) rfl ?_
   refine jW (a:=(k:Int)) (b:=1) rfl rfl rfl (by constructor <;> omega) ?_
   refine aJ (fun _=>trivial) rfl (fun c h=>by cases h) rfl ?_
   refine aH (x:=.tmp 15) (v:=.int .i64 ((k:Int)+1)) rfl rfl ?_
   refine dy (aI ?_)
   refine ⟨k+1,⟨rfl,rfl,rfl,rfl,trivial⟩,⟨hlt',?_,?_,?_⟩,by omega⟩
   ·rw [List.take_add_one,hx]
    exact hJ4
   ·exact hbk.trans ((hb3.mono hbk.size).trans hK4.1)
   ·exact Nat.le_trans hsz (Nat.le_trans hb3.size hK4.1.size)
  ·refine ⟨_,rfl,?_⟩
   refine aJ (fun _=>trivial) rfl (fun c h=>by cases h) rfl ?_
   refine jY (b:=false) rfl rfl ?_
   refine dy (aI ?_)
   refine dN rfl (jV (fN (jU (jU (fN (CZ ?_))))))
   exact ⟨_,fun tmps _=>results_none hr tmps P _,⟨_,rfl⟩,.inr ⟨_,trivial,hJx4⟩⟩
 ·obtain rfl:k=L.length:=by omega
  rw [List.take_length] at hJk
  exact fC (fC (gG rfl (xN ⟨_,fun tmps _=>results_none hr tmps P _,⟨_,rfl⟩,.inl ⟨_,rfl,hJk⟩⟩)))
end
end R
theorem Ph (s:Sp) (w:World) (hs:bo s=true):Calls Tryz.prog 70 #[.agg (bF s).toArray] w fun e w'=>e=.returned (.bool false)∧Below w.heap.size w w':=by
 have hM:=R.Own.start [] w
 refine aa (fn:=Tryz.f70) Tryz.func70 rfl Tryz.ntmps70 (Nat.le_of_ble_eq_true rfl) ?_
 (refine ad ?_;(repeat' first|refine And.intro ?_ ?_|intro _);all_goals refine ah.mk ?_)
 rename_i hM
 rw [hs]
 (refine ad ?_;(repeat' first|refine And.intro ?_ ?_|intro _);all_goals refine ah.mk ?_;(all_goals (try (exact ⟨rfl,R.Own.below ww⟩))))
theorem D4 (A:Option Addr) (c g:Nat) (L:List Sp) (w:World) (hA:gn [] w A L.length 26 (L.flatMap bF)) (hb:L.length≤1000000) (hg:w.cell? ⟨g,0,none⟩=some (.slice A L.length c)) (hgl:g<w.heap.size) :
  Calls Tryz.prog 120 #[.func (.func 122) #[] #[.pointer (some ⟨g,0,none⟩)]] w fun e w'=>∃ B c2,e=.returned (.slice B L.length c2)∧R.Own [] w w' [.row B L.length c2 113 26 (L.flatMap bF)]:=by
 have hM:=R.Own.start [] w
 refine aa (fn:=Tryz.f120) Tryz.func120 rfl Tryz.ntmps120 (Nat.le_of_ble_eq_true rfl) ?_
 (refine ad ?_;(repeat' first|refine And.intro ?_ ?_|intro _);all_goals refine ah.mk ?_)
 refine ar rfl rfl vv vv ?_
 refine (iI (P:=Tryz.prog) (T:=Sp) (enc:=bF) (N:=L.length) (Sx:=(·=L)) Tryz.func182 rfl rfl rfl vj xj xj
  (fun w1 hw1=>vO (T:=Sp) (enc:=bF) (L:=L) Tryz.func122 rfl rfl rfl (fun x=>cA.len x) (fun x=>List.all_eq_true.2 fun v hv=>cA.one (enc:=bF) x v hv) rfl vj xj hg hgl hA w1 hw1)).mono ?_
 rintro e w' ⟨B,c2,xs,rfl,h0,rfl,hO⟩
 refine ⟨_,rfl,?_⟩
 (refine ad ?_;(repeat' first|refine And.intro ?_ ?_|intro _);all_goals refine ah.mk ?_)
 exact ⟨B,c2,rfl,hO⟩
theorem G7 (A:Option Addr) (n c:Nat) (w:World):Calls Tryz.prog 73 #[.slice A n c] w fun e w'=>∃ g,e=.returned (.func (.func 122) #[] #[.pointer (some ⟨g,0,none⟩)])∧R.Own [] w w' [.blk g 34 [.slice A n c]]:=by
 have hM:=R.Own.start [] w
 refine aa (fn:=Tryz.f73) Tryz.func73 rfl Tryz.ntmps73 (Nat.le_of_ble_eq_true rfl) ?_
 (refine ad ?_;(repeat' first|refine And.intro ?_ ?_|intro _);all_goals refine ah.mk ?_)
 refine aH (x:=.const .nilFunc) rfl rfl ?_
 (refine ad ?_;(repeat' first|refine And.intro ?_ ?_|intro _);all_goals refine ah.mk ?_)
 rename_i g _ hM
 exact ⟨g,rfl,hM⟩
theorem Pj {a b:Sp} (ha:bo a=true) (hb:bo b=true) (h:¬ d9 b a<0) (hne:a≠b):d9 a b<0 :=
 Classical.byContradiction fun h2=>hne (sH ha hb h2 h)
set_option maxHeartbeats 4000000 in
theorem G8 (A:Option Addr) (c g:Nat) (L:List Sp) (w:World) (hA:gn [] w A L.length 26 (L.flatMap bF)) (hb:L.length≤1000000) (hL:∀ s∈L,bo s=true) (hg:w.cell? ⟨g,0,none⟩=some (.slice A L.length c)) (hgl:g<w.heap.size) :
  Calls Tryz.prog 72 #[.func (.func 122) #[] #[.pointer (some ⟨g,0,none⟩)],.func (.func 74) #[] #[]] w fun e w'=>∃ B c2,∃ D:List Sp,e=.returned (.slice B L.length c2)∧D.Perm L∧(D.Pairwise fun a b=>¬ d9 b a<0)∧R.Own [] w w' [.row B L.length c2 113 26 (D.flatMap bF)]:=by
 have hM:=R.Own.start [] w
 refine aa (fn:=Tryz.f72) Tryz.func72 rfl Tryz.ntmps72 (Nat.le_of_ble_eq_true rfl) ?_
 (refine ad ?_;(repeat' first|refine And.intro ?_ ?_|intro _);all_goals refine ah.mk ?_)
 refine aA rfl rfl vv ?_
 refine (D4 A c g L _ hA hb hg hgl).mono ?_
 rintro _ w2 ⟨B,c2,rfl,hO⟩
 have hM:=hO
 clear hO
 refine ⟨_,rfl,?_⟩
 (refine ad ?_;(repeat' first|refine And.intro ?_ ?_|intro _);all_goals refine ah.mk ?_)
 refine ar rfl rfl vv vv ?_
 refine (UQ (fun s=>bo s=true) d9 (fun x hx=>rn hx) (fun x y z hx hy hz h1 h2=>wN hx hy hz h1 h2) (fun x y z hx hy hz h1 h2=>Fb hx hy hz h1 h2) 74 [] L rfl hL hM xj (fun w' hO x y hx hy=>?_)).mono ?_
 ·exact DW x y w'
 rintro _ w3 ⟨rfl,D,h1,h2,hM⟩
 refine ⟨_,rfl,?_⟩
 (refine ad ?_;(repeat' first|refine And.intro ?_ ?_|intro _);all_goals refine ah.mk ?_)
 exact ⟨B,c2,D,rfl,h1,h2,hM⟩
set_option maxHeartbeats 4000000 in
theorem Pk (A:Option Addr) (n c:Nat) (L:List Sp) (w:World) (hA:gn [] w A n 26 (L.flatMap bF)) (hn:n=L.length) (hb:n≤1000000) (hL:∀ s∈L,bo s=true) :
  Calls Tryz.prog 38 #[.slice A n c] w fun e w'=>∃ B c2,∃ D:List Sp,e=.returned (.tuple #[.slice B D.length c2,.int .i64 0])∧D.length≤n∧(D.Pairwise fun a b=>d9 a b<0)∧(∀ x,x∈D↔x∈L)∧iV w w' B D.length c2 113 26 (D.flatMap bF):=by
 have hM:=R.Own.start [] w
 refine aa (fn:=Tryz.f38) Tryz.func38 rfl Tryz.ntmps38 (Nat.le_of_ble_eq_true rfl) ?_
 (refine ad ?_;(repeat' first|refine And.intro ?_ ?_|intro _);all_goals refine ah.mk ?_)
 refine ar rfl rfl vv vv ?_
 refine (tH A n c L 70 [] (fun _=>false) _ (hM.gi hA) hn xj (fun s w1 hs _=>Ph s w1 (hL s hs))).mono ?_
 rintro _ w2 ⟨rfl,hb2⟩
 have hM:=R.Own.call aj hb2
 refine ⟨_,rfl,?_⟩
 rw [show L.any (fun _=>false)=false by simp]
 (refine ad ?_;(repeat' first|refine And.intro ?_ ?_|intro _);all_goals refine ah.mk ?_)
 refine aA rfl rfl vv ?_
 refine (G7 A n c _).mono ?_
 rintro _ w3 ⟨g,rfl,hO⟩
 have hM:=R.Own.ti aj hO
 clear hO
 simp only [List.nil_append] at hM
 refine ⟨_,rfl,?_⟩
 (refine ad ?_;(repeat' first|refine And.intro ?_ ?_|intro _);all_goals refine ah.mk ?_)
 refine ar rfl rfl vv vv ?_
 have hcell:w3.cell? ⟨g,0,none⟩=some (.slice A L.length c):=by
  have:=cell_of_row _ _ 0 _ _ _ (hM.ok _ (.head _))
  rw [← hn]
  exact this
 have hgl:g<w3.heap.size:=(Array.getElem?_eq_some_iff.1 (hM.ok _ (.head _))).1
 have hI:=hM.gi hA
 rw [hn] at hI
 refine (G8 A c g L _ hI xj hL hcell hgl).mono ?_
 rintro _ w4 ⟨B,c2,D,rfl,h1,h2,hO⟩
 have hM:=R.Own.ti hM hO
 clear hO
 simp only [List.cons_append,List.nil_append] at hM
 refine ⟨_,rfl,?_⟩
 (refine ad ?_;(repeat' first|refine And.intro ?_ ?_|intro _);all_goals refine ah.mk ?_)
 refine aA rfl rfl vv ?_
 refine (G5 D h1.length_eq.symm xj hM.swap).mono ?_
 rintro _ w5 ⟨rfl,hM⟩
 refine ⟨_,rfl,?_⟩
 (refine ad ?_;(repeat' first|refine And.intro ?_ ?_|intro _);all_goals refine ah.mk ?_)
 have hD:∀ x∈D,bo x=true:=fun x hx=>hL x (h1.subset hx)
 refine ⟨B,c2,dd D,rfl,?_,?_,fun x=>by rw [sI,h1.mem_iff],R.Own.gives aj⟩
 ·have:=HM D D.length
  have:=h1.length_eq
  show (ry D D.length).length≤_
  omega
 ·refine (yA (le:=fun a b=>¬ d9 b a<0) h2 (fun a ha b hb h3 h4=>sH (hD a ha) (hD b hb) h4 h3)).imp_of_mem fun {a b} ha hb hab=>?_
  exact Pj (hD a (sI.1 ha)) (hD b (sI.1 hb)) hab.1 hab.2
namespace R
def eY {K T:Type} [DecidableEq K]:List (K×T)→K→Option T
 | [],_=>none
 | p::L,k=>if p.1=k then some p.2 else eY L k
def jj {K T:Type} [DecidableEq K]:List (K×T)→K→T→List (K×T)
 | [],k,v=>[(k,v)]
 | p::L,k,v=>if p.1=k then (k,v)::L else p::jj L k v
section
variable {K T:Type} [DecidableEq K]
theorem yq {L:List (K×T)} {k:K}:eY L k=none↔k∉L.map (·.1):=by
 induction L with
 | nil=>simp [eY]
 | cons p L ih =>
  unfold eY
  split
  ·rename_i h
   simp [h]
  ·rename_i h
   rw [ih,List.map_cons,List.mem_cons]
   exact ⟨fun h1 h2=>h2.elim (fun e=>h e.symm) h1,fun h1 h2=>h1 (.inr h2)⟩
theorem wy (L:List (K×T)) (k q:K) (v:T):eY (jj L k v) q=if q=k then some v else eY L q:=by
 induction L with
 | nil =>
  unfold jj eY
  by_cases h:q=k
  ·rw [if_pos h,if_pos h.symm]
  ·rw [if_neg h,if_neg fun e=>h e.symm]
   rfl
 | cons p L ih =>
  unfold jj
  split
  ·rename_i h
   unfold eY
   by_cases hq:q=k
   ·rw [if_pos hq,if_pos hq.symm]
   ·rw [if_neg hq,if_neg (fun e=>hq e.symm),if_neg (fun e=>hq (by rw [← e,h]))]
  ·rename_i h
   unfold eY
   by_cases hp:p.1=q
   ·rw [if_pos hp,if_pos hp,if_neg fun e=>h (hp.trans e)]
   ·rw [if_neg hp,if_neg hp,ih]
theorem sq (L:List (K×T)) (k:K) (v:T):(jj L k v).map (·.1)=if k∈L.map (·.1) then L.map (·.1) else L.map (·.1)++[k]:=by
 induction L with
 | nil=>simp [jj]
 | cons p L ih =>
  unfold jj
  split
  ·rename_i h
   simp [h]
  ·rename_i h
   rw [List.map_cons,ih,List.map_cons]
   by_cases hm:k∈L.map (·.1)
   ·rw [if_pos hm,if_pos (List.mem_cons_of_mem _ hm)]
   ·rw [if_neg hm,if_neg fun e=>(List.mem_cons.1 e).elim (fun e=>h e.symm) hm]
    rfl
theorem wA {L:List (K×T)} (h:(L.map (·.1)).Nodup) (k:K) (v:T):((jj L k v).map (·.1)).Nodup:=by
 rw [sq]
 split
 ·exact h
 ·rename_i hk
  refine List.nodup_append.2 ⟨h,by simp,fun a ha b hb e=>?_⟩
  rw [List.mem_singleton] at hb
  subst hb
  subst e
  exact hk ha
end
theorem wB {w:World} {b:Nat} {ob ob':Obj} (hb:w.heap[b]?=some ob) (hc:∀ c e z,ob≠.cells c e z) (P:Program):(setObj b ob').run P w=.ok () { w with heap:=w.heap.setIfInBounds b ob' }:=by
 simp only [setObj,Sem.run,hb]
class Bp (P:Program) (kt:TypeId) (K:outParam Type) (encK:outParam (K→List Value)):Prop where
 eq:Tv P kt K encK
 ck:∀ (em:Bool) (k:K) (w:World),(Instr.checkKey em 10000 kt (.agg (encK k).toArray)).run P w=.ok () w
 u:∃ td,P.underlying kt=some td
 st:∀ (k:K),Instr.sameBits 10000 (.agg (encK k).toArray) (.agg (encK k).toArray)=true
structure jF {K T:Type} (encK:K→List Value) (encV:T→Value) (es:Array MapEntry) (clk:Nat) (L:List (K×T)):Prop where
 UD:es.toList.map (fun e=>(e.key,e.val))=L.map fun p=>(Value.agg (encK p.1).toArray,encV p.2)
 nd:(L.map (·.1)).Nodup
 bnd:(es.toList.map (·.born)).Nodup
 born:∀ e∈es.toList,e.born<clk
section
variable {K T:Type} {encK:K→List Value} {encV:T→Value} {P:Program} {kt:TypeId}
theorem pE (encK:K→List Value) (encV:T→Value):jF encK encV #[] 0 []:=⟨rfl,.nil,.nil,fun _ h=>(List.not_mem_nil h).elim⟩
variable [DecidableEq K]
theorem UB [S:Bp P kt K encK] (a b:K) (w:World):(Op.equal kt (.agg (encK a).toArray) (.agg (encK b).toArray)).run P w=.ok (decide (a=b)) w:=by
 obtain ⟨r,h1,h2⟩:=S.eq.h a b 9991 w
 have:r=decide (a=b):=by rw [Bool.eq_iff_iff,h2];simp
 rw [← this]
 exact h1
theorem D9 (td:TypeDesc) (cs:Array Value):∀ (es:List MapEntry) (i:Nat),(∀ e∈es,∃ ds,e.key=.agg ds)→Instr.findNow td (.agg cs) es i=if es=[] then some none else none
 | [],_,_=>rfl
 | e::es,i,h=>by
  obtain ⟨ds,hd⟩:=h e (by simp)
  unfold Instr.findNow
  rw [hd]
  cases td <;> rfl
def oO:List (K×T)→K→Nat→Option (Nat×T)
 | [],_,_=>none
 | p::L,k,i=>if p.1=k then some (i,p.2) else oO L k (i+1)
theorem wC {L:List (K×T)} {k:K}:∀ {i:Nat},(oO L k i).map (·.2)=eY L k:=by
 induction L with
 | nil=>intro i;rfl
 | cons p L ih =>
  intro i
  unfold oO eY
  split
  ·rfl
  ·exact ih
theorem tk [S:Bp P kt K encK] (k:K) (w:World):∀ (L:List (K×T)) (es:List MapEntry) (i:Nat),es.map (fun e=>(e.key,e.val))=L.map (fun p=>(Value.agg (encK p.1).toArray,encV p.2)) →
  (Instr.findAsking kt (.agg (encK k).toArray) es i).run P w=.ok ((oO L k i).map fun r=>(r.1,encV r.2)) w
 | [],es,i,h=>by
  have:es=[]:=List.eq_nil_of_length_eq_zero (by have:=congrArg List.length h;simpa using this)
  subst this
  rfl
 | p::L,[],i,h=>by simp at h
 | p::L,e::es,i,h=>by
  simp only [List.map_cons,List.cons.injEq,Prod.mk.injEq] at h
  obtain ⟨⟨h1,h2⟩,h3⟩:=h
  unfold Instr.findAsking oO
  rw [h1]
  simp only [Sem.run_bind,UB k p.1 w,Result.andThen_ok]
  by_cases hk:p.1=k
  ·rw [if_pos hk,decide_eq_true hk.symm,if_pos rfl,h2]
   rfl
  ·rw [if_neg hk,decide_eq_false fun e=>hk e.symm]
   exact tk k w L es (i+1) h3
theorem iY [S:Bp P kt K encK] {es:Array MapEntry} {clk:Nat} {L:List (K×T)} (h:jF encK encV es clk L) (k:K) (w:World) :
  (Instr.findKey kt (.agg (encK k).toArray) es.toList).run P w=.ok ((oO L k 0).map fun r=>(r.1,encV r.2)) w:=by
 have hagg:∀ e∈es.toList,∃ ds,e.key=.agg ds:=fun e he=>by
  have:(e.key,e.val)∈es.toList.map fun e=>(e.key,e.val):=List.mem_map_of_mem he
  rw [h.UD] at this
  obtain ⟨p,_,hp⟩:=List.mem_map.1 this
  exact ⟨_,(Prod.mk.inj hp).1.symm⟩
 obtain ⟨td,hu⟩:=S.u
 unfold Instr.findKey
 simp only [Sem.run_bind,run_underlying hu,Result.andThen_ok]
 rw [D9 td _ _ _ hagg]
 have hask:=tk (P:=P) (kt:=kt) (encV:=encV) k w L es.toList 0 h.UD
 by_cases he:es.toList=[]
 ·rw [if_pos he]
  rw [he] at hask
  exact hask
 ·rw [if_neg he]
  exact hask
theorem Jk {L:List (K×T)} {k:K}:∀ {i j:Nat} {v:T},oO L k i=some (j,v)→∃ m,j=i+m∧m<L.length∧L[m]?=some (k,v)∧∀ u,jj L k u=L.set m (k,u):=by
 induction L with
 | nil=>intro i j v h;cases h
 | cons p L ih =>
  intro i j v h
  unfold oO at h
  split at h
  ·rename_i hk
   injection h with h
   injection h with h1 h2
   refine ⟨0,by omega,by simp,by rw [← hk,← h2];rfl,fun u=>?_⟩
   unfold jj
   rw [if_pos hk]
   rfl
  ·rename_i hk
   obtain ⟨m,h1,h2,h3,h4⟩:=ih h
   refine ⟨m+1,by omega,by simp only [List.length_cons];omega,h3,fun u=>?_⟩
   unfold jj
   rw [if_neg hk,h4]
   rfl
theorem Lu {L:List (K×T)} {k:K}:∀ {i:Nat},oO L k i=none→eY L k=none∧∀ u,jj L k u=L++[(k,u)]:=by
 induction L with
 | nil=>intro i _;exact ⟨rfl,fun u=>rfl⟩
 | cons p L ih =>
  intro i h
  unfold oO at h
  split at h
  ·cases h
  ·rename_i hk
   obtain ⟨h1,h2⟩:=ih h
   unfold eY jj
   rw [if_neg hk]
   refine ⟨h1,fun u=>?_⟩
   rw [if_neg hk,h2]
   rfl
variable {C:bO} {o:Oper} {f:Fr} {w:World} {Kx:Value→World→Prop} {t e:TypeId} {x y z:Operand} {F:List Nat} {W:World} {l:List bX} {b:Nat} {es:Array MapEntry} {clk:Nat} {L:List (K×T)} {k:K} {v z0:T}
class wD (P:Program) (t:TypeId) (kt e:outParam TypeId):Prop where
 h:P.underlying t=some (.map kt e)
class Ez (P:Program) (e:TypeId) {T:Type} (encV:T→Value) (z:outParam T):Prop where
 h:∀ w,(zeroValue e).run P w=.ok (encV z) w
theorem UC (hop:o.op=.lookup t x y true) [M:wD P t kt e] [S:Bp P kt K encK] [Z:Ez P e encV z0] (hx:ev f x=.map (some b)) (hy:ev f y=.agg (encK k).toArray) (hM:Own F W w l) (hm:.map b es clk∈l) (hI:jF encK encV es clk L)
  (hk:Kx (.tuple #[encV ((eY L k).getD z0),.bool (eY L k).isSome]) w):WO P C o f w Kx:=by
 have hb:w.heap[b]?=some (.map es clk):=hM.ok _ hm
 have hg:(getObj b).run P w=.ok (.map es clk) w:=by simp [getObj,Sem.run,hb]
 refine aO ?_ hk
 simp only [execOp,hop,hx,hy,Instr.lookup,Sem.run_bind,run_underlying M.h,Result.andThen_ok,Sem.run_pure,hg,S.ck,iY hI k w]
 rw [← wC (L:=L) (k:=k) (i:=0)]
 cases hp:oO L k 0 with
 | none=>simp only [Option.map_none,Z.h,Sem.run_bind,Result.andThen_ok,Sem.run_pure];rfl
 | some r=>rfl
theorem YM (hop:o.op=.lookup t x y false) [M:wD P t kt e] [S:Bp P kt K encK] [Z:Ez P e encV z0] (hx:ev f x=.map (some b)) (hy:ev f y=.agg (encK k).toArray) (hM:Own F W w l) (hm:.map b es clk∈l) (hI:jF encK encV es clk L)
  (hk:Kx (encV ((eY L k).getD z0)) w):WO P C o f w Kx:=by
 have hb:w.heap[b]?=some (.map es clk):=hM.ok _ hm
 have hg:(getObj b).run P w=.ok (.map es clk) w:=by simp [getObj,Sem.run,hb]
 refine aO ?_ hk
 simp only [execOp,hop,hx,hy,Instr.lookup,Sem.run_bind,run_underlying M.h,Result.andThen_ok,Sem.run_pure,hg,S.ck,iY hI k w]
 rw [← wC (L:=L) (k:=k) (i:=0)]
 cases hp:oO L k 0 with
 | none=>simp only [Option.map_none,Z.h,Sem.run_bind,Result.andThen_ok,Sem.run_pure];rfl
 | some r=>rfl
theorem Bq (hop:o.op=.lookup t x y false) [M:wD P t kt e] [S:Bp P kt K encK] [Z:Ez P e encV z0] (hx:ev f x=.map (some b)) (hy:ev f y=.agg (encK k).toArray) (hb:w.heap[b]?=some (.map es clk)) (hI:jF encK encV es clk L)
  (hk:Kx (encV ((eY L k).getD z0)) w):WO P C o f w Kx:=by
 have hg:(getObj b).run P w=.ok (.map es clk) w:=by simp [getObj,Sem.run,hb]
 refine aO ?_ hk
 simp only [execOp,hop,hx,hy,Instr.lookup,Sem.run_bind,run_underlying M.h,Result.andThen_ok,Sem.run_pure,hg,S.ck,iY hI k w]
 rw [← wC (L:=L) (k:=k) (i:=0)]
 cases hp:oO L k 0 with
 | none=>simp only [Option.map_none,Z.h,Sem.run_bind,Result.andThen_ok,Sem.run_pure];rfl
 | some r=>rfl
theorem Pq (hI:jF encK encV es clk L) {i:Nat} {v':T} (hp:oO L k 0=some (i,v')) (v:T) (ek:Value) (hek:ek=.agg (encK k).toArray):jF encK encV (es.modify i fun e=>{ e with key:=ek,val:=encV v }) clk (jj L k v):=by
 obtain ⟨m,h1,h2,h3,h4⟩:=Jk hp
 obtain rfl:i=m:=by omega
 have hlen:es.toList.length=L.length:=by have:=congrArg List.length hI.UD;simpa using this
 have hl:(es.modify i fun e=>{ e with key:=ek,val:=encV v }).toList=es.toList.modify i fun e=>{ e with key:=ek,val:=encV v }:=by simp
 refine ⟨?_,wA hI.nd k v,?_,fun e he=>?_⟩
 ·rw [hl,h4,List.map_set,← hI.UD]
  refine List.ext_getElem (by simp) fun j j1 j2=>?_
  have j3:j<es.toList.length:=by simpa using j1
  simp only [List.getElem_map,List.getElem_modify,List.getElem_set]
  by_cases hij:i=j
  ·subst hij
   simp [hek]
  ·simp [hij]
 ·rw [hl]
  have:(es.toList.modify i fun e=>{ e with key:=ek,val:=encV v }).map (·.born)=es.toList.map (·.born):=by
   refine List.ext_getElem (by simp) fun j j1 j2=>?_
   simp only [List.getElem_map,List.getElem_modify]
   split <;> rfl
  rw [this]
  exact hI.bnd
 ·rw [hl] at he
  obtain ⟨j,hj,rfl⟩:=List.getElem_of_mem he
  have j3:j<es.toList.length:=by simpa using hj
  have:=hI.born _ (List.getElem_mem j3)
  rw [List.getElem_modify]
  split
  ·exact this
  ·exact this
theorem Pr (hI:jF encK encV es clk L) (hp:oO L k 0=none) (v:T):jF encK encV (es.push { key:=.agg (encK k).toArray,val:=encV v,born:=clk }) (clk+1) (jj L k v):=by
 obtain ⟨h1,h2⟩:=Lu hp
 refine ⟨?_,wA hI.nd k v,?_,fun e he=>?_⟩
 ·rw [h2,Array.toList_push,List.map_append,List.map_append,hI.UD]
  rfl
 ·rw [Array.toList_push,List.map_append]
  refine List.nodup_append.2 ⟨hI.bnd,by simp,fun a ha b hb e=>?_⟩
  simp only [List.map_cons,List.map_nil,List.mem_singleton] at hb
  obtain ⟨e',he',rfl⟩:=List.mem_map.1 ha
  have:=hI.born e' he'
  omega
 ·rw [Array.toList_push] at he
  rcases List.mem_append.1 he with he|he
  ·have:=hI.born e he
   omega
  ·rw [List.mem_singleton] at he
   subst he
   exact Nat.lt_succ_self _
theorem ue {l':Array MapEntry→Nat→List bX} (hop:o.op=.mapUpdate t x y z) [M:wD P t kt e] [S:Bp P kt K encK] (hx:ev f x=.map (some b)) (hy:ev f y=.agg (encK k).toArray) (hz:ev f z=encV v) (hM:Own F W w l) (hI:jF encK encV es clk L)
  (hl:∀ es' clk',oM l (.map b es clk) (.map b es' clk') (l' es' clk')) (hk:∀ es' clk' w',jF encK encV es' clk' (jj L k v)→Own F W w' (l' es' clk')→Kx undef w'):WO P C o f w Kx:=by
 have hb:w.heap[b]?=some (.map es clk):=hM.ok _ (hl es clk).old
 have hg:(getObj b).run P w=.ok (.map es clk) w:=by simp [getObj,Sem.run,hb]
 have hlt:=(Array.getElem?_eq_some_iff.1 hb).1
 have fin:∀ (es':Array MapEntry) (clk':Nat),jF encK encV es' clk' (jj L k v)→(execOp (ev f) o).run P w=.ok .skip { w with heap:=w.heap.setIfInBounds b (.map es' clk') }→WO P C o f w Kx:=fun es' clk' h1 h2=>by
  refine C4 h2 (hk es' clk' _ h1 (hM.cw (hl es' clk') ⟨rfl,rfl,rfl,by simp,fun i hi hne=>?_⟩ ?_ (.inl rfl)))
  ·show (w.heap.setIfInBounds b _)[i]?=_
   rw [Array.getElem?_setIfInBounds_ne fun e=>hne (by rw [e];rfl)]
  ·show (w.heap.setIfInBounds b _)[b]?=_
   simp [hlt]
 cases hp:oO L k 0 with
 | some r =>
  obtain ⟨i,v'⟩:=r
  obtain ⟨m,h1,h2,h3,h4⟩:=Jk hp
  obtain rfl:i=m:=by omega
  have hlen:es.toList.length=L.length:=by have:=congrArg List.length hI.UD;simpa using this
  have hi:i<es.size:=by simpa using (show i<es.toList.length by omega)
  have hek:(es[i]'hi).key=.agg (encK k).toArray:=by
   have h5:=congrArg (fun l=>l[i]?) hI.UD
   simp only [List.getElem?_map,h3,Option.map_some] at h5
   rw [Array.getElem?_toList,Array.getElem?_eq_getElem hi] at h5
   simp only [Option.map_some,Option.some.injEq,Prod.mk.injEq] at h5
   exact h5.1
  have hst:(Instr.keyThatStays (.agg (encK k).toArray) (.agg (encK k).toArray)).run P w=.ok (.agg (encK k).toArray) w:=by
   unfold Instr.keyThatStays
   rw [if_pos (S.st k)]
   rfl
  refine fin _ _ (Pq hI hp v _ rfl) ?_
  have hset:=wB (ob':=.map (es.modify i fun m=>({ m with key:=.agg (encK k).toArray,val:=encV v }:MapEntry)) clk) hb (fun _ _ _ h=>by cases h) P
  simp only [execOp,hop,hx,hy,hz,Instr.mapUpdate,Sem.run_bind,run_underlying M.h,Result.andThen_ok,hg,S.ck,iY hI k w,hp,Option.map_some,Array.getElem?_eq_getElem hi,hek,Option.getD_some,hst,hset]
  rfl
 | none =>
  refine fin _ _ (Pr hI hp v) ?_
  have hset:=wB (ob':=.map (es.push { key:=.agg (encK k).toArray,val:=encV v,born:=clk }) (clk+1)) hb (fun _ _ _ h=>by cases h) P
  simp only [execOp,hop,hx,hy,hz,Instr.mapUpdate,Sem.run_bind,run_underlying M.h,Result.andThen_ok,hg,S.ck,iY hI k w,hp,Option.map_none,hset]
  rfl
theorem sr (hop:o.op=.makeMap t none) (hM:Own F W w l) (hk:∀ b w',Own F W w' (.map b #[] 0::l)→Kx (.map (some b)) w'):WO P C o f w Kx:=by
 refine pf (v:=.map (some w.heap.size)) (w':=w.alloc (.map #[] 0)) ?_ (hk _ _ (hM.add (World.grownBy_alloc w _ none) (heap_alloc_new w _) (fun k e=>by cases e;exact Nat.le_refl _)))
 simp [execOp,hop,Instr.makeMap]
end
end R
end Go.Proofs.YtlmabdegojeheaaGreatDoor
