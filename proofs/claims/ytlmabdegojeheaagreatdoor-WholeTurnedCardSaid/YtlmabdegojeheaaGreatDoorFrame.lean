/- WholeTurned: parts of its proof (Frame). -/
import Derived.Test.YtlmabdegojeheaaGreatDoorLo
import Derived.Test.YtlmabdegojeheaaGreatDoorEng
import Derived.ProofKit
import Derived.OpenShut
import Derived.Carry
namespace Go.Proofs.YtlmabdegojeheaaGreatDoor
open R
section
open Go.ChangeShapes Go.WideShapes Go.ChangeAt Go.RowKit
theorem Ab:ownKnob Tryz.prog.godebug=none:=by kernel_rfl
section
variable {H:Type} {enc:TypeId×Value→H} {P:Program}
theorem x5 (hl:laidOutB P=true) {W W':World} (hb:Below W.heap.size W W') {sp:Nat→Bool}:∀ {ts:List TypeId} {vs:List Value} {ds:List (DataW H)} {ps:List MemPlace},
  DataW.TrodAll enc P W 0 (fun _=>true) true ts vs ds ps→(ts.all fun t=>P.readableRec t&&decide (t<P.types.size))=true→(∀ p∈ps,p.block<W.heap.size)→(∀ p∈ps,sp p.block=true)→DataW.TrodAll enc P W' 0 sp true ts vs ds ps
 | [],_,_,_,h,_,_,_=>by
  obtain ⟨rfl,rfl,rfl⟩:=trodAll_nil h
  exact trodAll_mk0
 | t::ts,_,_,_,h,hr,hlt,hs=>by
  obtain ⟨v,vs,d,ds,p,q,rfl,rfl,rfl,h1,h2⟩:=trodAll_cons h
  simp only [List.all_cons,Bool.and_eq_true,decide_eq_true_eq] at hr
  refine trodAll_cons_mk (WideElems.Trod_stays hl hr.1.1 hr.1.2 h1 (fun x hx=>hb.same (hlt x (List.mem_append_left _ hx))) (fun x hx=>hs x (List.mem_append_left _ hx))) ?_
  exact x5 hl hb h2 hr.2 (fun x hx=>hlt x (List.mem_append_right _ hx)) (fun x hx=>hs x (List.mem_append_right _ hx))
theorem ND {f:Func} {s:ChangeSpec} {W W':World} {args:Array Value} {b:Bool} {ds:List (DataW H)} {ps:List MemPlace} {t:TypeId} (hvars:s.vars=[]) (hl:laidOutB P=true)
  (hW:DataW.Whole enc P f.params.toList s.vars false W args.toList ds [] ps)
  (hA:DataW.TrodAll enc P W 0 (fun _=>true) true f.params.toList args.toList ds ps)
  (hr:(f.params.toList.all fun t=>P.readableRec t&&decide (t<P.types.size))=true)
  (hres:f.resultTypes=#[t]) (ht:P.underlying t=some .bool)
  (hfn:s.fn H ds={ results:=[.lit (.bool b)],args:=ds }) (hb:Below W.heap.size W W') :
  s.post enc P f false true false false W args (.bool b) W':=by
 have hlt:∀ p∈ps,p.block<W.heap.size:=fun p hp=>hW.lt p hp
 have hfn':s.fn H (ds++[])={ results:=[.lit (.bool b)],args:=ds }:=by rw [List.append_nil];exact hfn
 have hstay:∀ sp:Nat→Bool,(∀ p∈ps,sp p.block=true)→DataW.TrodAll enc P W' 0 sp true f.params.toList args.toList (s.fn H (ds++[])).args ps:=fun sp hs=>by
  rw [hfn']
  exact x5 hl hb hA hr hlt hs
 have hone:(Value.bool b).resultList f.resultTypes.size=[.bool b]:=by rw [hres];rfl
 have hres':∀ (B:Nat) (sp:Nat→Bool) (hd:Bool),DataW.TrodAll enc P W' B sp hd f.resultTypes.toList ((Value.bool b).resultList f.resultTypes.size) (s.fn H (ds++[])).results []:=fun B sp hd=>by
  rw [hfn',hone,hres]
  exact trodAll_mk1 (shut_bool ht _)
 have hv:∀ sp:Nat→Bool,DataW.TrodVars enc P W' sp s.vars (s.fn H (ds++[])).vars []:=fun sp=>by
  rw [hfn',hvars]
  rfl
 refine ⟨ds,[],ps,[],ps,[],hW,hres' _ _ _,hstay _ (fun p hp=>by simpa using hlt p hp),hv _,World.keptBut_mono (fun p hp=>⟨hp,Or.inr (Or.inl hp)⟩) (hb.frame (·∈ps)),fun h=>by cases h⟩
end
end
end Go.Proofs.YtlmabdegojeheaaGreatDoor
