/- WholeTurned: parts of its proof (Ew). -/
import Derived.Test.YtlmabdegojeheaaGreatDoorEtEx
import Derived.Test.YtlmabdegojeheaaGreatDoorProg
namespace Go.Proofs.YtlmabdegojeheaaGreatDoor
open R
namespace E
noncomputable def mkT (l:List Func):Nat→Tr Func→Tr Func:=List.rec (motive:=fun _=>Nat→Tr Func→Tr Func) (fun _ t=>t) (fun f _ ih i t=>dE (path i) t (some f) fun t'=>ih (Nat.succ i) t') l
theorem IM:∀ (l:List Func) (i:Nat) (t:Tr Func) (k:Nat),at_ (mkT l i t) k=if i≤k∧k<i+l.length then l[k-i]? else at_ t k
 | [],i,t,k=>by
  rw [if_neg (fun h=>Nat.lt_irrefl _ (Nat.lt_of_lt_of_le h.2 h.1))]
  rfl
 | f::l,i,t,k=>by
  have e:mkT (f::l) i t=mkT l (i+1) (dL t i (some f)):=jt _ _ _ _
  rw [e,IM l (i+1),cg,List.length_cons]
  by_cases c:k=i
  ·subst c
   rw [if_neg (by omega),if_pos rfl,if_pos (by omega),Nat.sub_self]
   rfl
  ·rw [if_neg c]
   by_cases d:i+1≤k∧k<i+1+l.length
   ·rw [if_pos d,if_pos (by omega),show k-i=(k-(i+1))+1 by omega]
    rfl
   ·rw [if_neg d,if_neg (by omega)]
noncomputable def fnT:Tr Func:=mkT Tryz.prog.funcs.toList 0 .e
noncomputable def Tc (g:Nat):Option Func:=jc (path g) fnT
theorem Td {g:Nat} {fn:Func} (h:Tc g=some fn):Tryz.prog.funcs[g]?=some fn:=by
 have h1:=IM Tryz.prog.funcs.toList 0 .e g
 rw [show at_ (mkT Tryz.prog.funcs.toList 0 .e) g=some fn from h] at h1
 split at h1
 ·rw [h1]
  simp
 ·rw [FC] at h1
  cases h1
noncomputable def runT (g:Nat) (vs:List V) (h:H) (nx:Nat):HR:=Cy Tryz.prog Tc (vo IK) 200 g vs h nx
noncomputable def okT (r:HR):Bool:=match r with|some (.b true,_,_)=>true|_=>false
theorem KF:okT (runT 6 [] .e 1000)=true:=by kernel_rfl
end E
end Go.Proofs.YtlmabdegojeheaaGreatDoor
