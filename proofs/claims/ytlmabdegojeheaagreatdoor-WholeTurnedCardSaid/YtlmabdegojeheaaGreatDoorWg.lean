/- WholeTurned: parts of its proof (Wg). -/
import Derived.Test.YtlmabdegojeheaaGreatDoorCards
import Derived.JoinedOf
import Derived.KernelRfl
namespace Go.Proofs.YtlmabdegojeheaaGreatDoor
section
open Go
set_option maxRecDepth 100000
theorem aes:Rows.wholeTurnedRow.wfByText (OpenSpec.ofChange Rows.wholeTurnedSpec)=true:=by kernel_rfl
theorem aet:Tryz.pinned.checked.prog.mainIs=some (true,"c54fe0e0cfb1af532db8ae543884682b2fc46276787cc2c1b74d8f26cd918fbd".toList):=by kernel_rfl
theorem aeu:Tryz.prog.funcNamed "snicket/snickettop.WholeTurned"=some 3:=by kernel_rfl
theorem aev:false=Tryz.pinned.checked.prog.looks []:=by kernel_rfl
theorem aew:([22,5].all fun u=>!Tryz.prog.wantsStandIn u)=true:=by kernel_rfl
theorem abj:(Tryz.prog.funcs.toList.all fun f=>!f.goes)=true:=by kernel_rfl
theorem U3:false=Rows.wholeTurnedRow.goesBy Tryz.pinned.checked.prog:=by
 have h:∀ g:Nat,(Tryz.prog.funcs[g]?).any Func.goes=false:=by
  intro g
  cases hg:Tryz.prog.funcs[g]? with
  | none=>rfl
  | some fn =>
   have hm:fn∈Tryz.prog.funcs.toList:=by
    rw [Array.getElem?_eq_some_iff] at hg
    obtain ⟨hlt,rfl⟩:=hg
    simp
   have:=List.all_eq_true.1 abj fn hm
   simpa using this
 have h2:Tryz.prog.funcs.any Func.goes=false:=by
  rw [← Array.any_toList,List.any_eq_false]
  intro x hx
  have:=List.all_eq_true.1 abj x hx
  simpa using this
 have h3:∀ f,Tryz.prog.goes f=false:=by
  intro f
  unfold Program.goes
  simp only [h,h2,Bool.and_false,Bool.or_false]
  simp
 show false=(Tryz.prog.goesAt _ _)
 unfold Program.goesAt Program.goesFrom
 simp only [Rows.wholeTurnedRow]
 cases Tryz.prog.funcNamed "snicket/snickettop.WholeTurned" with
 | none=>rfl
 | some f=>simp [h3]
end
end Go.Proofs.YtlmabdegojeheaaGreatDoor
