/- WholeTurned: parts of its proof (Wg). -/
import Derived.Test.YtlmabdegojeheaaGreatDoorCards
import Derived.JoinedOf
import Derived.KernelRfl
namespace Go.Proofs.YtlmabdegojeheaaGreatDoor
section
open Go
set_option maxRecDepth 100000
theorem abg:(Tryz.prog.funcs.toList.all fun f=>!f.goes)=true:=by kernel_rfl
theorem U1:false=Rows.wholeTurnedRow.goesBy Tryz.pinned.checked.prog:=by
 have h:∀ g:Nat,(Tryz.prog.funcs[g]?).any Func.goes=false:=by
  intro g
  cases hg:Tryz.prog.funcs[g]? with
  | none=>rfl
  | some fn =>
   have hm:fn∈Tryz.prog.funcs.toList:=by
    rw [Array.getElem?_eq_some_iff] at hg
    obtain ⟨hlt,rfl⟩:=hg
    simp
   have:=List.all_eq_true.1 abg fn hm
   simpa using this
 have h2:Tryz.prog.funcs.any Func.goes=false:=by
  rw [← Array.any_toList,List.any_eq_false]
  intro x hx
  have:=List.all_eq_true.1 abg x hx
  simpa using this
 have h3:∀ f,Tryz.prog.goes f=false:=by
  intro f
  unfold Program.goes
  simp only [h,h2,Bool.and_false,Bool.or_false]
  simp
 show false=(Tryz.prog.goesAt _ _)
 unfold Program.goesAt Program.goesFrom
 simp only [Rows.wholeTurnedRow]
 cases Tryz.prog.funcNamed "snicket/snickettop.WholeTurned" with
 | none=>rfl
 | some f=>simp [h3]
end
end Go.Proofs.YtlmabdegojeheaaGreatDoor
