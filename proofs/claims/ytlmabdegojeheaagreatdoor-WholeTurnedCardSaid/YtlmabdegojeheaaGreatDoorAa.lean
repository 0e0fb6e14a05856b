/- WholeTurned: parts of its proof (Aa). -/
import Derived.KernelRfl
namespace Go.Proofs.YtlmabdegojeheaaGreatDoor
theorem R.zz:True:=⟨⟩
theorem xj {p:Prop} (h:p:=by omega):p:=h
theorem wx {p:Prop} (h:p:=by decide +kernel):p:=h
theorem ww {p:Prop} (h:p:=by assumption):p:=h
theorem wq {p:Prop} (h:p:=by kernel_rfl):p:=h
theorem vj {p:Prop} (h:p:=by decide):p:=h
theorem Zk {p:Prop} (h:p:=by rfl):p:=h
end Go.Proofs.YtlmabdegojeheaaGreatDoor
