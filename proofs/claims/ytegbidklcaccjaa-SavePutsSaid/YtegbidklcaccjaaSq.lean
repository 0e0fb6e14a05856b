/- Package save: what an argument session is. -/
import Derived.Test.YtegbidklcaccjaaSu
namespace Go.Proofs.Ytegbidklcaccjaa
open Go.RowKit
open R (In64 InU64 lo64 nth)
instance opn_Bn : R.Opn Try.prog 106 Bn cBn GBn := R.opn_struct3 (o0 := 0) (t0 := 3) (n0 := 1) (o1 := 1) (t1 := 3) (n1 := 1) (o2 := 2) (t2 := 4) (n2 := 1) (by kernel_rfl) (by kernel_rfl) (by kernel_rfl) rfl rfl rfl (by kernel_rfl) Bn.mk (fun _ _ _ => rfl) (fun _ _ _ _ h1 h2 _ => ⟨h1, h2⟩)
instance opn_Bns : R.Opn Try.prog 40 (R.Sl Bn) R.cSl (R.GSl cBn 3 GBn) := R.opn_slice (e := 106) (by kernel_rfl) (by kernel_rfl)
structure Rls where
  bn : R.Sl Bn
  pol : Int
def cRls (x : Rls) : List Value := [.slice x.bn.A x.bn.n x.bn.c, .int .i64 x.pol]
def GRls (W : World) (z : Rls) : Prop := R.GSl cBn 3 GBn W z.bn ∧ (Lit.int .i64 z.pol).wf = true
instance opn_Rls : R.Opn Try.prog 42 Rls cRls GRls := R.opn_struct2 (o0 := 0) (t0 := 40) (n0 := 1) (o1 := 1) (t1 := 3) (n1 := 1) (by kernel_rfl) (by kernel_rfl) rfl rfl (by kernel_rfl) Rls.mk (fun _ _ => rfl) (fun _ _ _ h1 h2 => ⟨h1, h2⟩)
instance opn_Pln : R.Opn Try.prog 44 Pln cPln GPln := R.opn_struct4 (o0 := 0) (t0 := 3) (n0 := 1) (o1 := 1) (t1 := 39) (n1 := 1) (o2 := 2) (t2 := 42) (n2 := 2) (o3 := 4) (t3 := 22) (n3 := 1) (e2 := cRls) (by kernel_rfl) (by kernel_rfl) (by kernel_rfl) (by kernel_rfl) rfl rfl rfl rfl (by kernel_rfl) (fun a b c d => Pln.mk a b c.bn c.pol d) (fun _ _ _ _ => by simp [cPln, cRls, R.cI, R.cSl]) (fun _ _ _ _ _ h1 h2 h3 h4 => ⟨h1, h2, h3.1, h3.2, h4⟩)
end Go.Proofs.Ytegbidklcaccjaa
