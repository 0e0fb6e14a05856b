/- What the laws' arguments are. -/
import Derived.Test.YtegbidklcaccjaaLib
import Derived.Test.YtegbidklcaccjaaOpn
namespace Go.Proofs.Ytegbidklcaccjaa
open Go.RowKit
def GI (_ : World) (n : Int) : Prop := (Lit.int .i64 n).wf = true
def GY (_ : World) (n : Int) : Prop := (Lit.int .u8 n).wf = true
def GB (_ : World) (_ : Bool) : Prop := True
instance opn_I : R.Opn Try.prog 3 Int R.cI GI := R.opn_int (by kernel_rfl) fun _ => rfl
instance opn_Y : R.Opn Try.prog 5 Int R.cY GY := R.opn_int (by kernel_rfl) fun _ => rfl
instance opn_B : R.Opn Try.prog 4 Bool R.cB GB := R.opn_bool (by kernel_rfl)
def GItem (_ : World) (z : Item) : Prop := (Lit.int .i64 z.key).wf = true ∧ (Lit.int .i64 z.at_).wf = true
def GPt (_ : World) (z : Pt) : Prop := (Lit.int .i64 z.x).wf = true ∧ (Lit.int .i64 z.y).wf = true
instance opn_Item : R.Opn Try.prog 72 Item cItem GItem := R.opn_struct2 (o0 := 0) (t0 := 3) (n0 := 1) (o1 := 1) (t1 := 3) (n1 := 1) (by kernel_rfl) (by kernel_rfl) rfl rfl (by kernel_rfl) Item.mk (fun _ _ => rfl) (fun _ _ _ h1 h2 => ⟨h1, h2⟩)
instance opn_Pt : R.Opn Try.prog 145 Pt cPt GPt := R.opn_struct2 (o0 := 0) (t0 := 3) (n0 := 1) (o1 := 1) (t1 := 3) (n1 := 1) (by kernel_rfl) (by kernel_rfl) rfl rfl (by kernel_rfl) Pt.mk (fun _ _ => rfl) (fun _ _ _ h1 h2 => ⟨h1, h2⟩)
instance opn_Is : R.Opn Try.prog 22 (R.Sl Int) R.cSl (R.GSl R.cI 1 GI) := R.opn_slice (e := 3) (by kernel_rfl) (by kernel_rfl)
instance opn_Bs : R.Opn Try.prog 30 (R.Sl Bool) R.cSl (R.GSl R.cB 1 GB) := R.opn_slice (e := 4) (by kernel_rfl) (by kernel_rfl)
instance opn_Ys : R.Opn Try.prog 46 (R.Sl Int) R.cSl (R.GSl R.cY 1 GY) := R.opn_slice (e := 5) (by kernel_rfl) (by kernel_rfl)
instance opn_Items : R.Opn Try.prog 56 (R.Sl Item) R.cSl (R.GSl cItem 2 GItem) := R.opn_slice (e := 72) (by kernel_rfl) (by kernel_rfl)
instance opn_Pts : R.Opn Try.prog 91 (R.Sl Pt) R.cSl (R.GSl cPt 2 GPt) := R.opn_slice (e := 145) (by kernel_rfl) (by kernel_rfl)
structure Arcs23 where
  in_ : R.Sl Item
  out : R.Sl Item
def cArcs23 (x : Arcs23) : List Value := [.slice x.in_.A x.in_.n x.in_.c, .slice x.out.A x.out.n x.out.c]
def GArcs23 (W : World) (z : Arcs23) : Prop := R.GSl cItem 2 GItem W z.in_ ∧ R.GSl cItem 2 GItem W z.out
end Go.Proofs.Ytegbidklcaccjaa
