/- Arguments that are numbers with a sign, or fractions. -/
import Derived.Test.YtebgjcginmgoaaaSg
import Derived.Test.YtebgjcginmgoaaaOpn
import Derived.Test.YtebgjcginmgoaaaOpen
namespace Go.Proofs.Ytebgjcginmgoaaa
open Go.ChangeShapes Go.WideShapes Go.ChangeAt Go.RowKit
open R (In64 InU64 lo64 nth)

instance opn_wd : R.Opn Try.prog 31 Wd cW (fun _ _ => True) := ⟨fun hx => by
  obtain ⟨n, hn, he⟩ := trod_wide hx
  exact ⟨⟨n, hn⟩, he, trivial⟩⟩
instance opn_bl : R.Opn Try.prog 4 Bool R.cB (fun _ _ => True) := R.opn_bool (by kernel_rfl)
instance opn_sg : R.Opn Try.prog 33 Sg cS (fun _ _ => True) :=
  R.opn_struct2 (t0 := 4) (n0 := 1) (o0 := 0) (t1 := 31) (n1 := 8) (o1 := 1) (e0 := R.cB) (e1 := cW) (by kernel_rfl) (by kernel_rfl) rfl rfl (by kernel_rfl) Sg.mk (fun _ _ => by simp [cS, R.cB]) (fun _ _ _ _ _ => trivial)
instance opn_rt : R.Opn Try.prog 39 Rt cR (fun _ _ => True) :=
  R.opn_struct2 (t0 := 33) (n0 := 9) (o0 := 0) (t1 := 31) (n1 := 8) (o1 := 9) (e0 := cS) (e1 := cW) (by kernel_rfl) (by kernel_rfl) rfl rfl (by kernel_rfl) Rt.mk (fun _ _ => by simp [cR]) (fun _ _ _ _ _ => trivial)
instance opn_i64 : R.Opn Try.prog 3 Int R.cI (fun _ n => (Lit.int .i64 n).wf = true) := R.opn_int (by kernel_rfl) (fun _ => rfl)
end Go.Proofs.Ytebgjcginmgoaaa
