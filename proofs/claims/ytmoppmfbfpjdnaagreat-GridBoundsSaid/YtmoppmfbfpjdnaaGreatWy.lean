/- Points and lines of the grid, ways in the plane, as values of their types. -/
import Derived.Test.YtmoppmfbfpjdnaaGreatSp
namespace Go.Proofs.YtmoppmfbfpjdnaaGreat
open Go.RowKit
open R (In64 InU64 lo64 nth)

structure Pt where
  x : Int
  y : Int
  deriving DecidableEq, Inhabited
def cPt (x : Pt) : List Value := [.int .i64 x.x, .int .i64 x.y]
instance encc_Pt : R.EncC cPt 2 := ⟨fun _ => rfl, by simp [cPt, Value.oneCell'], by decide⟩
instance enct_Pt : R.EncT Tryz.prog 28 Pt cPt 2 := {}
instance iss_Pt (a b : Int) : R.Iss cPt [.int .i64 a, .int .i64 b] [⟨a, b⟩] := ⟨rfl⟩
instance iso_Pt (a b : Int) : R.Iso cPt [.int .i64 a, .int .i64 b] ⟨a, b⟩ := ⟨rfl⟩
instance eqt_Pt : R.EqT Tryz.prog 28 Pt cPt := R.eqT_of (ls := [some .i64, some .i64]) (by kernel_rfl) (by kernel_rfl) (by kernel_rfl) (fun _ => ⟨rfl, rfl, trivial⟩) (fun a b h => by cases a; cases b; simpa [cPt] using h)
structure Sgm where
  a : Pt
  b : Pt
  deriving DecidableEq, Inhabited
def cSgm (s : Sgm) : List Value := cPt s.a ++ cPt s.b
instance encc_Sgm : R.EncC cSgm 4 := ⟨fun _ => rfl, by simp [cSgm, cPt, Value.oneCell'], by decide⟩
instance enct_Sgm : R.EncT Tryz.prog 71 Sgm cSgm 4 := {}
structure Wy where
  x : Sg
  y : Sg
def cWy (v : Wy) : List Value := cS v.x ++ cS v.y
theorem cWy_one (v : Wy) : ∀ z ∈ cWy v, z.oneCell' = true := by simp [cWy, cS, cW, wcs, Value.oneCell']
instance encc_Wy : R.EncC cWy 18 := ⟨fun _ => by simp [cWy, cS, cW, wcs], cWy_one, by decide⟩
instance : Inhabited Wy := ⟨⟨default, default⟩⟩
instance enct_Wy : R.EncT Tryz.prog 100 Wy cWy 18 := {}
section
variable {C : R.CallH} {o : Oper} {f : R.Fr} {F : List Nat} {W0 w : World} {K : Value → World → Prop} {l l' : List R.Res} {t u e : TypeId} {x y z i : Operand} {g : Nat} {s s2 : Sg} {p : Wy} {m : Wd} {b : Bool}
theorem WO_alWy (hop : o.op = .alloc 100) (hM : R.Own F W0 w l) (hk : ∀ g w', R.Own F W0 w' (.blk g 100 (cWy ⟨⟨false, W 0⟩, ⟨false, W 0⟩⟩) :: l) → K (.pointer (some ⟨g, 0, none⟩)) w') : R.WO Tryz.prog C o f w K :=
  R.WO_allocO hop hM (by unfold cWy cS at hk; rw [cW_W W512_pos, wcs_zero] at hk; exact hk)
theorem WO_bdWy (hop : o.op = .build 100 #[(0, x), (1, y)]) (hx : R.ev f x = .agg (cS s).toArray) (hy : R.ev f y = .agg (cS s2).toArray) (hk : K (.agg (cWy ⟨s, s2⟩).toArray) w) : R.WO Tryz.prog C o f w K :=
  R.WO_buildN2 hop hx hy rfl rfl (by rfl) (by (simp only [R.putA, List.getD_cons_zero, List.getD_cons_succ]) <;> rfl) hk
theorem WO_ldYx (hop : o.op = .load t x) (hx : R.ev f x = .pointer (some ⟨g, 0, none⟩)) [R.KindT Tryz.prog t true] [R.SzT Tryz.prog t 9] (hM : R.Own F W0 w l) (hm : .blk g u (cWy p) ∈ l) (hk : K (.agg (cS p.x).toArray) w) : R.WO Tryz.prog C o f w K :=
  R.WO_loadOP (j := 0) (m := 9) (cs := cWy p) hop hx rfl hM hm rfl (by
    have e : List.take 9 (List.drop 0 (cWy p)) = cS p.x := rfl
    rw [e]; exact hk)
theorem WO_ldYy (hop : o.op = .load t x) (hx : R.ev f x = .pointer (some ⟨g, 9, none⟩)) [R.KindT Tryz.prog t true] [R.SzT Tryz.prog t 9] (hM : R.Own F W0 w l) (hm : .blk g u (cWy p) ∈ l) (hk : K (.agg (cS p.y).toArray) w) : R.WO Tryz.prog C o f w K :=
  R.WO_loadOP (j := 9) (m := 9) (cs := cWy p) hop hx rfl hM hm rfl (by
    have e : List.take 9 (List.drop 9 (cWy p)) = cS p.y := rfl
    rw [e]; exact hk)
theorem WO_fvYx (hop : o.op = .field t x 0) (hx : R.ev f x = .agg (cWy p).toArray) [hf : R.FieldV Tryz.prog t 0 0 true 9] (hk : K (.agg (cS p.x).toArray) w) : R.WO Tryz.prog C o f w K := R.WO_fldVA (cs := cWy p) hop hx (show List.take 9 (List.drop 0 (cWy p)) = cS p.x from rfl) hk
theorem WO_fvYy (hop : o.op = .field t x 1) (hx : R.ev f x = .agg (cWy p).toArray) [hf : R.FieldV Tryz.prog t 1 9 true 9] (hk : K (.agg (cS p.y).toArray) w) : R.WO Tryz.prog C o f w K := R.WO_fldVA (cs := cWy p) hop hx (show List.take 9 (List.drop 9 (cWy p)) = cS p.y from rfl) hk
theorem WO_ldGa {p : Sgm} (hop : o.op = .load t x) (hx : R.ev f x = .pointer (some ⟨g, 0, none⟩)) [R.KindT Tryz.prog t true] [R.SzT Tryz.prog t 2] (hM : R.Own F W0 w l) (hm : .blk g u (cSgm p) ∈ l) (hk : K (.agg (cPt p.a).toArray) w) : R.WO Tryz.prog C o f w K :=
  R.WO_loadOP (j := 0) (m := 2) (cs := cSgm p) hop hx rfl hM hm rfl (by
    have e : List.take 2 (List.drop 0 (cSgm p)) = cPt p.a := rfl
    rw [e]; exact hk)
theorem WO_ldGb {p : Sgm} (hop : o.op = .load t x) (hx : R.ev f x = .pointer (some ⟨g, 2, none⟩)) [R.KindT Tryz.prog t true] [R.SzT Tryz.prog t 2] (hM : R.Own F W0 w l) (hm : .blk g u (cSgm p) ∈ l) (hk : K (.agg (cPt p.b).toArray) w) : R.WO Tryz.prog C o f w K :=
  R.WO_loadOP (j := 2) (m := 2) (cs := cSgm p) hop hx rfl hM hm rfl (by
    have e : List.take 2 (List.drop 2 (cSgm p)) = cPt p.b := rfl
    rw [e]; exact hk)
end
end Go.Proofs.YtmoppmfbfpjdnaaGreat
