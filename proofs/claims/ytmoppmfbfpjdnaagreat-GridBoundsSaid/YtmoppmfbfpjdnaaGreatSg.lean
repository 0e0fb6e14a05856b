/- Numbers with a sign, and fractions, as values of their types: loaded, stored, built, compared. -/
import Derived.Test.YtmoppmfbfpjdnaaGreatWGo
import Derived.Laws.CopyRow
namespace Go.Proofs.YtmoppmfbfpjdnaaGreat
open Go.RowKit
open R (In64 InU64 lo64 nth)

structure Sg where
  neg : Bool
  mag : Wd
theorem Sg.ext_iff {a b : Sg} : a = b ↔ a.neg = b.neg ∧ a.mag = b.mag := by
  cases a; cases b; simp
instance : DecidableEq Sg := fun a b => decidable_of_iff (a.neg = b.neg ∧ a.mag = b.mag) Sg.ext_iff.symm
instance : Inhabited Sg := ⟨⟨false, W 0⟩⟩
structure Rt where
  num : Sg
  den : Wd
theorem Rt.ext_iff {a b : Rt} : a = b ↔ a.num = b.num ∧ a.den = b.den := by
  cases a; cases b; simp
instance : DecidableEq Rt := fun a b => decidable_of_iff (a.num = b.num ∧ a.den = b.den) Rt.ext_iff.symm
instance : Inhabited Rt := ⟨⟨default, W 0⟩⟩
def cS (x : Sg) : List Value := .bool x.neg :: cW x.mag
def cR (x : Rt) : List Value := cS x.num ++ cW x.den
theorem cS_one (x : Sg) : ∀ v ∈ cS x, v.oneCell' = true := by simp [cS, cW, wcs, Value.oneCell']
theorem cR_one (x : Rt) : ∀ v ∈ cR x, v.oneCell' = true := by simp [cR, cS, cW, wcs, Value.oneCell']
instance encc_S : R.EncC cS 9 := ⟨fun _ => rfl, cS_one, by decide⟩
instance encc_R : R.EncC cR 17 := ⟨fun _ => by simp [cR, cS, cW, wcs], cR_one, by decide⟩
theorem cS_inj {a b : Sg} (h : cS a = cS b) : a = b := by
  have h1 : Value.bool a.neg = .bool b.neg ∧ cW a.mag = cW b.mag := by simpa [cS] using h
  exact Sg.ext_iff.2 ⟨by injection h1.1, cW_inj h1.2⟩
theorem cR_inj {a b : Rt} (h : cR a = cR b) : a = b := by
  have h1 := List.append_inj h rfl
  exact Rt.ext_iff.2 ⟨cS_inj h1.1, cW_inj h1.2⟩
instance eqt_S : R.EqT Tryz.prog 46 Sg cS := R.eqT_of (ls := [none, some .u64, some .u64, some .u64, some .u64, some .u64, some .u64, some .u64, some .u64]) (by kernel_rfl) (by kernel_rfl) (by kernel_rfl)
  (fun _ => ⟨rfl, rfl, rfl, rfl, rfl, rfl, rfl, rfl, trivial⟩) (fun _ _ => cS_inj)
instance eqt_R : R.EqT Tryz.prog 48 Rt cR := R.eqT_of (ls := [none, some .u64, some .u64, some .u64, some .u64, some .u64, some .u64, some .u64, some .u64, some .u64, some .u64, some .u64, some .u64, some .u64, some .u64, some .u64, some .u64]) (by kernel_rfl) (by kernel_rfl) (by kernel_rfl)
  (fun _ => ⟨rfl, rfl, rfl, rfl, rfl, rfl, rfl, rfl, rfl, rfl, rfl, rfl, rfl, rfl, rfl, rfl, trivial⟩) (fun _ _ => cR_inj)
section
variable {C : R.CallH} {o : Oper} {f : R.Fr} {F : List Nat} {W0 w : World} {K : Value → World → Prop} {l l' : List R.Res} {t u e : TypeId} {x y i : Operand} {g : Nat} {s : Sg} {r : Rt} {m : Wd} {b : Bool}
theorem WO_alS (hop : o.op = .alloc 46) (hM : R.Own F W0 w l) (hk : ∀ g w', R.Own F W0 w' (.blk g 46 (cS ⟨false, W 0⟩) :: l) → K (.pointer (some ⟨g, 0, none⟩)) w') : R.WO Tryz.prog C o f w K :=
  R.WO_allocO hop hM (by unfold cS at hk; rw [cW_W W512_pos, wcs_zero] at hk; exact hk)
theorem WO_alR (hop : o.op = .alloc 48) (hM : R.Own F W0 w l) (hk : ∀ g w', R.Own F W0 w' (.blk g 48 (cR ⟨⟨false, W 0⟩, W 0⟩) :: l) → K (.pointer (some ⟨g, 0, none⟩)) w') : R.WO Tryz.prog C o f w K :=
  R.WO_allocO hop hM (by unfold cR cS at hk; rw [cW_W W512_pos, wcs_zero] at hk; exact hk)
theorem WO_bdS2 (hop : o.op = .build 46 #[(0, x), (1, y)]) (hx : R.ev f x = .bool b) (hy : R.ev f y = .agg (cW m).toArray) (hk : K (.agg (cS ⟨b, m⟩).toArray) w) : R.WO Tryz.prog C o f w K :=
  R.WO_buildN2 hop hx hy rfl rfl (by rfl) (by (simp only [R.putA, List.getD_cons_zero, List.getD_cons_succ]) <;> rfl) hk
theorem WO_bdS1 (hop : o.op = .build 46 #[(1, y)]) (hy : R.ev f y = .agg (cW m).toArray) (hk : K (.agg (cS ⟨false, m⟩).toArray) w) : R.WO Tryz.prog C o f w K :=
  R.WO_buildN1 hop hy rfl (by rfl) (by (simp only [R.putA, List.getD_cons_zero, List.getD_cons_succ]) <;> rfl) hk
theorem WO_bdS0 (hop : o.op = .build 46 #[]) (hk : K (.agg (cS ⟨false, W 0⟩).toArray) w) : R.WO Tryz.prog C o f w K := by
  unfold cS at hk
  rw [cW_W W512_pos, wcs_zero] at hk
  exact R.WO_buildN0 hop (by rfl) rfl hk
theorem WO_bdR2 (hop : o.op = .build 48 #[(0, x), (1, y)]) (hx : R.ev f x = .agg (cS s).toArray) (hy : R.ev f y = .agg (cW m).toArray) (hk : K (.agg (cR ⟨s, m⟩).toArray) w) : R.WO Tryz.prog C o f w K :=
  R.WO_buildN2 hop hx hy rfl rfl (by rfl) (by (simp only [R.putA, List.getD_cons_zero, List.getD_cons_succ]) <;> rfl) hk
theorem WO_bdR0 (hop : o.op = .build 48 #[]) (hk : K (.agg (cR ⟨⟨false, W 0⟩, W 0⟩).toArray) w) : R.WO Tryz.prog C o f w K := by
  unfold cR cS at hk
  rw [cW_W W512_pos, wcs_zero] at hk
  exact R.WO_buildN0 hop (by rfl) rfl hk
theorem WO_ldSm (hop : o.op = .load t x) (hx : R.ev f x = .pointer (some ⟨g, 1, none⟩)) [R.KindT Tryz.prog t true] [R.SzT Tryz.prog t 8] (hM : R.Own F W0 w l) (hm : .blk g u (cS s) ∈ l) (hk : K (.agg (cW s.mag).toArray) w) : R.WO Tryz.prog C o f w K :=
  R.WO_loadOP (j := 1) (m := 8) (cs := cS s) hop hx rfl hM hm rfl (by
    have e : List.take 8 (List.drop 1 (cS s)) = cW s.mag := rfl
    rw [e]; exact hk)
theorem WO_ldRm (hop : o.op = .load t x) (hx : R.ev f x = .pointer (some ⟨g, 1, none⟩)) [R.KindT Tryz.prog t true] [R.SzT Tryz.prog t 8] (hM : R.Own F W0 w l) (hm : .blk g u (cR r) ∈ l) (hk : K (.agg (cW r.num.mag).toArray) w) : R.WO Tryz.prog C o f w K :=
  R.WO_loadOP (j := 1) (m := 8) (cs := cR r) hop hx rfl hM hm rfl (by
    have e : List.take 8 (List.drop 1 (cR r)) = cW r.num.mag := rfl
    rw [e]; exact hk)
theorem WO_ldRn (hop : o.op = .load t x) (hx : R.ev f x = .pointer (some ⟨g, 0, none⟩)) [R.KindT Tryz.prog t true] [R.SzT Tryz.prog t 9] (hM : R.Own F W0 w l) (hm : .blk g u (cR r) ∈ l) (hk : K (.agg (cS r.num).toArray) w) : R.WO Tryz.prog C o f w K :=
  R.WO_loadOP (j := 0) (m := 9) (cs := cR r) hop hx rfl hM hm rfl (by
    have e : List.take 9 (List.drop 0 (cR r)) = cS r.num := rfl
    rw [e]; exact hk)
theorem WO_ldRd (hop : o.op = .load t x) (hx : R.ev f x = .pointer (some ⟨g, 9, none⟩)) [R.KindT Tryz.prog t true] [R.SzT Tryz.prog t 8] (hM : R.Own F W0 w l) (hm : .blk g u (cR r) ∈ l) (hk : K (.agg (cW r.den).toArray) w) : R.WO Tryz.prog C o f w K :=
  R.WO_loadOP (j := 9) (m := 8) (cs := cR r) hop hx rfl hM hm rfl (by
    have e : List.take 8 (List.drop 9 (cR r)) = cW r.den := rfl
    rw [e]; exact hk)
theorem WO_ldS0 (hop : o.op = .load t x) (hx : R.ev f x = .pointer (some ⟨g, 1, none⟩)) [R.KindT Tryz.prog t false] (hM : R.Own F W0 w l) (hm : .blk g u (cS s) ∈ l) (h : K (.int .u64 (wd s.mag.n 0 : Nat)) w) : R.WO Tryz.prog C o f w K :=
  R.WO_loadO (j := 1) hop hx rfl hM hm rfl h
theorem WO_ldS7 (hop : o.op = .load t x) (hx : R.ev f x = .pointer (some ⟨g, 8, none⟩)) [R.KindT Tryz.prog t false] (hM : R.Own F W0 w l) (hm : .blk g u (cS s) ∈ l) (h : K (.int .u64 (wd s.mag.n 7 : Nat)) w) : R.WO Tryz.prog C o f w K :=
  R.WO_loadO (j := 8) hop hx rfl hM hm rfl h
theorem WO_stSn (hop : o.op = .store t x y) (hx : R.ev f x = .pointer (some ⟨g, 0, none⟩)) (hy : R.ev f y = .bool b) [R.SzT Tryz.prog t 1] (hM : R.Own F W0 w l) (hu : R.Upd l (.blk g u (cS s)) (.blk g u (cS ⟨b, s.mag⟩)) l') (hk : ∀ w', R.Own F W0 w' l' → K undef w') : R.WO Tryz.prog C o f w K :=
  R.WO_storeO (j := 0) hop hx hy rfl rfl hM hu (by show 0 < 9; decide) hk
end
theorem R.WO_storeP {P : Program} {C : R.CallH} {o : Oper} {f : R.Fr} {F : List Nat} {W0 w : World} {K : Value → World → Prop} {l l' : List R.Res} {t u : TypeId} {x y : Operand} {g j m : Nat} {cs ds : List Value} (hop : o.op = .store t x y) (hx : R.ev f x = .pointer (some ⟨g, j, none⟩)) (hy : R.ev f y = .agg ds.toArray) [hs : R.SzT P t m] (hM : R.Own F W0 w l) (hu : R.Upd l (.blk g u cs) (.blk g u (cs.take j ++ ds ++ cs.drop (j + ds.length))) l') (hm : ds.length = m) (hn : j + ds.length ≤ cs.length) (h1 : ∀ v ∈ ds, v.oneCell' = true) (hk : ∀ w', R.Own F W0 w' l' → K undef w') : R.WO P C o f w K := by
  have h := run_storeCells_at P g j u ds 0 cs.toArray w (hM.ok _ hu.old) (by simpa using hn) h1
  have h2 : (storeVar t ⟨g, j, none⟩ (.agg ds.toArray)).run P w = .ok () (w.setRow g (cs.take j ++ ds ++ cs.drop (j + ds.length)).toArray) := by
    have hi : (P.info? t).map (·.size) = some m := hs.h
    cases hq : P.info? t with
    | none => simp [hq] at hi
    | some i =>
      have hs : ds.length = i.size := by simp [hq] at hi; omega
      simp only [Nat.add_zero] at h
      simp [storeVar, sizeOf, typeInfo, hq, Value.cells, hs]
      simpa [hs] using h
  refine R.WO_do ?_ (hk _ (hM.setRow hu))
  simp [execOp, hop, hx, hy, Instr.storeAt, Instr.sureAddr, h2]
section
variable {C : R.CallH} {o : Oper} {f : R.Fr} {F : List Nat} {W0 w : World} {K : Value → World → Prop} {l l' : List R.Res} {t u : TypeId} {x y : Operand} {g : Nat} {s : Sg} {r : Rt} {m : Wd}
theorem WO_stSm (hop : o.op = .store t x y) (hx : R.ev f x = .pointer (some ⟨g, 1, none⟩)) (hy : R.ev f y = .agg (cW m).toArray) [R.SzT Tryz.prog t 8] (hM : R.Own F W0 w l) (hu : R.Upd l (.blk g u (cS s)) (.blk g u (cS ⟨s.neg, m⟩)) l') (hk : ∀ w', R.Own F W0 w' l' → K undef w') : R.WO Tryz.prog C o f w K :=
  R.WO_storeP (cs := cS s) hop hx hy hM hu rfl (by show 9 ≤ 9; decide) (cW_one m) hk
theorem WO_fvSm (hop : o.op = .field t x 1) (hx : R.ev f x = .agg (cS s).toArray) [hf : R.FieldV Tryz.prog t 1 1 true 8] (hk : K (.agg (cW s.mag).toArray) w) : R.WO Tryz.prog C o f w K := R.WO_fldVA (cs := cS s) hop hx (show List.take 8 (List.drop 1 (cS s)) = cW s.mag from rfl) hk
theorem WO_fvRn (hop : o.op = .field t x 0) (hx : R.ev f x = .agg (cR r).toArray) [hf : R.FieldV Tryz.prog t 0 0 true 9] (hk : K (.agg (cS r.num).toArray) w) : R.WO Tryz.prog C o f w K := R.WO_fldVA (cs := cR r) hop hx (show List.take 9 (List.drop 0 (cR r)) = cS r.num from rfl) hk
theorem WO_fvRd (hop : o.op = .field t x 1) (hx : R.ev f x = .agg (cR r).toArray) [hf : R.FieldV Tryz.prog t 1 9 true 8] (hk : K (.agg (cW r.den).toArray) w) : R.WO Tryz.prog C o f w K := R.WO_fldVA (cs := cR r) hop hx (show List.take 8 (List.drop 9 (cR r)) = cW r.den from rfl) hk
end
end Go.Proofs.YtmoppmfbfpjdnaaGreat
