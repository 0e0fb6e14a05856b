/- Points of the plane whose parts are fractions, as values of their type. -/
import Derived.Test.YtmoppmfbfpjdnaaGreatSg
namespace Go.Proofs.YtmoppmfbfpjdnaaGreat
open Go.RowKit
open R (In64 InU64 lo64 nth)

structure Sp where
  x : Sg
  y : Sg
  w : Wd
theorem Sp.ext_iff {a b : Sp} : a = b ↔ a.x = b.x ∧ a.y = b.y ∧ a.w = b.w := by
  cases a; cases b; simp
instance : DecidableEq Sp := fun a b => decidable_of_iff (a.x = b.x ∧ a.y = b.y ∧ a.w = b.w) Sp.ext_iff.symm
instance : Inhabited Sp := ⟨⟨default, default, W 0⟩⟩
def cSp (s : Sp) : List Value := cS s.x ++ (cS s.y ++ cW s.w)
theorem cSp_one (x : Sp) : ∀ v ∈ cSp x, v.oneCell' = true := by simp [cSp, cS, cW, wcs, Value.oneCell']
instance encc_Sp : R.EncC cSp 26 := ⟨fun _ => by simp [cSp, cS, cW, wcs], cSp_one, by decide⟩
instance enct_Sp : R.EncT Tryz.prog 52 Sp cSp 26 := {}
instance enct_W : R.EncT Tryz.prog 44 Wd cW 8 := {}
theorem cSp_inj {a b : Sp} (h : cSp a = cSp b) : a = b := by
  have h1 := List.append_inj h rfl
  have h2 := List.append_inj h1.2 rfl
  exact Sp.ext_iff.2 ⟨cS_inj h1.1, cS_inj h2.1, cW_inj h2.2⟩
instance eqt_Sp : R.EqT Tryz.prog 52 Sp cSp := R.eqT_of (ls := [none, some .u64, some .u64, some .u64, some .u64, some .u64, some .u64, some .u64, some .u64, none, some .u64, some .u64, some .u64, some .u64, some .u64, some .u64, some .u64, some .u64, some .u64, some .u64, some .u64, some .u64, some .u64, some .u64, some .u64, some .u64]) (by kernel_rfl) (by kernel_rfl) (by kernel_rfl)
  (fun _ => ⟨rfl, rfl, rfl, rfl, rfl, rfl, rfl, rfl, rfl, rfl, rfl, rfl, rfl, rfl, rfl, rfl, rfl, rfl, rfl, rfl, rfl, rfl, rfl, rfl, trivial⟩) (fun _ _ => cSp_inj)
section
variable {C : R.CallH} {o : Oper} {f : R.Fr} {F : List Nat} {W0 w : World} {K : Value → World → Prop} {l l' : List R.Res} {t u e : TypeId} {x y z i : Operand} {g : Nat} {s s2 : Sg} {p : Sp} {m : Wd} {b : Bool}
theorem WO_alSp (hop : o.op = .alloc 52) (hM : R.Own F W0 w l) (hk : ∀ g w', R.Own F W0 w' (.blk g 52 (cSp ⟨⟨false, W 0⟩, ⟨false, W 0⟩, W 0⟩) :: l) → K (.pointer (some ⟨g, 0, none⟩)) w') : R.WO Tryz.prog C o f w K :=
  R.WO_allocO hop hM (by unfold cSp cS at hk; rw [cW_W W512_pos, wcs_zero] at hk; exact hk)
theorem WO_bdSn (hop : o.op = .build 46 #[(0, x)]) (hx : R.ev f x = .bool b) (hk : K (.agg (cS ⟨b, W 0⟩).toArray) w) : R.WO Tryz.prog C o f w K := by
  unfold cS at hk
  rw [cW_W W512_pos, wcs_zero] at hk
  exact R.WO_buildN1 hop hx rfl (by rfl) (by (simp only [R.putA, List.getD_cons_zero]) <;> rfl) hk
theorem WO_bdSp3 (hop : o.op = .build 52 #[(0, x), (1, y), (2, z)]) (hx : R.ev f x = .agg (cS s).toArray) (hy : R.ev f y = .agg (cS s2).toArray) (hz : R.ev f z = .agg (cW m).toArray) (hk : K (.agg (cSp ⟨s, s2, m⟩).toArray) w) : R.WO Tryz.prog C o f w K :=
  R.WO_buildN3 hop hx hy hz rfl rfl rfl (by rfl) (by (simp only [R.putA, List.getD_cons_zero, List.getD_cons_succ]) <;> rfl) hk
theorem WO_bdSp2 (hop : o.op = .build 52 #[(0, x), (1, y)]) (hx : R.ev f x = .agg (cS s).toArray) (hy : R.ev f y = .agg (cS s2).toArray) (hk : K (.agg (cSp ⟨s, s2, W 0⟩).toArray) w) : R.WO Tryz.prog C o f w K := by
  unfold cSp at hk
  rw [cW_W W512_pos, wcs_zero] at hk
  exact R.WO_buildN2 hop hx hy rfl rfl (by rfl) (by (simp only [R.putA, List.getD_cons_zero, List.getD_cons_succ]) <;> rfl) hk
theorem WO_bdSp0 (hop : o.op = .build 52 #[]) (hk : K (.agg (cSp ⟨⟨false, W 0⟩, ⟨false, W 0⟩, W 0⟩).toArray) w) : R.WO Tryz.prog C o f w K := by
  unfold cSp cS at hk
  rw [cW_W W512_pos, wcs_zero] at hk
  exact R.WO_buildN0 hop (by rfl) rfl hk
theorem WO_ldPx (hop : o.op = .load t x) (hx : R.ev f x = .pointer (some ⟨g, 0, none⟩)) [R.KindT Tryz.prog t true] [R.SzT Tryz.prog t 9] (hM : R.Own F W0 w l) (hm : .blk g u (cSp p) ∈ l) (hk : K (.agg (cS p.x).toArray) w) : R.WO Tryz.prog C o f w K :=
  R.WO_loadOP (j := 0) (m := 9) (cs := cSp p) hop hx rfl hM hm rfl (by
    have e : List.take 9 (List.drop 0 (cSp p)) = cS p.x := rfl
    rw [e]; exact hk)
theorem WO_ldPy (hop : o.op = .load t x) (hx : R.ev f x = .pointer (some ⟨g, 9, none⟩)) [R.KindT Tryz.prog t true] [R.SzT Tryz.prog t 9] (hM : R.Own F W0 w l) (hm : .blk g u (cSp p) ∈ l) (hk : K (.agg (cS p.y).toArray) w) : R.WO Tryz.prog C o f w K :=
  R.WO_loadOP (j := 9) (m := 9) (cs := cSp p) hop hx rfl hM hm rfl (by
    have e : List.take 9 (List.drop 9 (cSp p)) = cS p.y := rfl
    rw [e]; exact hk)
theorem WO_ldPxm (hop : o.op = .load t x) (hx : R.ev f x = .pointer (some ⟨g, 1, none⟩)) [R.KindT Tryz.prog t true] [R.SzT Tryz.prog t 8] (hM : R.Own F W0 w l) (hm : .blk g u (cSp p) ∈ l) (hk : K (.agg (cW p.x.mag).toArray) w) : R.WO Tryz.prog C o f w K :=
  R.WO_loadOP (j := 1) (m := 8) (cs := cSp p) hop hx rfl hM hm rfl (by
    have e : List.take 8 (List.drop 1 (cSp p)) = cW p.x.mag := rfl
    rw [e]; exact hk)
theorem WO_ldPym (hop : o.op = .load t x) (hx : R.ev f x = .pointer (some ⟨g, 10, none⟩)) [R.KindT Tryz.prog t true] [R.SzT Tryz.prog t 8] (hM : R.Own F W0 w l) (hm : .blk g u (cSp p) ∈ l) (hk : K (.agg (cW p.y.mag).toArray) w) : R.WO Tryz.prog C o f w K :=
  R.WO_loadOP (j := 10) (m := 8) (cs := cSp p) hop hx rfl hM hm rfl (by
    have e : List.take 8 (List.drop 10 (cSp p)) = cW p.y.mag := rfl
    rw [e]; exact hk)
theorem WO_ldPw (hop : o.op = .load t x) (hx : R.ev f x = .pointer (some ⟨g, 18, none⟩)) [R.KindT Tryz.prog t true] [R.SzT Tryz.prog t 8] (hM : R.Own F W0 w l) (hm : .blk g u (cSp p) ∈ l) (hk : K (.agg (cW p.w).toArray) w) : R.WO Tryz.prog C o f w K :=
  R.WO_loadOP (j := 18) (m := 8) (cs := cSp p) hop hx rfl hM hm rfl (by
    have e : List.take 8 (List.drop 18 (cSp p)) = cW p.w := rfl
    rw [e]; exact hk)
theorem WO_stPx (hop : o.op = .store t x y) (hx : R.ev f x = .pointer (some ⟨g, 0, none⟩)) (hy : R.ev f y = .agg (cS s).toArray) [R.SzT Tryz.prog t 9] (hM : R.Own F W0 w l) (hu : R.Upd l (.blk g u (cSp p)) (.blk g u (cSp ⟨s, p.y, p.w⟩)) l') (hk : ∀ w', R.Own F W0 w' l' → K undef w') : R.WO Tryz.prog C o f w K :=
  R.WO_storeP (cs := cSp p) hop hx hy hM hu rfl (by show 9 ≤ 26; decide) (cS_one s) hk
theorem WO_stPy (hop : o.op = .store t x y) (hx : R.ev f x = .pointer (some ⟨g, 9, none⟩)) (hy : R.ev f y = .agg (cS s).toArray) [R.SzT Tryz.prog t 9] (hM : R.Own F W0 w l) (hu : R.Upd l (.blk g u (cSp p)) (.blk g u (cSp ⟨p.x, s, p.w⟩)) l') (hk : ∀ w', R.Own F W0 w' l' → K undef w') : R.WO Tryz.prog C o f w K :=
  R.WO_storeP (cs := cSp p) hop hx hy hM hu rfl (by show 18 ≤ 26; decide) (cS_one s) hk
theorem WO_stPxm (hop : o.op = .store t x y) (hx : R.ev f x = .pointer (some ⟨g, 1, none⟩)) (hy : R.ev f y = .agg (cW m).toArray) [R.SzT Tryz.prog t 8] (hM : R.Own F W0 w l) (hu : R.Upd l (.blk g u (cSp p)) (.blk g u (cSp ⟨⟨p.x.neg, m⟩, p.y, p.w⟩)) l') (hk : ∀ w', R.Own F W0 w' l' → K undef w') : R.WO Tryz.prog C o f w K :=
  R.WO_storeP (cs := cSp p) hop hx hy hM hu rfl (by show 9 ≤ 26; decide) (cW_one m) hk
theorem WO_stPym (hop : o.op = .store t x y) (hx : R.ev f x = .pointer (some ⟨g, 10, none⟩)) (hy : R.ev f y = .agg (cW m).toArray) [R.SzT Tryz.prog t 8] (hM : R.Own F W0 w l) (hu : R.Upd l (.blk g u (cSp p)) (.blk g u (cSp ⟨p.x, ⟨p.y.neg, m⟩, p.w⟩)) l') (hk : ∀ w', R.Own F W0 w' l' → K undef w') : R.WO Tryz.prog C o f w K :=
  R.WO_storeP (cs := cSp p) hop hx hy hM hu rfl (by show 18 ≤ 26; decide) (cW_one m) hk
theorem WO_stPw (hop : o.op = .store t x y) (hx : R.ev f x = .pointer (some ⟨g, 18, none⟩)) (hy : R.ev f y = .agg (cW m).toArray) [R.SzT Tryz.prog t 8] (hM : R.Own F W0 w l) (hu : R.Upd l (.blk g u (cSp p)) (.blk g u (cSp ⟨p.x, p.y, m⟩)) l') (hk : ∀ w', R.Own F W0 w' l' → K undef w') : R.WO Tryz.prog C o f w K :=
  R.WO_storeP (cs := cSp p) hop hx hy hM hu rfl (by show 26 ≤ 26; decide) (cW_one m) hk
theorem WO_fvPx (hop : o.op = .field t x 0) (hx : R.ev f x = .agg (cSp p).toArray) [hf : R.FieldV Tryz.prog t 0 0 true 9] (hk : K (.agg (cS p.x).toArray) w) : R.WO Tryz.prog C o f w K := R.WO_fldVA (cs := cSp p) hop hx (show List.take 9 (List.drop 0 (cSp p)) = cS p.x from rfl) hk
theorem WO_fvPy (hop : o.op = .field t x 1) (hx : R.ev f x = .agg (cSp p).toArray) [hf : R.FieldV Tryz.prog t 1 9 true 9] (hk : K (.agg (cS p.y).toArray) w) : R.WO Tryz.prog C o f w K := R.WO_fldVA (cs := cSp p) hop hx (show List.take 9 (List.drop 9 (cSp p)) = cS p.y from rfl) hk
theorem WO_fvPw (hop : o.op = .field t x 2) (hx : R.ev f x = .agg (cSp p).toArray) [hf : R.FieldV Tryz.prog t 2 18 true 8] (hk : K (.agg (cW p.w).toArray) w) : R.WO Tryz.prog C o f w K := R.WO_fldVA (cs := cSp p) hop hx (show List.take 8 (List.drop 18 (cSp p)) = cW p.w from rfl) hk
end
/-- What holds of a world, and goes on to hold as long as nothing below is changed. -/
def R.Lasts {T : Type} (G : World → T → Prop) (W : World) (x : T) : Prop := ∀ w, Below W.heap.size W w → G w x
theorem R.lasts {T : Type} {G : World → T → Prop} {W w : World} {x : T} {l : List R.Res} (h : R.Lasts G W x) (hM : R.Own [] W w l) : G w x := h w hM.below
/-- A part of an array that lies in a slice. -/
theorem R.WO_idxPt {P : Program} {C : R.CallH} {o : Oper} {f : R.Fr} {w : World} {K : Value → World → Prop} {t e : TypeId} {x i : Operand} {A : Option Addr} {m sz off n q jn : Nat} {k : IntKind} {j : Int} (hop : o.op = .indexAddr t x i) [ht : R.ArrT P t n e q] (hx : R.ev f x = R.ptr A m sz off) (hA : ∃ a, A = some a) (hi : R.ev f i = .int k j) (h0 : 0 ≤ j) (h1 : j < n) [hj : R.ToN j jn] (hk : K (R.ptr A m sz (off + jn * q)) w) : R.WO P C o f w K := by
  obtain ⟨a, rfl⟩ := hA
  refine R.WO_indexA hop (by rw [hx, R.ptr_some]) hi h0 h1 ?_
  rw [R.add_twice, Nat.add_assoc, hj.h]
  rw [R.ptr_some] at hk
  exact hk
end Go.Proofs.YtmoppmfbfpjdnaaGreat
