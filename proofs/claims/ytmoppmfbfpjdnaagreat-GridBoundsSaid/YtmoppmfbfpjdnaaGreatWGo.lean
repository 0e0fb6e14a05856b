/- Numbers of eight words as values of a type; the driver for them; package wide's contracts. -/
import Derived.Test.YtmoppmfbfpjdnaaGreatWide9
import Derived.Test.YtmoppmfbfpjdnaaGreatGo
namespace Go.Proofs.YtmoppmfbfpjdnaaGreat
open Go.RowKit
open R (In64 InU64 lo64 nth)

structure Wd where
  n : Nat
  lt : n < W512
theorem Wd.ext_ {a b : Wd} (h : a.n = b.n) : a = b := by cases a; cases b; simp only at h; subst h; rfl
theorem Wd.ext_iff {a b : Wd} : a = b ↔ a.n = b.n := ⟨fun h => by rw [h], Wd.ext_⟩
instance : DecidableEq Wd := fun a b => decidable_of_iff (a.n = b.n) Wd.ext_iff.symm
/-- A number, modulo 2 to the 512. -/
def W (n : Nat) : Wd := ⟨n % W512, Nat.mod_lt _ W512_pos⟩
theorem W_n {n : Nat} (h : n < W512) : (W n).n = n := Nat.mod_eq_of_lt h
theorem W_self (a : Wd) : W a.n = a := Wd.ext_ (W_n a.lt)
theorem Wd.zero_iff {a : Wd} : a = W 0 ↔ a.n = 0 := by rw [Wd.ext_iff, W_n W512_pos]
instance : Inhabited Wd := ⟨W 0⟩
def cW (x : Wd) : List Value := wcs x.n
theorem cW_W {n : Nat} (h : n < W512) : cW (W n) = wcs n := by unfold cW; rw [W_n h]
theorem cW_one (x : Wd) : ∀ v ∈ cW x, v.oneCell' = true := by simp [cW, wcs, Value.oneCell']
instance encc_W : R.EncC cW 8 := ⟨fun _ => rfl, cW_one, by decide⟩
theorem cW_inj {a b : Wd} (h : cW a = cW b) : a = b := by
  refine Wd.ext_ ((wl_inj a.lt b.lt).1 ?_)
  simpa [wl, cW, wcs] using h
instance eqt_W : R.EqT Tryz.prog 44 Wd cW := R.eqT_of (ls := [some .u64, some .u64, some .u64, some .u64, some .u64, some .u64, some .u64, some .u64]) (by kernel_rfl) (by kernel_rfl) (by kernel_rfl)
  (fun _ => ⟨rfl, rfl, rfl, rfl, rfl, rfl, rfl, rfl, trivial⟩) (fun _ _ => cW_inj)
section
variable {C : R.CallH} {o : Oper} {f : R.Fr} {F : List Nat} {W0 w : World} {K : Value → World → Prop} {l : List R.Res} {t u e : TypeId} {x y i : Operand} {m n : Nat}
theorem WO_allocWd (hop : o.op = .alloc 44) (hM : R.Own F W0 w l) (hk : ∀ g w', R.Own F W0 w' (.blk g 44 (cW (W 0)) :: l) → K (.pointer (some ⟨g, 0, none⟩)) w') : R.WO Tryz.prog C o f w K :=
  R.WO_allocO hop hM (by rw [cW_W W512_pos, wcs_zero] at hk; exact hk)
theorem WO_buildWd0 (hop : o.op = .build 44 #[]) (h : K (.agg (cW (W 0)).toArray) w) : R.WO Tryz.prog C o f w K := WO_buildW0 hop (by rw [cW_W W512_pos] at h; exact h)
theorem small_W {a : Int} (ha : InU64 a) : a.toNat < W512 := wsmall (by unfold InU64 at ha; omega)
theorem WO_buildWd1 {a : Int} (hop : o.op = .build 44 #[(0, x)]) (hx : R.ev f x = .int .u64 a) (ha : InU64 a) (h : K (.agg (cW (W a.toNat)).toArray) w) : R.WO Tryz.prog C o f w K :=
  WO_buildW1 hop hx ha (by rw [cW_W (small_W ha)] at h; exact h)
theorem WO_buildWd2 {a b : Int} (hop : o.op = .build 44 #[(0, x), (1, y)]) (hx : R.ev f x = .int .u64 a) (hy : R.ev f y = .int .u64 b) (ha : InU64 a) (hb : InU64 b) (h : K (.agg (cW (W (a.toNat + b.toNat * 18446744073709551616))).toArray) w) : R.WO Tryz.prog C o f w K :=
  WO_buildW2 hop hx hy ha hb (by rw [cW_W (wtwo (by unfold InU64 at ha hb; omega))] at h; exact h)
theorem WO_idxWd {a : Wd} {j : Int} {jn : Nat} {k : IntKind} (hop : o.op = .index 44 x i) (hx : R.ev f x = .agg (cW a).toArray) (hi : R.ev f i = .int k j) (h0 : 0 ≤ j) (h1 : j < 8) [hj : R.ToN j jn] (h : K (.int .u64 (wd a.n jn : Nat)) w) : R.WO Tryz.prog C o f w K :=
  WO_idxW hop hx hi h0 h1 (by rw [hj.h]; exact h)
theorem WO_idxWdP {j : Int} {jn g : Nat} {k : IntKind} [ht : R.ArrT Tryz.prog t 8 e 1] (hop : o.op = .indexAddr t x i) (hx : R.ev f x = .pointer (some ⟨g, 0, none⟩)) (hi : R.ev f i = .int k j) (h0 : 0 ≤ j) (h1 : j < 8) [hj : R.ToN j jn] (h : K (.pointer (some ⟨g, jn, none⟩)) w) : R.WO Tryz.prog C o f w K :=
  R.WO_indexA hop hx hi h0 h1 (by
    have e1 : (⟨g, 0, none⟩ : Addr).add (j.toNat * 1) = ⟨g, jn, none⟩ := by rw [hj.h, Addr.add_lit]; congr 1; omega
    rw [e1]; exact h)
theorem WO_ldWd {a : Wd} {jn g : Nat} (hop : o.op = .load t x) (hx : R.ev f x = .pointer (some ⟨g, jn, none⟩)) [R.KindT Tryz.prog t false] (hM : R.Own F W0 w l) (hm : .blk g u (cW a) ∈ l) (hlt : jn < 8) (h : K (.int .u64 (wd a.n jn : Nat)) w) : R.WO Tryz.prog C o f w K :=
  R.WO_loadO hop hx rfl hM hm (wcs_get a.n jn hlt) h
/-- A word is put into a number. -/
def stW (a : Wd) (j : Nat) (v : Int) : Wd := W (setw a.n j v.toNat)
theorem stW_n {a : Wd} {j : Nat} {v : Int} (hj : j < 8) (hv : InU64 v) : (stW a j v).n = setw a.n j v.toNat :=
  W_n (setw_lt (by unfold InU64 at hv; omega) hj a.lt)
theorem cW_set {a : Wd} {j : Nat} {v : Int} (hj : j < 8) (hv : InU64 v) : (cW a).set j (.int .u64 v) = cW (stW a j v) := by
  have hs : v.toNat < 18446744073709551616 := by unfold InU64 at hv; omega
  refine List.ext_getElem? fun k => ?_
  unfold cW
  rw [stW_n hj hv]
  rcases Nat.lt_or_ge k 8 with hk | hk
  · rw [wcs_get _ k hk, List.getElem?_set]
    split
    · rename_i e
      subst e
      rw [if_pos (by rw [wcs_length]; exact hk), setw_same hs, Int.toNat_of_nonneg hv.1]
    · rename_i e
      rw [wcs_get _ k hk, setw_ne hs (Ne.symm e)]
  · rw [List.getElem?_eq_none (by rw [List.length_set, wcs_length]; exact hk), List.getElem?_eq_none (by rw [wcs_length]; exact hk)]
theorem WO_stWd {a : Wd} {jn g : Nat} {v : Int} {l' : List R.Res} (hop : o.op = .store t x y) (hx : R.ev f x = .pointer (some ⟨g, jn, none⟩)) (hy : R.ev f y = .int .u64 v) [R.SzT Tryz.prog t 1] (hM : R.Own F W0 w l) (hu : R.Upd l (.blk g u (cW a)) (.blk g u (cW (stW a jn v))) l') (hlt : jn < 8) (hv : InU64 v) (h : ∀ w', R.Own F W0 w' l' → K undef w') : R.WO Tryz.prog C o f w K :=
  R.WO_storeO (j := jn) hop hx hy rfl rfl hM (by rw [cW_set hlt hv]; exact hu) (by unfold cW; rw [wcs_length]; exact hlt) h
end

/-! ### contracts -/
instance con_wof (a : Int) : R.ConB Tryz.prog 99 #[.int .u64 a] Unit (fun _ _ => InU64 a) (fun _ => .agg (cW (W a.toNat)).toArray) := ⟨fun _ w h => by
  rw [cW_W (small_W h)]
  have := wof_any a.toNat (by unfold InU64 at h; omega) w
  rw [Int.toNat_of_nonneg h.1] at this
  exact this⟩
instance con_wzero (a : Wd) : R.ConB Tryz.prog 80 #[.agg (cW a).toArray] Unit (fun _ _ => True) (fun _ => .bool (decide (a.n = 0))) := ⟨fun _ w _ => wzero_any a.n a.lt w⟩
instance con_wcmp (a b : Wd) : R.ConB Tryz.prog 77 #[.agg (cW a).toArray, .agg (cW b).toArray] Unit (fun _ _ => True) (fun _ => .int .i64 (cmpI a.n b.n)) := ⟨fun _ w _ => wcmp_any a.n b.n a.lt b.lt w⟩
instance con_wlen (a : Wd) : R.ConB Tryz.prog 56 #[.agg (cW a).toArray] Unit (fun _ _ => True) (fun _ => .int .i64 (bitLen a.n : Nat)) := ⟨fun _ w _ => (wlen_any a.n a.lt w)⟩
/-- A number shifted by c places. -/
def shI (a : Nat) (c : Int) : Nat := if c < 0 then a / 2 ^ (-c).toNat else a * 2 ^ c.toNat % W512
theorem W512_pow : ∃ N : Nat, N = 512 ∧ W512 = 2 ^ N := ⟨64 * 8, rfl, (wsz_eq 8).symm⟩
theorem shC_shI {a : Nat} (ha : a < W512) (c : Int) : shC a (min (max c (-512)) 512) = shI a c := by
  unfold shC shI
  obtain ⟨N, hN, hw⟩ := W512_pow
  by_cases h : c < 0
  · rw [if_pos h, if_pos (by omega)]
    by_cases h2 : -512 ≤ c
    · rw [show min (max c (-512)) 512 = c by omega]
    · rw [show (-min (max c (-512)) 512).toNat = N by omega, Nat.div_eq_of_lt (by rw [← hw]; exact ha), Nat.div_eq_of_lt]
      exact Nat.lt_of_lt_of_le ha (by rw [hw]; exact Nat.pow_le_pow_right (by omega) (by omega))
  · rw [if_neg h, if_neg (by omega)]
    by_cases h2 : c ≤ 512
    · rw [show min (max c (-512)) 512 = c by omega]
    · rw [show (min (max c (-512)) 512).toNat = N by omega, ← hw, Nat.mul_mod_left]
      have : c.toNat = N + (c.toNat - N) := by omega
      rw [this, Nat.pow_add, ← hw, Nat.mul_left_comm, Nat.mul_mod_right]
theorem shI_lt {a : Nat} (ha : a < W512) (c : Int) : shI a c < W512 := by
  unfold shI
  split
  · exact Nat.lt_of_le_of_lt (Nat.div_le_self _ _) ha
  · exact Nat.mod_lt _ W512_pos
def shW (a : Wd) (c : Int) : Wd := ⟨shI a.n c, shI_lt a.lt c⟩
instance con_wshift (a : Wd) (c : Int) : R.ConB Tryz.prog 111 #[.agg (cW a).toArray, .int .i64 c] Unit (fun _ _ => True) (fun _ => .agg (cW (shW a c)).toArray) := ⟨fun _ w _ => by
  have := wshift_any a.n c a.lt w
  rw [shC_shI a.lt] at this
  exact this⟩
instance con_wadd (a b : Wd) : R.ConB Tryz.prog 108 #[.agg (cW a).toArray, .agg (cW b).toArray] Unit (fun _ _ => True) (fun _ => .tuple #[.agg (cW (W (a.n + b.n))).toArray, .bool (decide (a.n + b.n < W512))]) := ⟨fun _ w _ => wadd_any a.n b.n a.lt b.lt w⟩
def difW (a b : Wd) : Wd := ⟨dif a.n b.n, dif_lt _ _⟩
instance con_wsub (a b : Wd) : R.ConB Tryz.prog 112 #[.agg (cW a).toArray, .agg (cW b).toArray] Unit (fun _ _ => True) (fun _ => .tuple #[.agg (cW (difW a b)).toArray, .bool (decide (b.n ≤ a.n))]) := ⟨fun _ w _ => wsub_any a.n b.n a.lt b.lt w⟩
instance con_wmul (a b : Wd) : R.ConB Tryz.prog 102 #[.agg (cW a).toArray, .agg (cW b).toArray] Unit (fun _ _ => True) (fun _ => .tuple #[.agg (cW (W (a.n * b.n))).toArray, .bool (decide (a.n * b.n < W512))]) := ⟨fun _ w _ => wmul_any a.n b.n a.lt b.lt w⟩
instance con_wbit (a : Wd) (i : Int) : R.ConB Tryz.prog 117 #[.agg (cW a).toArray, .int .i64 i] Unit (fun _ _ => True) (fun _ => .bool (decide (0 ≤ i ∧ i < 512 ∧ a.n / 2 ^ i.toNat % 2 = 1))) := ⟨fun _ w _ => wbit_any a.n i w⟩
end Go.Proofs.YtmoppmfbfpjdnaaGreat
