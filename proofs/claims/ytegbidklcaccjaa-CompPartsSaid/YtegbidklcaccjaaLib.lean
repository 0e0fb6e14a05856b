/- The library's functions on slices: which element a test holds of first. -/
import Derived.Test.YtegbidklcaccjaaGo
namespace Go.Proofs.Ytegbidklcaccjaa
open Go.RowKit
open R (In64 InU64 lo64 nth)

structure Item where
  key : Int
  at_ : Int
  deriving DecidableEq, Inhabited
structure Pt where
  x : Int
  y : Int
  deriving DecidableEq, Inhabited
structure Link where
  frm : Int
  to : Int
  weight : Int
  mid : Int
  deriving DecidableEq, Inhabited
def cItem (x : Item) : List Value := [.int .i64 x.key, .int .i64 x.at_]
def cPt (x : Pt) : List Value := [.int .i64 x.x, .int .i64 x.y]
def cLink (x : Link) : List Value := [.int .i64 x.frm, .int .i64 x.to, .int .i64 x.weight, .int .i64 x.mid]
instance encc_Item : R.EncC cItem 2 := ⟨fun _ => rfl, by simp [cItem, Value.oneCell'], by decide⟩
instance encc_Pt : R.EncC cPt 2 := ⟨fun _ => rfl, by simp [cPt, Value.oneCell'], by decide⟩
instance encc_Link : R.EncC cLink 4 := ⟨fun _ => rfl, by simp [cLink, Value.oneCell'], by decide⟩
instance enct_Item : R.EncT Try.prog 72 Item cItem 2 := {}
instance enct_Pt : R.EncT Try.prog 145 Pt cPt 2 := {}
instance iss_Item (a b : Int) : R.Iss cItem [.int .i64 a, .int .i64 b] [⟨a, b⟩] := ⟨rfl⟩
instance iss_Pt (a b : Int) : R.Iss cPt [.int .i64 a, .int .i64 b] [⟨a, b⟩] := ⟨rfl⟩
instance iss_Link (a b c d : Int) : R.Iss cLink [.int .i64 a, .int .i64 b, .int .i64 c, .int .i64 d] [⟨a, b, c, d⟩] := ⟨rfl⟩
instance iso_Item (a b : Int) : R.Iso cItem [.int .i64 a, .int .i64 b] ⟨a, b⟩ := ⟨rfl⟩
instance iso_Pt (a b : Int) : R.Iso cPt [.int .i64 a, .int .i64 b] ⟨a, b⟩ := ⟨rfl⟩
instance iso_Link (a b c d : Int) : R.Iso cLink [.int .i64 a, .int .i64 b, .int .i64 c, .int .i64 d] ⟨a, b, c, d⟩ := ⟨rfl⟩
instance eqt_Item : R.EqT Try.prog 72 Item cItem := R.eqT_of (ls := [some .i64, some .i64]) (by kernel_rfl) (by kernel_rfl) (by kernel_rfl) (fun _ => ⟨rfl, rfl, trivial⟩) (fun a b h => by cases a; cases b; simpa [cItem] using h)
instance eqt_Pt : R.EqT Try.prog 145 Pt cPt := R.eqT_of (ls := [some .i64, some .i64]) (by kernel_rfl) (by kernel_rfl) (by kernel_rfl) (fun _ => ⟨rfl, rfl, trivial⟩) (fun a b h => by cases a; cases b; simpa [cPt] using h)
/-- The place of the first element of which p holds; -1: there is none. -/
def ixOf {T : Type} (p : T → Bool) (L : List T) : Int := match L.findIdx? p with
  | some i => i
  | none => -1
theorem ixOf_none {T : Type} {p : T → Bool} {L : List T} (h : ∀ x ∈ L, p x = false) : ixOf p L = -1 := by
  have : L.findIdx? p = none := List.findIdx?_eq_none_iff.2 h
  simp [ixOf, this]
theorem ixOf_at {T : Type} {p : T → Bool} {L : List T} {k : Nat} (hk : k < L.length) (h : ∀ x ∈ L.take k, p x = false) (hp : p L[k] = true) : ixOf p L = k := by
  have : L.findIdx? p = some k := by
    rw [List.findIdx?_eq_some_iff_getElem]
    refine ⟨hk, hp, fun j hj => ?_⟩
    have := h L[j] (List.mem_take_iff_getElem.2 ⟨j, by omega, by simp⟩)
    simpa using this
  simp [ixOf, this]
theorem ixOf_any {T : Type} (p : T → Bool) (L : List T) : decide (0 ≤ ixOf p L) = L.any p := by
  unfold ixOf
  cases h : L.findIdx? p with
  | none =>
    rw [List.findIdx?_eq_none_iff] at h
    simp
    exact h
  | some i =>
    rw [List.findIdx?_eq_some_iff_getElem] at h
    obtain ⟨hi, hp, _⟩ := h
    simp
    exact ⟨_, List.getElem_mem hi, hp⟩
theorem take_snoc {T : Type} [Inhabited T] {L : List T} {k : Nat} (h : k < L.length) : L.take (k + 1) = L.take k ++ [nth L k] := by
  rw [List.take_succ_eq_append_getElem h, R.nth_eq h]
theorem all_snoc {T : Type} [Inhabited T] {L : List T} {k : Nat} {Q : T → Prop} (hk : k < L.length) (h : ∀ x ∈ L.take k, Q x) (hq : Q (nth L k)) : ∀ x ∈ L.take (k + 1), Q x := by
  rw [take_snoc hk]
  intro x hx
  rcases List.mem_append.1 hx with h1 | h1
  · exact h x h1
  · simp at h1
    rw [h1]
    exact hq


theorem indexFunc_Item (A : Option Addr) (n c : Nat) (L : List Item) (g : FuncId) [R.HasBody Try.prog g] (cap : List Value) (p : Item → Bool) (w : World) (hA : R.Inp [] w A n 2 (L.flatMap cItem)) (hn : n = L.length) (hb : n ≤ 1000000000)
    (hp : ∀ x w1, x ∈ L → Below w.heap.size w w1 → Calls Try.prog g ([Value.agg (cItem x).toArray] ++ cap).toArray w1 fun e w' => e = .returned (.bool (p x)) ∧ Below w1.heap.size w1 w') :
    Calls Try.prog 89 #[.slice A n c, .func (.func g) #[] cap.toArray] w fun e w' => e = .returned (.int .i64 (ixOf p L)) ∧ Below w.heap.size w w' := by
  have hM := R.Own.start [] w
  refine R.calls_of_WC (fn := Try.f89) Try.func89 rfl Try.ntmps89 (Nat.le_of_ble_eq_true rfl) ?_
  (refine R.step ?_; (repeat' (first | (with_reducible refine And.intro ?_ ?_) | (with_reducible intro _))); all_goals refine R.Lft.mk ?_)
  refine R.WC_loop (fun k : Nat => [(0, .slice A n c), (1, .func (.func g) #[] cap.toArray), (4, .int .i64 0), (7, .int .i64 (n : Nat)), (8, .int .i64 (k : Nat))])
    (fun k w1 => k ≤ n ∧ R.Own [] w w1 [] ∧ ∀ x ∈ L.take k, p x = false) (fun k => n - k) ⟨0, ⟨rfl, rfl, rfl, rfl, rfl, trivial⟩, by omega, hM, by simp⟩ ?_
  rintro k f w1 ⟨hk, hM, hall⟩
  by_cases hlt : k < n
  · have hx := R.nth_mem (L := L) (i := k) (by omega)
    have hcall := hp (nth L k) w1 hx hM.below
    (refine R.step ?_; (repeat' (first | (with_reducible refine And.intro ?_ ?_) | (with_reducible intro _))); all_goals refine R.Lft.mk ?_)
    refine R.WO_callc1 rfl rfl R.vv ?_
    refine hcall.mono ?_
    rintro e w2 ⟨rfl, hb2⟩
    have hM := hM.call hb2
    refine ⟨_, rfl, ?_⟩
    (refine R.step ?_; (repeat' (first | (with_reducible refine And.intro ?_ ?_) | (with_reducible intro _))); all_goals refine R.Lft.mk ?_)
    · rename_i hpx
      refine ⟨?_, hM.below⟩
      rw [ixOf_at (k := k) (by omega) hall (by rw [← R.nth_eq]; exact hpx)]
    · rename_i hpx
      exact ⟨k + 1, ⟨rfl, rfl, rfl, rfl, R.viaI rfl (by omega), trivial⟩, ⟨by omega, hM, all_snoc (by omega) hall hpx⟩, by omega⟩
  · obtain rfl : k = n := by omega
    (refine R.step ?_; (repeat' (first | (with_reducible refine And.intro ?_ ?_) | (with_reducible intro _))); all_goals refine R.Lft.mk ?_)
    refine ⟨?_, hM.below⟩
    rw [ixOf_none (by rw [hn, List.take_length] at hall; exact hall)]
theorem containsFunc_Item (A : Option Addr) (n c : Nat) (L : List Item) (g : FuncId) [R.HasBody Try.prog g] (cap : List Value) (p : Item → Bool) (w : World) (hA : R.Inp [] w A n 2 (L.flatMap cItem)) (hn : n = L.length) (hb : n ≤ 1000000000)
    (hp : ∀ x w1, x ∈ L → Below w.heap.size w w1 → Calls Try.prog g ([Value.agg (cItem x).toArray] ++ cap).toArray w1 fun e w' => e = .returned (.bool (p x)) ∧ Below w1.heap.size w1 w') :
    Calls Try.prog 86 #[.slice A n c, .func (.func g) #[] cap.toArray] w fun e w' => e = .returned (.bool (L.any p)) ∧ Below w.heap.size w w' := by
  refine R.calls_of_WC (fn := Try.f86) Try.func86 rfl Try.ntmps86 (Nat.le_of_ble_eq_true rfl) ?_
  (refine R.step ?_; (repeat' (first | (with_reducible refine And.intro ?_ ?_) | (with_reducible intro _))); all_goals refine R.Lft.mk ?_)
  refine R.WO_call2 rfl rfl R.vv R.vv ?_
  refine (indexFunc_Item A n c L g cap p w hA hn hb hp).mono ?_
  rintro e w1 ⟨rfl, hb1⟩
  refine ⟨_, rfl, ?_⟩
  (refine R.step ?_; (repeat' (first | (with_reducible refine And.intro ?_ ?_) | (with_reducible intro _))); all_goals refine R.Lft.mk ?_)
  rw [ixOf_any]
  exact ⟨rfl, hb1⟩

theorem indexFunc_Pt (A : Option Addr) (n c : Nat) (L : List Pt) (g : FuncId) [R.HasBody Try.prog g] (cap : List Value) (p : Pt → Bool) (w : World) (hA : R.Inp [] w A n 2 (L.flatMap cPt)) (hn : n = L.length) (hb : n ≤ 1000000000)
    (hp : ∀ x w1, x ∈ L → Below w.heap.size w w1 → Calls Try.prog g ([Value.agg (cPt x).toArray] ++ cap).toArray w1 fun e w' => e = .returned (.bool (p x)) ∧ Below w1.heap.size w1 w') :
    Calls Try.prog 109 #[.slice A n c, .func (.func g) #[] cap.toArray] w fun e w' => e = .returned (.int .i64 (ixOf p L)) ∧ Below w.heap.size w w' := by
  have hM := R.Own.start [] w
  refine R.calls_of_WC (fn := Try.f109) Try.func109 rfl Try.ntmps109 (Nat.le_of_ble_eq_true rfl) ?_
  (refine R.step ?_; (repeat' (first | (with_reducible refine And.intro ?_ ?_) | (with_reducible intro _))); all_goals refine R.Lft.mk ?_)
  refine R.WC_loop (fun k : Nat => [(0, .slice A n c), (1, .func (.func g) #[] cap.toArray), (4, .int .i64 0), (7, .int .i64 (n : Nat)), (8, .int .i64 (k : Nat))])
    (fun k w1 => k ≤ n ∧ R.Own [] w w1 [] ∧ ∀ x ∈ L.take k, p x = false) (fun k => n - k) ⟨0, ⟨rfl, rfl, rfl, rfl, rfl, trivial⟩, by omega, hM, by simp⟩ ?_
  rintro k f w1 ⟨hk, hM, hall⟩
  by_cases hlt : k < n
  · have hx := R.nth_mem (L := L) (i := k) (by omega)
    have hcall := hp (nth L k) w1 hx hM.below
    (refine R.step ?_; (repeat' (first | (with_reducible refine And.intro ?_ ?_) | (with_reducible intro _))); all_goals refine R.Lft.mk ?_)
    refine R.WO_callc1 rfl rfl R.vv ?_
    refine hcall.mono ?_
    rintro e w2 ⟨rfl, hb2⟩
    have hM := hM.call hb2
    refine ⟨_, rfl, ?_⟩
    (refine R.step ?_; (repeat' (first | (with_reducible refine And.intro ?_ ?_) | (with_reducible intro _))); all_goals refine R.Lft.mk ?_)
    · rename_i hpx
      refine ⟨?_, hM.below⟩
      rw [ixOf_at (k := k) (by omega) hall (by rw [← R.nth_eq]; exact hpx)]
    · rename_i hpx
      exact ⟨k + 1, ⟨rfl, rfl, rfl, rfl, R.viaI rfl (by omega), trivial⟩, ⟨by omega, hM, all_snoc (by omega) hall hpx⟩, by omega⟩
  · obtain rfl : k = n := by omega
    (refine R.step ?_; (repeat' (first | (with_reducible refine And.intro ?_ ?_) | (with_reducible intro _))); all_goals refine R.Lft.mk ?_)
    refine ⟨?_, hM.below⟩
    rw [ixOf_none (by rw [hn, List.take_length] at hall; exact hall)]
theorem containsFunc_Pt (A : Option Addr) (n c : Nat) (L : List Pt) (g : FuncId) [R.HasBody Try.prog g] (cap : List Value) (p : Pt → Bool) (w : World) (hA : R.Inp [] w A n 2 (L.flatMap cPt)) (hn : n = L.length) (hb : n ≤ 1000000000)
    (hp : ∀ x w1, x ∈ L → Below w.heap.size w w1 → Calls Try.prog g ([Value.agg (cPt x).toArray] ++ cap).toArray w1 fun e w' => e = .returned (.bool (p x)) ∧ Below w1.heap.size w1 w') :
    Calls Try.prog 103 #[.slice A n c, .func (.func g) #[] cap.toArray] w fun e w' => e = .returned (.bool (L.any p)) ∧ Below w.heap.size w w' := by
  refine R.calls_of_WC (fn := Try.f103) Try.func103 rfl Try.ntmps103 (Nat.le_of_ble_eq_true rfl) ?_
  (refine R.step ?_; (repeat' (first | (with_reducible refine And.intro ?_ ?_) | (with_reducible intro _))); all_goals refine R.Lft.mk ?_)
  refine R.WO_call2 rfl rfl R.vv R.vv ?_
  refine (indexFunc_Pt A n c L g cap p w hA hn hb hp).mono ?_
  rintro e w1 ⟨rfl, hb1⟩
  refine ⟨_, rfl, ?_⟩
  (refine R.step ?_; (repeat' (first | (with_reducible refine And.intro ?_ ?_) | (with_reducible intro _))); all_goals refine R.Lft.mk ?_)
  rw [ixOf_any]
  exact ⟨rfl, hb1⟩

theorem indexFunc_Int (A : Option Addr) (n c : Nat) (L : List Int) (g : FuncId) [R.HasBody Try.prog g] (cap : List Value) (p : Int → Bool) (w : World) (hA : R.Inp [] w A n 1 (L.flatMap R.cI)) (hn : n = L.length) (hb : n ≤ 1000000000)
    (hp : ∀ x w1, x ∈ L → Below w.heap.size w w1 → Calls Try.prog g ([Value.int .i64 x] ++ cap).toArray w1 fun e w' => e = .returned (.bool (p x)) ∧ Below w1.heap.size w1 w') :
    Calls Try.prog 97 #[.slice A n c, .func (.func g) #[] cap.toArray] w fun e w' => e = .returned (.int .i64 (ixOf p L)) ∧ Below w.heap.size w w' := by
  have hM := R.Own.start [] w
  refine R.calls_of_WC (fn := Try.f97) Try.func97 rfl Try.ntmps97 (Nat.le_of_ble_eq_true rfl) ?_
  (refine R.step ?_; (repeat' (first | (with_reducible refine And.intro ?_ ?_) | (with_reducible intro _))); all_goals refine R.Lft.mk ?_)
  refine R.WC_loop (fun k : Nat => [(0, .slice A n c), (1, .func (.func g) #[] cap.toArray), (4, .int .i64 0), (7, .int .i64 (n : Nat)), (8, .int .i64 (k : Nat))])
    (fun k w1 => k ≤ n ∧ R.Own [] w w1 [] ∧ ∀ x ∈ L.take k, p x = false) (fun k => n - k) ⟨0, ⟨rfl, rfl, rfl, rfl, rfl, trivial⟩, by omega, hM, by simp⟩ ?_
  rintro k f w1 ⟨hk, hM, hall⟩
  by_cases hlt : k < n
  · have hx := R.nth_mem (L := L) (i := k) (by omega)
    have hcall := hp (nth L k) w1 hx hM.below
    (refine R.step ?_; (repeat' (first | (with_reducible refine And.intro ?_ ?_) | (with_reducible intro _))); all_goals refine R.Lft.mk ?_)
    refine R.WO_callc1 rfl rfl R.vv ?_
    refine hcall.mono ?_
    rintro e w2 ⟨rfl, hb2⟩
    have hM := hM.call hb2
    refine ⟨_, rfl, ?_⟩
    (refine R.step ?_; (repeat' (first | (with_reducible refine And.intro ?_ ?_) | (with_reducible intro _))); all_goals refine R.Lft.mk ?_)
    · rename_i hpx
      refine ⟨?_, hM.below⟩
      rw [ixOf_at (k := k) (by omega) hall (by rw [← R.nth_eq]; exact hpx)]
    · rename_i hpx
      exact ⟨k + 1, ⟨rfl, rfl, rfl, rfl, R.viaI rfl (by omega), trivial⟩, ⟨by omega, hM, all_snoc (by omega) hall hpx⟩, by omega⟩
  · obtain rfl : k = n := by omega
    (refine R.step ?_; (repeat' (first | (with_reducible refine And.intro ?_ ?_) | (with_reducible intro _))); all_goals refine R.Lft.mk ?_)
    refine ⟨?_, hM.below⟩
    rw [ixOf_none (by rw [hn, List.take_length] at hall; exact hall)]
theorem containsFunc_Int (A : Option Addr) (n c : Nat) (L : List Int) (g : FuncId) [R.HasBody Try.prog g] (cap : List Value) (p : Int → Bool) (w : World) (hA : R.Inp [] w A n 1 (L.flatMap R.cI)) (hn : n = L.length) (hb : n ≤ 1000000000)
    (hp : ∀ x w1, x ∈ L → Below w.heap.size w w1 → Calls Try.prog g ([Value.int .i64 x] ++ cap).toArray w1 fun e w' => e = .returned (.bool (p x)) ∧ Below w1.heap.size w1 w') :
    Calls Try.prog 80 #[.slice A n c, .func (.func g) #[] cap.toArray] w fun e w' => e = .returned (.bool (L.any p)) ∧ Below w.heap.size w w' := by
  refine R.calls_of_WC (fn := Try.f80) Try.func80 rfl Try.ntmps80 (Nat.le_of_ble_eq_true rfl) ?_
  (refine R.step ?_; (repeat' (first | (with_reducible refine And.intro ?_ ?_) | (with_reducible intro _))); all_goals refine R.Lft.mk ?_)
  refine R.WO_call2 rfl rfl R.vv R.vv ?_
  refine (indexFunc_Int A n c L g cap p w hA hn hb hp).mono ?_
  rintro e w1 ⟨rfl, hb1⟩
  refine ⟨_, rfl, ?_⟩
  (refine R.step ?_; (repeat' (first | (with_reducible refine And.intro ?_ ?_) | (with_reducible intro _))); all_goals refine R.Lft.mk ?_)
  rw [ixOf_any]
  exact ⟨rfl, hb1⟩
end Go.Proofs.Ytegbidklcaccjaa
