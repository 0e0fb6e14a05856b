/- The library's functions on slices: which element a test holds of first. -/
import Derived.Test.YtmoppmfbfpjdnaaGreatVGo
import Derived.Test.YtmoppmfbfpjdnaaGreatCl
namespace Go.Proofs.YtmoppmfbfpjdnaaGreat
open Go.RowKit
open R (In64 InU64 lo64 nth)

/-- The place of the first element of which p holds; -1: there is none. -/
def ixOf {T : Type} (p : T → Bool) (L : List T) : Int := match L.findIdx? p with
  | some i => i
  | none => -1
theorem ixOf_none {T : Type} {p : T → Bool} {L : List T} (h : ∀ x ∈ L, p x = false) : ixOf p L = -1 := by
  have : L.findIdx? p = none := List.findIdx?_eq_none_iff.2 h
  simp [ixOf, this]
theorem ixOf_at {T : Type} {p : T → Bool} {L : List T} {k : Nat} (hk : k < L.length) (h : ∀ x ∈ L.take k, p x = false) (hp : p L[k] = true) : ixOf p L = k := by
  have : L.findIdx? p = some k := by
    rw [List.findIdx?_eq_some_iff_getElem]
    refine ⟨hk, hp, fun j hj => ?_⟩
    have := h L[j] (List.mem_take_iff_getElem.2 ⟨j, by omega, by simp⟩)
    simpa using this
  simp [ixOf, this]
theorem ixOf_any {T : Type} (p : T → Bool) (L : List T) : decide (0 ≤ ixOf p L) = L.any p := by
  unfold ixOf
  cases h : L.findIdx? p with
  | none =>
    rw [List.findIdx?_eq_none_iff] at h
    simp
    exact h
  | some i =>
    rw [List.findIdx?_eq_some_iff_getElem] at h
    obtain ⟨hi, hp, _⟩ := h
    simp
    exact ⟨_, List.getElem_mem hi, hp⟩
theorem take_snoc {T : Type} [Inhabited T] {L : List T} {k : Nat} (h : k < L.length) : L.take (k + 1) = L.take k ++ [nth L k] := by
  rw [List.take_succ_eq_append_getElem h, R.nth_eq h]
theorem all_snoc {T : Type} [Inhabited T] {L : List T} {k : Nat} {Q : T → Prop} (hk : k < L.length) (h : ∀ x ∈ L.take k, Q x) (hq : Q (nth L k)) : ∀ x ∈ L.take (k + 1), Q x := by
  rw [take_snoc hk]
  intro x hx
  rcases List.mem_append.1 hx with h1 | h1
  · exact h x h1
  · simp at h1
    rw [h1]
    exact hq


theorem indexFunc_Pc (A : Option Addr) (n c : Nat) (L : List Pc) (g : FuncId) [R.HasBody Tryz.prog g] (cap : List Value) (p : Pc → Bool) (w : World) (hA : R.Inp [] w A n 3 (L.flatMap cPc)) (hn : n = L.length) (hb : n ≤ 9223372036854775807)
    (hp : ∀ x w1, x ∈ L → Below w.heap.size w w1 → Calls Tryz.prog g ([Value.agg (cPc x).toArray] ++ cap).toArray w1 fun e w' => e = .returned (.bool (p x)) ∧ Below w1.heap.size w1 w') :
    Calls Tryz.prog 91 #[.slice A n c, .func (.func g) #[] cap.toArray] w fun e w' => e = .returned (.int .i64 (ixOf p L)) ∧ Below w.heap.size w w' := by
  have hM := R.Own.start [] w
  refine R.calls_of_WC (fn := Tryz.f91) Tryz.func91 rfl Tryz.ntmps91 (Nat.le_of_ble_eq_true rfl) ?_
  (refine R.stepV ?_; (repeat' (first | (with_reducible refine And.intro ?_ ?_) | (with_reducible intro _))); all_goals refine R.Lft.mk ?_)
  refine R.WC_loop (fun k : Nat => [(0, .slice A n c), (1, .func (.func g) #[] cap.toArray), (4, .int .i64 0), (7, .int .i64 (n : Nat)), (8, .int .i64 (k : Nat))])
    (fun k w1 => k ≤ n ∧ R.Own [] w w1 [] ∧ ∀ x ∈ L.take k, p x = false) (fun k => n - k) ⟨0, ⟨rfl, rfl, rfl, rfl, rfl, trivial⟩, by omega, hM, by simp⟩ ?_
  rintro k f w1 ⟨hk, hM, hall⟩
  by_cases hlt : k < n
  · have hx := R.nth_mem (L := L) (i := k) (by omega)
    have hcall := hp (nth L k) w1 hx hM.below
    (refine R.stepV ?_; (repeat' (first | (with_reducible refine And.intro ?_ ?_) | (with_reducible intro _))); all_goals refine R.Lft.mk ?_)
    refine R.WO_callc1 rfl rfl R.vv ?_
    refine hcall.mono ?_
    rintro e w2 ⟨rfl, hb2⟩
    have hM := hM.call hb2
    refine ⟨_, rfl, ?_⟩
    (refine R.stepV ?_; (repeat' (first | (with_reducible refine And.intro ?_ ?_) | (with_reducible intro _))); all_goals refine R.Lft.mk ?_)
    · rename_i hpx
      refine ⟨?_, hM.below⟩
      rw [ixOf_at (k := k) (by omega) hall (by rw [← R.nth_eq]; exact hpx)]
    · rename_i hpx
      exact ⟨k + 1, ⟨rfl, rfl, rfl, rfl, R.viaI rfl (by omega), trivial⟩, ⟨by omega, hM, all_snoc (by omega) hall hpx⟩, by omega⟩
  · obtain rfl : k = n := by omega
    (refine R.stepV ?_; (repeat' (first | (with_reducible refine And.intro ?_ ?_) | (with_reducible intro _))); all_goals refine R.Lft.mk ?_)
    refine ⟨?_, hM.below⟩
    rw [ixOf_none (by rw [hn, List.take_length] at hall; exact hall)]
theorem containsFunc_Pc (A : Option Addr) (n c : Nat) (L : List Pc) (g : FuncId) [R.HasBody Tryz.prog g] (cap : List Value) (p : Pc → Bool) (w : World) (hA : R.Inp [] w A n 3 (L.flatMap cPc)) (hn : n = L.length) (hb : n ≤ 9223372036854775807)
    (hp : ∀ x w1, x ∈ L → Below w.heap.size w w1 → Calls Tryz.prog g ([Value.agg (cPc x).toArray] ++ cap).toArray w1 fun e w' => e = .returned (.bool (p x)) ∧ Below w1.heap.size w1 w') :
    Calls Tryz.prog 70 #[.slice A n c, .func (.func g) #[] cap.toArray] w fun e w' => e = .returned (.bool (L.any p)) ∧ Below w.heap.size w w' := by
  refine R.calls_of_WC (fn := Tryz.f70) Tryz.func70 rfl Tryz.ntmps70 (Nat.le_of_ble_eq_true rfl) ?_
  (refine R.stepV ?_; (repeat' (first | (with_reducible refine And.intro ?_ ?_) | (with_reducible intro _))); all_goals refine R.Lft.mk ?_)
  refine R.WO_call2 rfl rfl R.vv R.vv ?_
  refine (indexFunc_Pc A n c L g cap p w hA hn hb hp).mono ?_
  rintro e w1 ⟨rfl, hb1⟩
  refine ⟨_, rfl, ?_⟩
  (refine R.stepV ?_; (repeat' (first | (with_reducible refine And.intro ?_ ?_) | (with_reducible intro _))); all_goals refine R.Lft.mk ?_)
  rw [ixOf_any]
  exact ⟨rfl, hb1⟩

theorem indexFunc_Pcs (A : Option Addr) (n c : Nat) (L : List (R.Sl Pc)) (g : FuncId) [R.HasBody Tryz.prog g] (cap : List Value) (p : (R.Sl Pc) → Bool) (w : World) (hA : R.Inp [] w A n 1 (L.flatMap R.cSl)) (hn : n = L.length) (hb : n ≤ 9223372036854775807)
    (hp : ∀ x w1, x ∈ L → Below w.heap.size w w1 → Calls Tryz.prog g ([Value.slice x.A x.n x.c] ++ cap).toArray w1 fun e w' => e = .returned (.bool (p x)) ∧ Below w1.heap.size w1 w') :
    Calls Tryz.prog 90 #[.slice A n c, .func (.func g) #[] cap.toArray] w fun e w' => e = .returned (.int .i64 (ixOf p L)) ∧ Below w.heap.size w w' := by
  have hM := R.Own.start [] w
  refine R.calls_of_WC (fn := Tryz.f90) Tryz.func90 rfl Tryz.ntmps90 (Nat.le_of_ble_eq_true rfl) ?_
  (refine R.stepV ?_; (repeat' (first | (with_reducible refine And.intro ?_ ?_) | (with_reducible intro _))); all_goals refine R.Lft.mk ?_)
  refine R.WC_loop (fun k : Nat => [(0, .slice A n c), (1, .func (.func g) #[] cap.toArray), (4, .int .i64 0), (7, .int .i64 (n : Nat)), (8, .int .i64 (k : Nat))])
    (fun k w1 => k ≤ n ∧ R.Own [] w w1 [] ∧ ∀ x ∈ L.take k, p x = false) (fun k => n - k) ⟨0, ⟨rfl, rfl, rfl, rfl, rfl, trivial⟩, by omega, hM, by simp⟩ ?_
  rintro k f w1 ⟨hk, hM, hall⟩
  by_cases hlt : k < n
  · have hx := R.nth_mem (L := L) (i := k) (by omega)
    have hcall := hp (nth L k) w1 hx hM.below
    (refine R.stepV ?_; (repeat' (first | (with_reducible refine And.intro ?_ ?_) | (with_reducible intro _))); all_goals refine R.Lft.mk ?_)
    refine R.WO_callc1 rfl rfl R.vv ?_
    refine hcall.mono ?_
    rintro e w2 ⟨rfl, hb2⟩
    have hM := hM.call hb2
    refine ⟨_, rfl, ?_⟩
    (refine R.stepV ?_; (repeat' (first | (with_reducible refine And.intro ?_ ?_) | (with_reducible intro _))); all_goals refine R.Lft.mk ?_)
    · rename_i hpx
      refine ⟨?_, hM.below⟩
      rw [ixOf_at (k := k) (by omega) hall (by rw [← R.nth_eq]; exact hpx)]
    · rename_i hpx
      exact ⟨k + 1, ⟨rfl, rfl, rfl, rfl, R.viaI rfl (by omega), trivial⟩, ⟨by omega, hM, all_snoc (by omega) hall hpx⟩, by omega⟩
  · obtain rfl : k = n := by omega
    (refine R.stepV ?_; (repeat' (first | (with_reducible refine And.intro ?_ ?_) | (with_reducible intro _))); all_goals refine R.Lft.mk ?_)
    refine ⟨?_, hM.below⟩
    rw [ixOf_none (by rw [hn, List.take_length] at hall; exact hall)]
theorem containsFunc_Pcs (A : Option Addr) (n c : Nat) (L : List (R.Sl Pc)) (g : FuncId) [R.HasBody Tryz.prog g] (cap : List Value) (p : (R.Sl Pc) → Bool) (w : World) (hA : R.Inp [] w A n 1 (L.flatMap R.cSl)) (hn : n = L.length) (hb : n ≤ 9223372036854775807)
    (hp : ∀ x w1, x ∈ L → Below w.heap.size w w1 → Calls Tryz.prog g ([Value.slice x.A x.n x.c] ++ cap).toArray w1 fun e w' => e = .returned (.bool (p x)) ∧ Below w1.heap.size w1 w') :
    Calls Tryz.prog 68 #[.slice A n c, .func (.func g) #[] cap.toArray] w fun e w' => e = .returned (.bool (L.any p)) ∧ Below w.heap.size w w' := by
  refine R.calls_of_WC (fn := Tryz.f68) Tryz.func68 rfl Tryz.ntmps68 (Nat.le_of_ble_eq_true rfl) ?_
  (refine R.stepV ?_; (repeat' (first | (with_reducible refine And.intro ?_ ?_) | (with_reducible intro _))); all_goals refine R.Lft.mk ?_)
  refine R.WO_call2 rfl rfl R.vv R.vv ?_
  refine (indexFunc_Pcs A n c L g cap p w hA hn hb hp).mono ?_
  rintro e w1 ⟨rfl, hb1⟩
  refine ⟨_, rfl, ?_⟩
  (refine R.stepV ?_; (repeat' (first | (with_reducible refine And.intro ?_ ?_) | (with_reducible intro _))); all_goals refine R.Lft.mk ?_)
  rw [ixOf_any]
  exact ⟨rfl, hb1⟩

end Go.Proofs.YtmoppmfbfpjdnaaGreat
