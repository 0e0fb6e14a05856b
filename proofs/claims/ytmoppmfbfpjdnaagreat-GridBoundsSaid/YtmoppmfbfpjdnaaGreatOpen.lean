/- What an argument of the numbers' types is. -/
import Derived.Test.YtmoppmfbfpjdnaaGreatWide3
import Derived.Test.YtmoppmfbfpjdnaaGreatFrame
import Derived.ProofKit
import Derived.OpenShut
namespace Go.Proofs.YtmoppmfbfpjdnaaGreat
open Go.ChangeShapes Go.WideShapes Go.ChangeAt Go.RowKit
open R (In64 InU64 lo64)

section
variable {H : Type} {enc : TypeId × Value → H} {P : Program} {W : World} {base : Nat} {sp : Nat → Bool} {held : Bool} {t e : TypeId} {cs : List Value} {x : DataW H × List MemPlace} {fuel : Nat}
theorem mapM_all {α β : Type} {f : α → Option β} : ∀ {l : List α} {ys : List β}, l.mapM f = some ys → ∀ a ∈ l, ∃ y, f a = some y
  | [], _, _, a, h => by cases h
  | b :: l, ys, hm, a, h => by
    rw [List.mapM_cons] at hm
    simp only [bind, Option.bind_eq_some_iff, pure] at hm
    obtain ⟨y, hy, zs, hz, _⟩ := hm
    rcases List.mem_cons.1 h with rfl | h
    · exact ⟨y, hy⟩
    · exact mapM_all hz a h
theorem trod_arr {n : Nat} (hu : P.underlying t = some (.array n e)) (h : DataW.trod enc P W base sp held fuel t cs = some x) :
    ∃ m, cs.length = P.cellsOf t ∧ ∀ i, i < n → ∃ y, DataW.trod enc P W base sp held m e ((cs.drop (i * P.cellsOf e)).take (P.cellsOf e)) = some y := by
  cases fuel with
  | zero => simp [DataW.trod] at h
  | succ m =>
    rw [DataW.trod_step] at h
    unfold DataW.trodStep at h
    simp only [hu] at h
    split at h
    · rename_i hl
      rw [Option.map_eq_some_iff] at h
      obtain ⟨ys, hy, _⟩ := h
      exact ⟨m, hl, fun i hi => mapM_all hy i (List.mem_range.2 hi)⟩
    · cases h
theorem trod_struct {fs : Array Field} (hu : P.underlying t = some (.struct fs)) (h : DataW.trod enc P W base sp held fuel t cs = some x) :
    ∃ m, cs.length = P.cellsOf t ∧ ∀ f ∈ fs.toList, ∃ y, DataW.trod enc P W base sp held m f.type ((cs.drop f.offset).take (P.cellsOf f.type)) = some y := by
  cases fuel with
  | zero => simp [DataW.trod] at h
  | succ m =>
    rw [DataW.trod_step] at h
    unfold DataW.trodStep at h
    simp only [hu] at h
    split at h
    · rename_i hl
      rw [Option.map_eq_some_iff] at h
      obtain ⟨ys, hy, _⟩ := h
      exact ⟨m, hl, fun f hf => mapM_all hy f hf⟩
    · cases h
end
theorem wd_cons0 (a r : Nat) (ha : a < 18446744073709551616) : wd (a + 18446744073709551616 * r) 0 = a := by unfold wd; omega
theorem wd_cons (a r k : Nat) (ha : a < 18446744073709551616) : wd (a + 18446744073709551616 * r) (k + 1) = wd r k := by
  unfold wd
  rw [show 64 * (k + 1) = 64 + 64 * k by omega, Nat.pow_add, ← Nat.div_div_eq_div_mul]
  congr 2
  omega
/-- The number of words. -/
def num : List Nat → Nat
  | [] => 0
  | a :: l => a + 18446744073709551616 * num l
theorem num_wd : ∀ (l : List Nat) (k : Nat), (∀ a ∈ l, a < 18446744073709551616) → wd (num l) k = l.getD k 0
  | [], k, _ => by simp [num, wd_zero]
  | a :: l, 0, h => wd_cons0 a _ (h a (.head _))
  | a :: l, k + 1, h => by
    rw [num, wd_cons _ _ _ (h a (.head _)), num_wd l k fun b hb => h b (.tail _ hb)]
    simp
theorem num_lt : ∀ (l : List Nat), (∀ a ∈ l, a < 18446744073709551616) → num l < wsz l.length
  | [], _ => by simp [num, wsz]
  | a :: l, h => by
    have h1 := num_lt l fun b hb => h b (.tail _ hb)
    have h2 := h a (.head _)
    unfold wsz at *
    rw [num, List.length_cons, pow_succ_word]
    omega
theorem wide_of_ints {cs : List Value} (hl : cs.length = 8) (h : ∀ i, i < 8 → ∃ a : Nat, a < 18446744073709551616 ∧ cs[i]? = some (.int .u64 (a : Nat))) : ∃ n, n < W512 ∧ cs = wcs n := by
  obtain ⟨a0, b0, c0⟩ := h 0 (by omega)
  obtain ⟨a1, b1, c1⟩ := h 1 (by omega)
  obtain ⟨a2, b2, c2⟩ := h 2 (by omega)
  obtain ⟨a3, b3, c3⟩ := h 3 (by omega)
  obtain ⟨a4, b4, c4⟩ := h 4 (by omega)
  obtain ⟨a5, b5, c5⟩ := h 5 (by omega)
  obtain ⟨a6, b6, c6⟩ := h 6 (by omega)
  obtain ⟨a7, b7, c7⟩ := h 7 (by omega)
  have hall : ∀ a ∈ [a0, a1, a2, a3, a4, a5, a6, a7], a < 18446744073709551616 := by
    intro a ha
    simp only [List.mem_cons, List.not_mem_nil, or_false] at ha
    rcases ha with rfl | rfl | rfl | rfl | rfl | rfl | rfl | rfl <;> assumption
  refine ⟨num [a0, a1, a2, a3, a4, a5, a6, a7], num_lt _ hall, ?_⟩
  refine List.ext_getElem? fun k => ?_
  have hw := num_wd [a0, a1, a2, a3, a4, a5, a6, a7]
  rcases Nat.lt_or_ge k 8 with hk | hk
  · rw [wcs_get _ k hk, hw k hall]
    match k, hk with
    | 0, _ => exact c0
    | 1, _ => exact c1
    | 2, _ => exact c2
    | 3, _ => exact c3
    | 4, _ => exact c4
    | 5, _ => exact c5
    | 6, _ => exact c6
    | 7, _ => exact c7
  · rw [List.getElem?_eq_none (by omega), List.getElem?_eq_none (by rw [wcs_length]; omega)]
section
variable {H : Type} {enc : TypeId × Value → H} {W : World} {base : Nat} {sp : Nat → Bool} {held : Bool} {cs : List Value} {x : DataW H × List MemPlace} {fuel : Nat}
theorem un43 : Tryz.prog.underlying 44 = some (.array 8 42) := by kernel_rfl
theorem co22 : Tryz.prog.cellsOf 42 = 1 := by kernel_rfl
theorem co43 : Tryz.prog.cellsOf 44 = 8 := by kernel_rfl
theorem trod_wide (h : DataW.trod enc Tryz.prog W base sp held fuel 44 cs = some x) : ∃ n, n < W512 ∧ cs = wcs n := by
  obtain ⟨m, hl, he⟩ := trod_arr un43 h
  rw [co43] at hl
  refine wide_of_ints hl fun i hi => ?_
  obtain ⟨y, hy⟩ := he i hi
  rw [co22, Nat.mul_one] at hy
  obtain ⟨a, ha, _, hw⟩ := DataW.trod_int un22 hy
  have hb := bounds_u64 hw
  refine ⟨a.toNat, by omega, ?_⟩
  have hd : (cs.drop i)[0]? = some (.int .u64 a) := by
    have := congrArg (·[0]?) ha
    simpa using this
  rw [List.getElem?_drop, Nat.add_zero] at hd
  rw [hd, Int.toNat_of_nonneg hb.1]
set_option linter.constructorNameAsVariable false in
theorem open_wide {r : Reach} {b0 : Nat} {v : Value} {d : DataW H} {ps : List MemPlace} (hval : Value.okWide Tryz.prog W r b0 44 v) (hd : DataW.Trod enc Tryz.prog W base sp held 44 v d ps) : ∃ n, n < W512 ∧ v = .agg (wcs n).toArray := by
  unfold Value.okWide at hval
  rw [un43] at hval
  obtain ⟨cells, rfl, _⟩ := hval
  obtain ⟨fuel, hf⟩ := hd
  obtain ⟨n, hn, he⟩ := trod_wide hf
  refine ⟨n, hn, ?_⟩
  rw [← he]
  rfl
end
end Go.Proofs.YtmoppmfbfpjdnaaGreat
