/- slices.BinarySearchFunc on bans. -/
import Derived.Test.YtoainfnhmdcpoaaTb
namespace Go.Proofs.Ytoainfnhmdcpoaa
open Go.RowKit
open R (In64 InU64 lo64 nth)

theorem ltB_trans {a b c : Bn} (h : ltB a b = true) (g : ltB b c = true) : ltB a c = true := by
  rw [ltB_iff] at h g ⊢
  rcases h with h | ⟨h, h2 | ⟨h2, h3, h4⟩⟩
  · rcases g with g | ⟨g, _⟩ <;> exact .inl (by omega)
  · rcases g with g | ⟨g, g2 | ⟨g2, _⟩⟩
    · exact .inl (by omega)
    · exact .inr ⟨by omega, .inl (by omega)⟩
    · exact .inr ⟨by omega, .inl (by omega)⟩
  · rcases g with g | ⟨g, g2 | ⟨g2, g3, _⟩⟩
    · exact .inl (by omega)
    · exact .inr ⟨by omega, .inl (by omega)⟩
    · rw [h4] at g3
      cases g3
theorem ltB_self (a : Bn) : ltB a a = false := by
  cases h : ltB a a with
  | false => rfl
  | true =>
    rw [ltB_iff] at h
    rcases h with h | ⟨_, h | ⟨_, h, g⟩⟩
    · omega
    · omega
    · rw [h] at g
      cases g
theorem ltB_tri {a b : Bn} (h : ltB a b = false) : a = b ∨ ltB b a = true := by
  by_cases e : a = b
  · exact .inl e
  · refine .inr ?_
    rw [ltB_iff]
    have h : ¬ ltB a b = true := by rw [h]; decide
    rw [ltB_iff] at h
    have k : a.frm = b.frm → a.to = b.to → a.only ≠ b.only := fun h1 h2 h3 => e (by cases a; cases b; simp_all)
    cases ha : a.only <;> cases hb : b.only <;> rw [ha, hb] at h k <;> simp at h k ⊢ <;> omega
/-- A row of bans that rises. -/
def riseB (L : List Bn) : Prop := ∀ i j, i < j → j < L.length → ltB (nth L i) (nth L j) = true
theorem riseB_of {L : List Bn} (h : ∀ i, i + 1 < L.length → ltB (nth L i) (nth L (i + 1)) = true) : riseB L := fun i j hij hj => by
  induction j with
  | zero => exact absurd hij (Nat.not_lt_zero _)
  | succ j ih =>
    have h1 := h j hj
    rcases Nat.lt_succ_iff_lt_or_eq.1 hij with h2 | rfl
    · exact ltB_trans (ih h2 (by omega)) h1
    · exact h1
/-- The place of a ban. -/
def placeB (L : List Bn) (t : Bn) (i : Nat) : Prop := i ≤ L.length ∧ (∀ j, j < i → ltB (nth L j) t = true) ∧ ∀ j, i ≤ j → j < L.length → ltB (nth L j) t = false
set_option maxHeartbeats 1000000 in
attribute [local irreducible] ordB ltB in
theorem searchB (A : Option Addr) (n c : Nat) (L : List Bn) (t : Bn) (w : World) (hA : R.Inp [] w A n 3 (L.flatMap cBn)) (hn : n = L.length) (hb : n ≤ 1000000000) (hr : riseB L) :
    Calls Try.prog 150 #[.slice A n c, .agg (cBn t).toArray, .func (.func 151) #[] #[]] w fun e w' => (∃ i : Nat, placeB L t i ∧ e = .returned (.tuple #[.int .i64 (i : Nat), .bool (decide (t ∈ L))])) ∧ Below w.heap.size w w' := by
  have hM := R.Own.start [] w
  refine R.calls_of_WC (fn := Try.f150) Try.func150 rfl Try.ntmps150 (Nat.le_of_ble_eq_true rfl) ?_
  (refine R.stepV ?_; (repeat' (first | (with_reducible refine And.intro ?_ ?_) | (with_reducible intro _))); all_goals refine R.Lft.mk ?_)
  rename_i g w1 hM
  refine R.WC_loop (fun (i : Nat × Nat) => [(0, .slice A n c), (2, .func (.func 151) #[] #[]), (4, .pointer (some ⟨g, 0, none⟩)), (6, .int .i64 0), (7, .bool false), (8, .int .i64 (n : Nat)), (9, .int .i64 (i.1 : Nat)), (10, .int .i64 (i.2 : Nat))])
    (fun i w1 => i.1 ≤ i.2 ∧ i.2 ≤ n ∧ R.Own [] w w1 [.blk g 130 (cBn t)] ∧ (∀ j, j < i.1 → ltB (nth L j) t = true) ∧ (∀ j, i.2 ≤ j → j < L.length → ltB (nth L j) t = false)) (fun i => i.2 - i.1)
    ⟨(0, n), ⟨rfl, rfl, rfl, rfl, rfl, rfl, rfl, rfl, trivial⟩, by simp, by simp, hM, by simp, by intro j h1 h2; simp at h1; omega⟩ ?_
  clear hM
  rintro ⟨i, j⟩ f w1 ⟨hij, hj, hM, h1, h2⟩
  simp only at hij hj hM h1 h2 ⊢
  by_cases hlt : i < j
  · obtain ⟨h, hh⟩ : ∃ h : Nat, ((i : Int) + j) / 2 = h := ⟨(i + j) / 2, by omega⟩
    have hh1 : i ≤ h := by omega
    have hh2 : h < j := by omega
    have hth : ((h : Nat) : Int).toNat = h := Int.toNat_natCast h
    (refine R.stepV ?_; (repeat' (first | (with_reducible refine And.intro ?_ ?_) | (with_reducible intro _))); all_goals refine R.Lft.mk ?_)
    · rename_i hx
      rw [hh, hth] at hx
      have hx := ordB_lt.1 hx
      exact ⟨(h + 1, j), ⟨rfl, rfl, rfl, rfl, rfl, rfl, R.viaI rfl (by simp only; omega), rfl, trivial⟩, ⟨by simp only; omega, hj, R.ohm, fun q hq => by
        simp only at hq
        rcases Nat.lt_or_ge q h with g | g
        · exact ltB_trans (hr q h g (by omega)) hx
        · obtain rfl : q = h := by omega
          exact hx, h2⟩, by simp only; omega⟩
    · rename_i hx
      rw [hh, hth] at hx
      have hx : ¬ ltB (nth L h) t = true := fun g => hx (ordB_lt.2 g)
      exact ⟨(i, h), ⟨rfl, rfl, rfl, rfl, rfl, rfl, rfl, R.viaI rfl (by simp only; omega), trivial⟩, ⟨by simp only; omega, by simp only; omega, R.ohm, h1, fun q hq hq2 => by
        simp only at hq
        cases hc : ltB (nth L q) t with
        | false => rfl
        | true =>
          rcases Nat.lt_or_ge h q with g | g
          · exact absurd (ltB_trans (hr h q g hq2) hc) hx
          · obtain rfl : q = h := by omega
            exact absurd hc hx⟩, by simp only; omega⟩
  · obtain rfl : i = j := by omega
    have hp : placeB L t i := ⟨by omega, h1, h2⟩
    have hmem : t ∈ L ↔ i < n ∧ nth L i = t := by
      constructor
      · intro hm
        obtain ⟨q, hq, hqt⟩ := List.getElem_of_mem hm
        rw [← R.nth_eq hq] at hqt
        have c1 : ¬ q < i := fun hqi => by
          have := h1 q hqi
          rw [hqt, ltB_self] at this
          cases this
        have c2 : ¬ i < q := fun hqi => by
          have g1 := hr i q hqi hq
          have g2 := h2 i (Nat.le_refl _) (by omega)
          rw [hqt, g2] at g1
          cases g1
        obtain rfl : q = i := by omega
        exact ⟨by omega, hqt⟩
      · rintro ⟨hi, hit⟩
        rw [← hit]
        exact R.nth_mem (by omega)
    by_cases hin : i < n
    · have he : decide (ordB (nth L i) t = 0) = decide (t ∈ L) := decide_eq_decide.2 ⟨fun g => hmem.2 ⟨hin, ordB_eq.1 g⟩, fun g => ordB_eq.2 (hmem.1 g).2⟩
      (refine R.stepU ?_; (repeat' (first | (with_reducible refine And.intro ?_ ?_) | (with_reducible intro _))); all_goals refine R.Lft.mk ?_)
      refine R.WC_planO [(0, false), (1, false), (2, false), (3, false), (4, false), (5, false), (6, false), (7, false), (8, false), (9, false), (10, false), (11, true), (12, false), (13, false), (14, false), (15, false)] R.mixed (by decide +kernel) R.ohm ?_
      (refine R.stepU ?_; (repeat' (first | (with_reducible refine And.intro ?_ ?_) | (with_reducible intro _))); all_goals refine R.Lft.mk ?_)
      all_goals first
        | (exfalso; omega)
        | exact ⟨⟨i, hp, by rw [he]⟩, R.Own.below (by assumption)⟩
    · have he := decide_eq_false (fun hm => hin (hmem.1 hm).1)
      (refine R.stepU ?_; (repeat' (first | (with_reducible refine And.intro ?_ ?_) | (with_reducible intro _))); all_goals refine R.Lft.mk ?_)
      refine R.WC_planO [(0, false), (1, false), (2, false), (3, false), (4, false), (5, false), (6, false), (7, false), (8, false), (9, false), (10, false), (11, true), (12, false), (13, false), (14, false), (15, false)] R.mixed (by decide +kernel) R.ohm ?_
      (refine R.stepU ?_; (repeat' (first | (with_reducible refine And.intro ?_ ?_) | (with_reducible intro _))); all_goals refine R.Lft.mk ?_)
      all_goals first
        | (exfalso; omega)
        | exact ⟨⟨i, hp, by rw [he]⟩, R.Own.below (by assumption)⟩
end Go.Proofs.Ytoainfnhmdcpoaa
