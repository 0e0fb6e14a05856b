/- snicketref20: the walks. -/
import Derived.Test.YtmmfndmfibbhcaaHf
import Derived.Test.YtmmfndmfibbhcaaClosed2
namespace Go.Proofs.Ytmmfndmfibbhcaa
open Go.RowKit
open R (In64 InU64 lo64 nth)
theorem find20_any (A : Option Addr) (n c : Nat) (L : List Item) (a : Int) (w : World) (hA : R.Inp [] w A n 2 (L.flatMap cItem)) (hn : n = L.length) (hb : n ≤ 1000000000) : Calls Try.prog 36 #[.slice A n c, .int .i64 a] w fun e w' => e = .returned (.int .i64 (ixOf (fun x => decide (x.at_ = a)) L)) ∧ Below w.heap.size w w' := by
  have hM := R.Own.start [] w
  refine R.calls_of_WC (fn := Try.f36) Try.func36 rfl Try.ntmps36 (Nat.le_of_ble_eq_true rfl) ?_
  (refine R.step ?_; (repeat' (first | (with_reducible refine And.intro ?_ ?_) | (with_reducible intro _))); all_goals refine R.Lft.mk ?_)
  refine R.WC_loop (fun k : Nat => [(0, .slice A n c), (1, .int .i64 a), (4, .int .i64 0), (5, .int .i64 (k : Nat))])
    (fun k w1 => k ≤ n ∧ R.Own [] w w1 [] ∧ ∀ x ∈ L.take k, decide (x.at_ = a) = false) (fun k => n - k) ⟨0, ⟨rfl, rfl, rfl, rfl, trivial⟩, by omega, R.ohm, by simp⟩ ?_
  clear hM
  rintro k f w1 ⟨hk, hM, hall⟩
  by_cases hlt : k < n
  · (refine R.step ?_; (repeat' (first | (with_reducible refine And.intro ?_ ?_) | (with_reducible intro _))); all_goals refine R.Lft.mk ?_)
    · rw [ixOf_at (k := k) (by omega) hall (by rw [← R.nth_eq, decide_eq_true (by assumption)])]
      exact ⟨rfl, R.Own.below (by assumption)⟩
    · have h : ¬ (nth L k).at_ = a := by assumption
      exact ⟨k + 1, ⟨rfl, rfl, rfl, R.viaI rfl (by omega), trivial⟩, ⟨by omega, R.ohm, all_snoc (by omega) hall (decide_eq_false h)⟩, by omega⟩
  · obtain rfl : k = n := by omega
    rw [hn, List.take_length] at hall
    (refine R.step ?_; (repeat' (first | (with_reducible refine And.intro ?_ ?_) | (with_reducible intro _))); all_goals refine R.Lft.mk ?_)
    rw [ixOf_none hall]
    exact ⟨rfl, R.Own.below (by assumption)⟩
instance con_find20 (A : Option Addr) (n c : Nat) (a : Int) : R.ConB Try.prog 36 #[.slice A n c, .int .i64 a] (List Item) (fun L w => R.Inp [] w A n 2 (L.flatMap cItem) ∧ n = L.length ∧ n ≤ 1000000000) (fun L => .int .i64 (ixOf (fun x => decide (x.at_ = a)) L)) := ⟨fun L w h => find20_any A n c L a w h.1 h.2.1 h.2.2⟩
/-- The place of the least one; -1: there is none. -/
def LeastAt (L : List Item) (k : Nat) (v : Int) : Prop := (k = 0 ∧ v = -1) ∨ ∃ j, j < k ∧ v = ((j : Nat) : Int) ∧ ∀ i, i < k → ¬ ltP (nth L i) (nth L j)
theorem least20_any (A : Option Addr) (n c : Nat) (L : List Item) (w : World) (hA : R.Inp [] w A n 2 (L.flatMap cItem)) (hn : n = L.length) (hb : n ≤ 1000000000) : Calls Try.prog 31 #[.slice A n c] w fun e w' => ∃ v, e = .returned (.int .i64 v) ∧ LeastAt L n v ∧ Below w.heap.size w w' := by
  have hM := R.Own.start [] w
  refine R.calls_of_WC (fn := Try.f31) Try.func31 rfl Try.ntmps31 (Nat.le_of_ble_eq_true rfl) ?_
  (refine R.step ?_; (repeat' (first | (with_reducible refine And.intro ?_ ?_) | (with_reducible intro _))); all_goals refine R.Lft.mk ?_)
  refine R.WC_loop (fun s : Nat × Int => [(0, .slice A n c), (2, .int .i64 0), (3, .int .i64 s.2), (4, .int .i64 (s.1 : Nat))])
    (fun s w1 => s.1 ≤ n ∧ LeastAt L s.1 s.2 ∧ R.Own [] w w1 []) (fun s => n - s.1) ⟨(0, -1), ⟨rfl, rfl, rfl, rfl, trivial⟩, Nat.zero_le _, .inl ⟨rfl, rfl⟩, R.ohm⟩ ?_
  clear hM
  rintro ⟨k, v⟩ f w1 ⟨hk, hv, hM⟩
  dsimp only at hk hv hM ⊢
  by_cases hlt : k < n
  · rcases hv with ⟨rfl, rfl⟩ | ⟨j, hj, rfl, hall⟩
    · (refine R.step ?_; (repeat' (first | (with_reducible refine And.intro ?_ ?_) | (with_reducible intro _))); all_goals refine R.Lft.mk ?_)
      exact ⟨(1, 0), ⟨rfl, rfl, rfl, R.viaI rfl (by dsimp only; omega), trivial⟩, ⟨by dsimp only; omega, .inr ⟨0, by dsimp only; omega, rfl, fun i hi => by
        obtain rfl : i = 0 := by dsimp only at hi; omega
        exact ltP_irr _⟩, R.ohm⟩, by dsimp only; omega⟩
    · have up : ∀ i, i < k + 1 → i < k ∨ i = k := fun i _ => by omega
      by_cases hl : ltP (nth L k) (nth L j)
      · have hl2 := hl
        unfold ltP at hl2
        (refine R.step ?_; (repeat' (first | (with_reducible refine And.intro ?_ ?_) | (with_reducible intro _))); all_goals refine R.Lft.mk ?_)
        all_goals first
          | (exfalso; omega)
          | (refine ⟨(k + 1, (k : Nat)), ⟨rfl, rfl, rfl, R.viaI rfl (by dsimp only; omega), trivial⟩, ⟨by dsimp only; omega, .inr ⟨k, by dsimp only; omega, rfl, fun i hi => ?_⟩, R.ohm⟩, by dsimp only; omega⟩
             rcases up i hi with h | h
             · exact leP_trans (ltP_asym hl) (hall i h)
             · rw [h]; exact ltP_irr _)
      · have hl2 := hl
        unfold ltP at hl2
        (refine R.step ?_; (repeat' (first | (with_reducible refine And.intro ?_ ?_) | (with_reducible intro _))); all_goals refine R.Lft.mk ?_)
        all_goals first
          | (exfalso; omega)
          | (refine ⟨(k + 1, (j : Nat)), ⟨rfl, rfl, rfl, R.viaI rfl (by dsimp only; omega), trivial⟩, ⟨by dsimp only; omega, .inr ⟨j, by dsimp only; omega, rfl, fun i hi => ?_⟩, R.ohm⟩, by dsimp only; omega⟩
             rcases up i hi with h | h
             · exact hall i h
             · rw [h]; exact hl)
  · obtain rfl : k = n := by omega
    (refine R.step ?_; (repeat' (first | (with_reducible refine And.intro ?_ ?_) | (with_reducible intro _))); all_goals refine R.Lft.mk ?_)
    exact ⟨v, rfl, hv, R.Own.below (by assumption)⟩
/-- The items of a list are those that κ tells. -/
structure ItemsOk (L : List Item) (κ : Int → Option Int) : Prop where
  inj : ∀ i j, i < L.length → j < L.length → (nth L i).at_ = (nth L j).at_ → i = j
  has : Holds2 L κ
theorem ItemsOk.nil : ItemsOk [] (fun _ => none) := ⟨fun i j hi => absurd hi (Nat.not_lt_zero _), fun x => ⟨fun h => (by cases h), fun h => (by cases h)⟩⟩
theorem ItemsOk.find {L : List Item} {κ : Int → Option Int} (h : ItemsOk L κ) (a : Int) : (κ a = none ∧ ixOf (fun x => decide (x.at_ = a)) L = -1) ∨ ∃ j, j < L.length ∧ ixOf (fun x => decide (x.at_ = a)) L = ((j : Nat) : Int) ∧ (nth L j).at_ = a ∧ κ a = some (nth L j).key := by
  cases hk : κ a with
  | none =>
    refine .inl ⟨rfl, ixOf_none fun x hx => decide_eq_false fun e => ?_⟩
    have := (h.has x).1 hx
    rw [e, hk] at this
    cases this
  | some k =>
    obtain ⟨j, hj, e⟩ := mem_nth.1 ((h.has ⟨k, a⟩).2 hk)
    refine .inr ⟨j, hj, ?_, by rw [e], by rw [e]⟩
    refine ixOf_at hj (fun x hx => decide_eq_false fun e2 => ?_) (by rw [← R.nth_eq hj, e]; exact decide_eq_true rfl)
    obtain ⟨i, hi, rfl⟩ := List.getElem_of_mem hx
    rw [List.length_take] at hi
    rw [List.getElem_take, ← R.nth_eq (by omega)] at e2
    have := h.inj i j (by omega) hj (by rw [e2, e])
    omega
theorem ItemsOk.app {L : List Item} {κ : Int → Option Int} (h : ItemsOk L κ) {x : Item} (hx : κ x.at_ = none) : ItemsOk (L ++ [x]) (R.putM κ x.at_ x.key) := by
  have hne : ∀ i, i < L.length → (nth L i).at_ ≠ x.at_ := fun i hi e => by
    have := (h.has _).1 (R.nth_mem hi)
    rw [e, hx] at this
    cases this
  constructor
  · intro i j hi hj e
    rw [List.length_append, List.length_singleton] at hi hj
    rcases Nat.lt_or_ge i L.length with c | c
    · rcases Nat.lt_or_ge j L.length with d | d
      · rw [nth_app c, nth_app d] at e
        exact h.inj i j c d e
      · obtain rfl : j = L.length := by omega
        rw [nth_app c, nth_last] at e
        exact absurd e (hne i c)
    · obtain rfl : i = L.length := by omega
      rcases Nat.lt_or_ge j L.length with d | d
      · rw [nth_app d, nth_last] at e
        exact absurd e.symm (hne j d)
      · omega
  · intro y
    rw [List.mem_append, h.has, List.mem_singleton]
    by_cases e : y.at_ = x.at_
    · rw [e, hx, R.putM_same]
      constructor
      · rintro (c | rfl)
        · cases c
        · rfl
      · intro c
        injection c with c
        exact .inr (by cases y; cases x; simp_all)
    · rw [R.putM_ne e]
      constructor
      · rintro (c | rfl)
        · exact c
        · exact absurd rfl e
      · exact .inl
theorem ItemsOk.set {L : List Item} {κ : Int → Option Int} (h : ItemsOk L κ) {j : Nat} {x : Item} (hj : j < L.length) (hx : (nth L j).at_ = x.at_) : ItemsOk (L.set j x) (R.putM κ x.at_ x.key) := by
  have e : ∀ q, q < L.length → (nth (L.set j x) q).at_ = (nth L q).at_ := fun q hq => by
    rw [nth_set hq]
    split
    · rename_i c; rw [← c, hx]
    · rfl
  constructor
  · intro p q hp hq c
    rw [List.length_set] at hp hq
    rw [e p hp, e q hq] at c
    exact h.inj p q hp hq c
  · intro y
    rw [mem_nth, List.length_set]
    by_cases c : y.at_ = x.at_
    · rw [c, R.putM_same]
      constructor
      · rintro ⟨q, hq, rfl⟩
        rw [e q hq] at c
        have := h.inj q j hq hj (by rw [c, hx])
        subst this
        rw [nth_set hq, if_pos rfl]
      · intro d
        injection d with d
        exact ⟨j, hj, by rw [nth_set hj, if_pos rfl]; cases y; cases x; simp_all⟩
    · rw [R.putM_ne c, ← h.has, mem_nth]
      constructor
      · rintro ⟨q, hq, rfl⟩
        by_cases d : j = q
        · subst d; rw [nth_set hj, if_pos rfl] at c; exact absurd rfl c
        · exact ⟨q, hq, by rw [nth_set hq, if_neg d]⟩
      · rintro ⟨q, hq, rfl⟩
        have d : j ≠ q := fun d => c (by rw [← d, hx])
        exact ⟨q, hq, by rw [nth_set hq, if_neg d]⟩
theorem ItemsOk.del {L : List Item} {κ : Int → Option Int} (h : ItemsOk L κ) {j : Nat} (hj : j < L.length) : ItemsOk (L.take j ++ L.drop (j + 1)) (R.delM κ (nth L j).at_) := by
  have hnd : L.Pairwise (fun a b => a.at_ ≠ b.at_) := List.pairwise_iff_getElem.2 fun i k hi hk hik e => by
    rw [← R.nth_eq hi, ← R.nth_eq hk] at e
    have := h.inj i k hi hk e
    omega
  have hsplit : L = L.take j ++ nth L j :: L.drop (j + 1) := by
    rw [R.nth_eq hj, ← List.drop_eq_getElem_cons hj, List.take_append_drop]
  have hp := hnd
  rw [hsplit] at hp
  obtain ⟨p1, p2, p3⟩ := List.pairwise_append.1 hp
  obtain ⟨p4, p5⟩ := List.pairwise_cons.1 p2
  have hnew : (L.take j ++ L.drop (j + 1)).Pairwise (fun a b => a.at_ ≠ b.at_) := List.pairwise_append.2 ⟨p1, p5, fun a ha b hb => p3 a ha b (List.mem_cons_of_mem _ hb)⟩
  constructor
  · intro i k hi hk e
    rcases Nat.lt_trichotomy i k with c | c | c
    · have := List.pairwise_iff_getElem.1 hnew i k hi hk c
      rw [← R.nth_eq hi, ← R.nth_eq hk] at this
      exact absurd e this
    · exact c
    · have := List.pairwise_iff_getElem.1 hnew k i hk hi c
      rw [← R.nth_eq hi, ← R.nth_eq hk] at this
      exact absurd e.symm this
  · intro y
    have hm : y ∈ L ↔ y ∈ L.take j ∨ y = nth L j ∨ y ∈ L.drop (j + 1) := by
      have : y ∈ L ↔ y ∈ L.take j ++ nth L j :: L.drop (j + 1) := by rw [← hsplit]
      rw [this, List.mem_append, List.mem_cons]
    rw [List.mem_append]
    by_cases e : y.at_ = (nth L j).at_
    · rw [e, R.delM_same]
      refine ⟨?_, fun d => by cases d⟩
      rintro (c | c)
      · exact absurd e (p3 y c _ (List.mem_cons_self ..))
      · exact absurd e.symm (p4 y c)
    · rw [R.delM_ne e, ← h.has, hm]
      constructor
      · rintro (c | c)
        · exact .inl c
        · exact .inr (.inr c)
      · rintro (c | c | c)
        · exact .inl c
        · exact absurd (by rw [c]) e
        · exact .inr c
end Go.Proofs.Ytmmfndmfibbhcaa
