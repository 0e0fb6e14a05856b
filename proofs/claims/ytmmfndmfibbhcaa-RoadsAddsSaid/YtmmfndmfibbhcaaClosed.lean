/- Package closed, without closing: what may be a set, which ways it closes, where a path hits one. -/
import Derived.Test.YtmmfndmfibbhcaaOpnB
import Derived.Test.YtmmfndmfibbhcaaFrame
namespace Go.Proofs.Ytmmfndmfibbhcaa
open Go.ChangeShapes Go.WideShapes Go.ChangeAt Go.RowKit
open R (In64 InU64 lo64 nth)

section
variable (A : Option Addr) (n c : Nat) (L : List Int) (e : Int) (w : World) (hA : R.Inp [] w A n 1 (L.flatMap R.cI)) (hn : n = L.length) (hb : n ≤ 1000000000)
include hA hn hb
theorem has28_any : Calls Try.prog 54 #[.slice A n c, .int .i64 e] w fun en w' => en = .returned (.bool (decide (e ∈ L))) ∧ w = w' := by
  have hM := R.Own.start [] w
  refine R.calls_of_WC (fn := Try.f54) Try.func54 rfl Try.ntmps54 (Nat.le_of_ble_eq_true rfl) ?_
  (refine R.step ?_; (repeat' (first | (with_reducible refine And.intro ?_ ?_) | (with_reducible intro _))); all_goals refine R.Lft.mk ?_)
  refine R.WC_loop (fun k : Nat => [(0, .slice A n c), (1, .int .i64 e), (4, .bool false), (5, .int .i64 (k : Nat))])
    (fun k w1 => k ≤ n ∧ w = w1 ∧ ∀ x ∈ L.take k, x ≠ e) (fun k => n - k) ⟨0, ⟨rfl, rfl, rfl, rfl, trivial⟩, by omega, rfl, by simp⟩ ?_
  rintro k f w1 ⟨hk, rfl, hall⟩
  by_cases hlt : k < n
  · have hmem := R.nth_mem (L := L) (i := k) (by omega)
    (refine R.step ?_; (repeat' (first | (with_reducible refine And.intro ?_ ?_) | (with_reducible intro _))); all_goals refine R.Lft.mk ?_)
    · rename_i h
      rw [decide_eq_true (h ▸ hmem)]
      exact ⟨rfl, rfl⟩
    · rename_i h
      exact ⟨k + 1, ⟨rfl, rfl, rfl, R.viaI rfl (by omega), trivial⟩, ⟨by omega, rfl, all_snoc (by omega) hall h⟩, by omega⟩
  · obtain rfl : k = n := by omega
    rw [hn, List.take_length] at hall
    have : e ∉ L := fun h => hall e h rfl
    (refine R.step ?_; (repeat' (first | (with_reducible refine And.intro ?_ ?_) | (with_reducible intro _))); all_goals refine R.Lft.mk ?_)
    rw [decide_eq_false this]
    exact ⟨rfl, rfl⟩
theorem index_int : Calls Try.prog 119 #[.slice A n c, .int .i64 e] w fun en w' => en = .returned (.int .i64 (ixOf (fun x => decide (e = x)) L)) ∧ w = w' := by
  have hM := R.Own.start [] w
  refine R.calls_of_WC (fn := Try.f119) Try.func119 rfl Try.ntmps119 (Nat.le_of_ble_eq_true rfl) ?_
  (refine R.step ?_; (repeat' (first | (with_reducible refine And.intro ?_ ?_) | (with_reducible intro _))); all_goals refine R.Lft.mk ?_)
  refine R.WC_loop (fun k : Nat => [(0, .slice A n c), (1, .int .i64 e), (4, .int .i64 0), (7, .int .i64 (n : Nat)), (8, .int .i64 (k : Nat))])
    (fun k w1 => k ≤ n ∧ w = w1 ∧ ∀ x ∈ L.take k, decide (e = x) = false) (fun k => n - k) ⟨0, ⟨rfl, rfl, rfl, rfl, rfl, trivial⟩, by omega, rfl, by simp⟩ ?_
  rintro k f w1 ⟨hk, rfl, hall⟩
  by_cases hlt : k < n
  · (refine R.step ?_; (repeat' (first | (with_reducible refine And.intro ?_ ?_) | (with_reducible intro _))); all_goals refine R.Lft.mk ?_)
    · rename_i h
      rw [ixOf_at (k := k) (by omega) hall (by rw [← R.nth_eq, decide_eq_true h])]
      exact ⟨rfl, rfl⟩
    · rename_i h
      exact ⟨k + 1, ⟨rfl, rfl, rfl, rfl, R.viaI rfl (by omega), trivial⟩, ⟨by omega, rfl, all_snoc (by omega) hall (decide_eq_false h)⟩, by omega⟩
  · obtain rfl : k = n := by omega
    rw [hn, List.take_length] at hall
    (refine R.step ?_; (repeat' (first | (with_reducible refine And.intro ?_ ?_) | (with_reducible intro _))); all_goals refine R.Lft.mk ?_)
    rw [ixOf_none hall]
    exact ⟨rfl, rfl⟩
theorem contains_int : Calls Try.prog 93 #[.slice A n c, .int .i64 e] w fun en w' => en = .returned (.bool (decide (e ∈ L))) ∧ w = w' := by
  refine R.calls_of_WC (fn := Try.f93) Try.func93 rfl Try.ntmps93 (Nat.le_of_ble_eq_true rfl) ?_
  (refine R.step ?_; (repeat' (first | (with_reducible refine And.intro ?_ ?_) | (with_reducible intro _))); all_goals refine R.Lft.mk ?_)
  refine R.WO_call2 rfl rfl R.vv R.vv ?_
  refine (index_int A n c L e w hA hn hb).mono ?_
  rintro en w' ⟨rfl, rfl⟩
  refine ⟨_, rfl, ?_⟩
  (refine R.step ?_; (repeat' (first | (with_reducible refine And.intro ?_ ?_) | (with_reducible intro _))); all_goals refine R.Lft.mk ?_)
  refine ⟨?_, rfl⟩
  rw [ixOf_any]
  congr 2
  rw [Bool.eq_iff_iff]
  simp
theorem chas_any : Calls Try.prog 58 #[.slice A n c, .int .i64 e] w fun en w' => en = .returned (.bool (decide (e ∈ L))) ∧ w = w' := by
  refine R.calls_of_WC (fn := Try.f58) Try.func58 rfl Try.ntmps58 (Nat.le_of_ble_eq_true rfl) ?_
  (refine R.step ?_; (repeat' (first | (with_reducible refine And.intro ?_ ?_) | (with_reducible intro _))); all_goals refine R.Lft.mk ?_)
  refine R.WO_call2 rfl rfl R.vv R.vv ?_
  refine (contains_int A n c L e w hA hn hb).mono ?_
  rintro en w' ⟨rfl, rfl⟩
  refine ⟨_, rfl, ?_⟩
  (refine R.step ?_; (repeat' (first | (with_reducible refine And.intro ?_ ?_) | (with_reducible intro _))); all_goals refine R.Lft.mk ?_)
  exact ⟨rfl, rfl⟩
end
/-- The numbers are a set of so many. -/
def okSet (L : List Int) (many : Int) : Prop := 0 ≤ many ∧ many ≤ 2000 ∧ (∀ x ∈ L, 0 ≤ x ∧ x < many) ∧ L.Pairwise (· < ·)
instance (L : List Int) (many : Int) : Decidable (okSet L many) := by unfold okSet; infer_instance
def prev (L : List Int) (k : Nat) : Int := if k = 0 then -1 else nth L (k - 1)
theorem prev_succ (L : List Int) (k : Nat) : prev L (k + 1) = nth L k := rfl
theorem pw_snoc {L : List Int} {k : Nat} (hk : k < L.length) (h : (L.take k).Pairwise (· < ·)) (hl : ∀ x ∈ L.take k, x ≤ prev L k) (hp : prev L k < nth L k) : (L.take (k + 1)).Pairwise (· < ·) ∧ ∀ x ∈ L.take (k + 1), x ≤ nth L k := by
  rw [take_snoc hk]
  refine ⟨List.pairwise_append.2 ⟨h, List.pairwise_singleton _ _, fun a ha b hb => ?_⟩, fun x hx => ?_⟩
  · simp at hb; subst hb
    have := hl a ha
    omega
  · rcases List.mem_append.1 hx with h1 | h1
    · have := hl x h1; omega
    · simp at h1; omega
theorem not_pw {L : List Int} {k : Nat} (hk : k < L.length) (h0 : 0 < k) (h : nth L k ≤ nth L (k - 1)) : ¬ L.Pairwise (· < ·) := fun hp => by
  have h1 := List.pairwise_iff_getElem.1 hp (k - 1) k (by omega) hk (by omega)
  rw [R.nth_eq hk, R.nth_eq (by omega : k - 1 < L.length)] at h
  omega
section
variable (A : Option Addr) (n c : Nat) (L : List Int) (many : Int) (w : World) (hA : R.Inp [] w A n 1 (L.flatMap R.cI)) (hn : n = L.length) (hb : n ≤ 1000000000)
include hA hn hb
theorem check_any : Calls Try.prog 57 #[.slice A n c, .int .i64 many] w fun en w' => en = .returned (.int .i64 (if okSet L many then 0 else 1)) ∧ w = w' := by
  have hM := R.Own.start [] w
  by_cases hmany : 0 ≤ many ∧ many ≤ 2000
  · obtain ⟨hm0, hm1⟩ := hmany
    refine R.calls_of_WC (fn := Try.f57) Try.func57 rfl Try.ntmps57 (Nat.le_of_ble_eq_true rfl) ?_
    (refine R.step ?_; (repeat' (first | (with_reducible refine And.intro ?_ ?_) | (with_reducible intro _))); all_goals refine R.Lft.mk ?_)
    refine R.WC_loop (fun k : Nat => [(1, .int .i64 many), (4, .int .i64 0), (5, .int .i64 (prev L k)), (14, .slice A n c), (15, .int .i64 (n : Nat)), (16, .int .i64 (k : Nat))])
      (fun k w1 => k ≤ n ∧ w = w1 ∧ (∀ x ∈ L.take k, 0 ≤ x ∧ x < many) ∧ (L.take k).Pairwise (· < ·) ∧ (∀ x ∈ L.take k, x ≤ prev L k) ∧ -1 ≤ prev L k) (fun k => n - k) ⟨0, ⟨rfl, rfl, rfl, rfl, rfl, rfl, trivial⟩, by omega, rfl, by simp, by simp, by simp, by simp [prev]⟩ ?_
    rintro k f w1 ⟨hk, rfl, h1, h2, h3, h4⟩
    by_cases hlt : k < n
    · have hkl : k < L.length := by omega
      have hmem := R.nth_mem hkl
      (refine R.step ?_; (repeat' (first | (with_reducible refine And.intro ?_ ?_) | (with_reducible intro _))); all_goals refine R.Lft.mk ?_)
      · rename_i h
        have : ¬ okSet L many := fun ho => by
          by_cases h0 : k = 0
          · subst h0
            have := (ho.2.2.1 _ hmem).1
            simp [prev] at h
            omega
          · unfold prev at h
            rw [if_neg h0] at h
            exact not_pw hkl (by omega) h ho.2.2.2
        rw [if_neg this]
        exact ⟨rfl, rfl⟩
      · rename_i h h'
        have : ¬ okSet L many := fun ho => by have := (ho.2.2.1 _ hmem).2; omega
        rw [if_neg this]
        exact ⟨rfl, rfl⟩
      · rename_i h h'
        obtain ⟨p1, p2⟩ := pw_snoc hkl h2 h3 (by omega)
        exact ⟨k + 1, ⟨rfl, rfl, rfl, rfl, rfl, R.viaI rfl (by omega), trivial⟩, ⟨by omega, rfl, all_snoc hkl h1 (by omega), p1, p2, by rw [prev_succ]; omega⟩, by omega⟩
    · obtain rfl : k = n := by omega
      rw [hn, List.take_length] at h1 h2
      have : okSet L many := ⟨hm0, hm1, h1, h2⟩
      (refine R.step ?_; (repeat' (first | (with_reducible refine And.intro ?_ ?_) | (with_reducible intro _))); all_goals refine R.Lft.mk ?_)
      rw [if_pos this]
      exact ⟨rfl, rfl⟩
  · have : ¬ okSet L many := fun ho => hmany ⟨ho.1, ho.2.1⟩
    rw [if_neg this]
    refine R.calls_of_WC (fn := Try.f57) Try.func57 rfl Try.ntmps57 (Nat.le_of_ble_eq_true rfl) ?_
    (refine R.step ?_; (repeat' (first | (with_reducible refine And.intro ?_ ?_) | (with_reducible intro _))); all_goals refine R.Lft.mk ?_)
    all_goals exact ⟨rfl, rfl⟩
theorem may28_any : Calls Try.prog 55 #[.slice A n c, .int .i64 many] w fun en w' => en = .returned (.bool (decide (okSet L many))) ∧ Below w.heap.size w w' := by
  have hM := R.Own.start [] w
  refine R.calls_of_WC (fn := Try.f55) Try.func55 rfl Try.ntmps55 (Nat.le_of_ble_eq_true rfl) ?_
  (refine R.step ?_; (repeat' (first | (with_reducible refine And.intro ?_ ?_) | (with_reducible intro _))); all_goals refine R.Lft.mk ?_)
  refine R.WC_loop (fun k : Nat => [(0, .slice A n c), (1, .int .i64 many), (4, .bool false), (5, .int .i64 (k : Nat))])
    (fun k w1 => k ≤ n ∧ R.Own [] w w1 [] ∧ (∀ x ∈ L.take k, 0 ≤ x ∧ x < many) ∧ (L.take k).Pairwise (· < ·) ∧ (∀ x ∈ L.take k, x ≤ prev L k)) (fun k => n - k) ⟨0, ⟨rfl, rfl, rfl, rfl, trivial⟩, by omega, hM, by simp, by simp, by simp⟩ ?_
  rintro k f w1 ⟨hk, hM, h1, h2, h3⟩
  by_cases hlt : k < n
  · have hkl : k < L.length := by omega
    have hmem := R.nth_mem hkl
    have hbad1 : ¬ (0 ≤ nth L k ∧ nth L k < many) → decide (okSet L many) = false := fun h => decide_eq_false fun ho => h (ho.2.2.1 _ hmem)
    have hk1 : ((k : Int) - 1).toNat = k - 1 := by omega
    (refine R.step ?_; (repeat' (first | (with_reducible refine And.intro ?_ ?_) | (with_reducible intro _))); all_goals refine R.Lft.mk ?_)
    · rw [hbad1 (by omega)]
      exact ⟨rfl, R.Own.below (by assumption)⟩
    · rw [hbad1 (by omega)]
      exact ⟨rfl, R.Own.below (by assumption)⟩
    · rename_i h
      rw [hk1] at h
      have : ¬ okSet L many := fun ho => not_pw hkl (by omega) h ho.2.2.2
      rw [decide_eq_false this]
      exact ⟨rfl, R.Own.below (by assumption)⟩
    · rename_i h0 h
      rw [hk1] at h
      have hp : prev L k = nth L (k - 1) := by unfold prev; rw [if_neg (by omega)]
      obtain ⟨p1, p2⟩ := pw_snoc hkl h2 h3 (by omega)
      exact ⟨k + 1, ⟨rfl, rfl, rfl, R.viaI rfl (by omega), trivial⟩, ⟨by omega, by assumption, all_snoc hkl h1 (by omega), p1, p2⟩, by omega⟩
    · rename_i h0
      have hp : prev L k = -1 := by unfold prev; rw [if_pos (by omega)]
      obtain ⟨p1, p2⟩ := pw_snoc hkl h2 h3 (by omega)
      exact ⟨k + 1, ⟨rfl, rfl, rfl, R.viaI rfl (by omega), trivial⟩, ⟨by omega, by assumption, all_snoc hkl h1 (by omega), p1, p2⟩, by omega⟩
  · obtain rfl : k = n := by omega
    rw [hn, List.take_length] at h1 h2
    (refine R.step ?_; (repeat' (first | (with_reducible refine And.intro ?_ ?_) | (with_reducible intro _))); all_goals refine R.Lft.mk ?_)
    · rename_i h0
      refine ⟨?_, hM.below⟩
      rw [show decide (many ≤ 2000) = decide (okSet L many) by rw [decide_eq_decide]; exact ⟨fun h => ⟨h0, h, h1, h2⟩, fun ho => ho.2.1⟩]
    · rename_i h0
      have : ¬ okSet L many := fun ho => h0 ho.1
      rw [decide_eq_false this]
      exact ⟨rfl, hM.below⟩
end
instance con_has28 (A : Option Addr) (n c : Nat) (e : Int) : R.ConP Try.prog 54 #[.slice A n c, .int .i64 e] (List Int) (fun L w => R.Inp [] w A n 1 (L.flatMap R.cI) ∧ n = L.length ∧ n ≤ 1000000000) (fun L => .bool (decide (e ∈ L))) := ⟨fun L w h => has28_any A n c L e w h.1 h.2.1 h.2.2⟩
instance con_chas (A : Option Addr) (n c : Nat) (e : Int) : R.ConP Try.prog 58 #[.slice A n c, .int .i64 e] (List Int) (fun L w => R.Inp [] w A n 1 (L.flatMap R.cI) ∧ n = L.length ∧ n ≤ 1000000000) (fun L => .bool (decide (e ∈ L))) := ⟨fun L w h => chas_any A n c L e w h.1 h.2.1 h.2.2⟩
instance con_may28 (A : Option Addr) (n c : Nat) (many : Int) : R.ConB Try.prog 55 #[.slice A n c, .int .i64 many] (List Int) (fun L w => R.Inp [] w A n 1 (L.flatMap R.cI) ∧ n = L.length ∧ n ≤ 1000000000) (fun L => .bool (decide (okSet L many))) := ⟨fun L w h => may28_any A n c L many w h.1 h.2.1 h.2.2⟩
/-- What a path hits. -/
def hits (L : List Int) (x : Int) : Bool := decide (0 ≤ x) && decide (x / 2 ∈ L)
theorem hit1_any (A : Option Addr) (n c : Nat) (L : List Int) (x : Int) (g : Nat) (w : World) (hx : x ≤ 9223372036854775807) (hc : w.cell? ⟨g, 0, none⟩ = some (.slice A n c)) (hA : R.Inp [] w A n 1 (L.flatMap R.cI)) (hn : n = L.length) (hb : n ≤ 1000000000) :
    Calls Try.prog 91 ([Value.int .i64 x] ++ [Value.pointer (some ⟨g, 0, none⟩)]).toArray w fun en w' => en = .returned (.bool (hits L x)) ∧ Below w.heap.size w w' := by
  have hM := R.Own.start [] w
  refine R.calls_of_WC (fn := Try.f91) Try.func91 rfl Try.ntmps91 (Nat.le_of_ble_eq_true rfl) ?_
  (refine R.step ?_; (repeat' (first | (with_reducible refine And.intro ?_ ?_) | (with_reducible intro _))); all_goals refine R.Lft.mk ?_)
  · rename_i h
    simp [hits, h, Below.refl]
  · rename_i h
    simp [hits, h, Below.refl]
theorem hit_any (A B : Option Addr) (n c m d : Nat) (L Q : List Int) (w : World) (hA : R.Inp [] w A n 1 (L.flatMap R.cI)) (hn : n = L.length) (hb : n ≤ 1000000000) (hB : R.Inp [] w B m 1 (Q.flatMap R.cI)) (hm : m = Q.length) (hb2 : m ≤ 1000000000) (hQ : ∀ x ∈ Q, x ≤ 9223372036854775807) :
    Calls Try.prog 53 #[.slice A n c, .slice B m d] w fun en w' => en = .returned (.tuple #[.int .i64 (if ixOf (hits L) Q < 0 then 0 else ixOf (hits L) Q), .bool (decide (¬ ixOf (hits L) Q < 0))]) ∧ Below w.heap.size w w' := by
  have hM := R.Own.start [] w
  refine R.calls_of_WC (fn := Try.f53) Try.func53 rfl Try.ntmps53 (Nat.le_of_ble_eq_true rfl) ?_
  (refine R.step ?_; (repeat' (first | (with_reducible refine And.intro ?_ ?_) | (with_reducible intro _))); all_goals refine R.Lft.mk ?_)
  rename_i g w1 hM
  refine R.WO_call2 rfl rfl R.vv R.vv ?_
  refine (indexFunc_Int B m d Q 91 [.pointer (some ⟨g, 0, none⟩)] (hits L) w1 (hM.inpIn hB) hm hb2 (fun x w2 hx hb3 => ?_)).mono ?_
  · have hM2 := hM.call hb3
    have hcell := hM2.rowAt (g := g) (.head _) 0 _ rfl
    rw [Addr.add_lit] at hcell
    exact hit1_any A n c L x g w2 (hQ x hx) hcell (hM2.inpIn hA) hn hb
  rintro e w2 ⟨rfl, hb2⟩
  have hM := hM.call hb2
  refine ⟨_, rfl, ?_⟩
  (refine R.step ?_; (repeat' (first | (with_reducible refine And.intro ?_ ?_) | (with_reducible intro _))); all_goals refine R.Lft.mk ?_)
  · rename_i h
    rw [if_pos h, decide_eq_false (by simpa using h)]
    exact ⟨rfl, hM.below⟩
  · rename_i h
    rw [if_neg h, decide_eq_true h]
    exact ⟨rfl, hM.below⟩
/-- Which ways are closed. -/
def waysOf (L : List Int) (many : Int) : List Bool := (List.range (2 * many.toNat)).map fun k => decide ((k / 2 : Nat) ∈ L.map Int.toNat)
theorem ways_set (L : List Int) (many : Int) (k : Nat) (hk : k < L.length) (h : ∀ x ∈ L, 0 ≤ x ∧ x < many) : (((waysOf (L.take k) many).set (2 * (nth L k)).toNat true).set (2 * (nth L k) + 1).toNat true) = waysOf (L.take (k + 1)) many := by
  obtain ⟨h0, h1⟩ := h _ (R.nth_mem hk)
  refine List.ext_getElem (by simp [waysOf]) fun j hj1 hj2 => ?_
  simp only [waysOf, List.length_map, List.length_range] at hj2
  simp only [waysOf, List.getElem_set, List.getElem_map, List.getElem_range]
  rw [take_snoc hk]
  simp only [List.map_append, List.map_cons, List.map_nil, List.mem_append, List.mem_singleton]
  by_cases a1 : (2 * nth L k + 1).toNat = j
  · rw [if_pos a1]; symm; rw [decide_eq_true_eq]; right; omega
  · rw [if_neg a1]
    by_cases a2 : (2 * nth L k).toNat = j
    · rw [if_pos a2]; symm; rw [decide_eq_true_eq]; right; omega
    · rw [if_neg a2, decide_eq_decide]
      constructor
      · exact fun h => .inl h
      · rintro (h | h)
        · exact h
        · omega
set_option maxHeartbeats 1000000 in
theorem ways_any (A : Option Addr) (n c : Nat) (L : List Int) (many : Int) (w : World) (hA : R.Inp [] w A n 1 (L.flatMap R.cI)) (hn : n = L.length) (hb : n ≤ 1000000000) (ho : okSet L many) :
    Calls Try.prog 52 #[.slice A n c, .int .i64 many] w fun en w' => ∃ A' c', en = .returned (.tuple #[.slice A' (2 * many).toNat c', .int .i64 0]) ∧ R.Gives w w' A' (2 * many).toNat c' 4 1 ((waysOf L many).flatMap R.cB) := by
  have hM := R.Own.start [] w
  have hchk := check_any A n c L many w hA hn hb
  rw [if_pos ho] at hchk
  obtain ⟨hm0, hm1, hall, _⟩ := ho
  refine R.calls_of_WC (fn := Try.f52) Try.func52 rfl Try.ntmps52 (Nat.le_of_ble_eq_true rfl) ?_
  (refine R.step ?_; (repeat' (first | (with_reducible refine And.intro ?_ ?_) | (with_reducible intro _))); all_goals refine R.Lft.mk ?_)
  refine R.WO_call2 rfl rfl R.vv R.vv ?_
  refine hchk.mono ?_
  rintro e w' ⟨rfl, rfl⟩
  refine ⟨_, rfl, ?_⟩
  (refine R.step ?_; (repeat' (first | (with_reducible refine And.intro ?_ ?_) | (with_reducible intro _))); all_goals refine R.Lft.mk ?_)
  rename_i A1 w1 hM
  refine R.WC_loop (fun k : Nat => [(4, .slice none 0 0), (7, .slice A1 (2 * many).toNat (2 * many).toNat), (19, .slice A n c), (20, .int .i64 (n : Nat)), (21, .int .i64 (k : Nat))])
    (fun k w2 => k ≤ n ∧ R.Own [] w w2 [.row A1 (2 * many).toNat (2 * many).toNat 4 1 ((waysOf (L.take k) many).flatMap R.cB)]) (fun k => n - k) ⟨0, ⟨rfl, rfl, rfl, rfl, rfl, trivial⟩, by omega, ?_⟩ ?_
  · have : waysOf (L.take 0) many = List.replicate (2 * many).toNat false := by
      rw [List.eq_replicate_iff]
      exact ⟨by simp [waysOf]; omega, fun b hb => by simp [waysOf] at hb; exact hb.2⟩
    rw [this]
    exact hM
  rintro k f w2 ⟨hk, hM⟩
  by_cases hlt : k < n
  · have hkl : k < L.length := by omega
    obtain ⟨h0, h1⟩ := hall _ (R.nth_mem hkl)
    have hw := ways_set L many k hkl hall
    have hwl : (waysOf (L.take k) many).length = (2 * many).toNat := by simp [waysOf]; omega
    have hwl2 : ((waysOf (L.take k) many).set (2 * (nth L k)).toNat true).length = (2 * many).toNat := by rw [List.length_set]; exact hwl
    (refine R.step ?_; (repeat' (first | (with_reducible refine And.intro ?_ ?_) | (with_reducible intro _))); all_goals refine R.Lft.mk ?_)
    rename_i w3 hM3 w4 hM4
    rw [hw] at hM4
    exact ⟨k + 1, ⟨rfl, rfl, rfl, rfl, R.viaI rfl (by omega), trivial⟩, ⟨by omega, hM4⟩, by omega⟩
  · obtain rfl : k = n := by omega
    rw [hn, List.take_length] at hM
    (refine R.step ?_; (repeat' (first | (with_reducible refine And.intro ?_ ?_) | (with_reducible intro _))); all_goals refine R.Lft.mk ?_)
    exact ⟨A1, _, rfl, hM.gives⟩
end Go.Proofs.Ytmmfndmfibbhcaa
