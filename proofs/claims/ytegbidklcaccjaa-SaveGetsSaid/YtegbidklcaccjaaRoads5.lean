/- Package roads: Same, and the document's. -/
import Derived.Test.YtegbidklcaccjaaRoads4
namespace Go.Proofs.Ytegbidklcaccjaa
open Go.RowKit
open R (In64 InU64 lo64 nth)
/-- What a road says. -/
structure RV where
  id : Int
  pts : List Pt
  ws : List Int
  one : Bool
  deriving DecidableEq
def vR (x : Road) : RV := ⟨x.rank, x.p.L, x.q.L, x.both⟩
def eqR (a b : Road) : Bool := decide (vR a = vR b)
def eqRs (A B : List Road) : Bool := decide (A.map vR = B.map vR)
theorem nth_cons0 {T : Type} [Inhabited T] {x : T} {l : List T} : nth (x :: l) 0 = x := rfl
theorem nth_consS {T : Type} [Inhabited T] {x : T} {l : List T} {k : Nat} : nth (x :: l) (k + 1) = nth l k := rfl
theorem list_nth {T : Type} [Inhabited T] {L M : List T} (hl : L.length = M.length) (h : ∀ j, j < L.length → nth L j = nth M j) : L = M := by
  induction L generalizing M with
  | nil =>
    cases M with
    | nil => rfl
    | cons y m => cases hl
  | cons x l ih =>
    cases M with
    | nil => cases hl
    | cons y m =>
      have h0 := h 0 (Nat.succ_pos _)
      rw [nth_cons0, nth_cons0] at h0
      rw [h0, ih (Nat.succ.inj hl) fun j hj => h (j + 1) (Nat.succ_lt_succ hj)]
theorem map_nth {A B : List Road} (hl : A.length = B.length) (h : ∀ j, j < A.length → vR (nth A j) = vR (nth B j)) : A.map vR = B.map vR := by
  induction A generalizing B with
  | nil =>
    cases B with
    | nil => rfl
    | cons y m => cases hl
  | cons x l ih =>
    cases B with
    | nil => cases hl
    | cons y m =>
      have h0 := h 0 (Nat.succ_pos _)
      rw [nth_cons0, nth_cons0] at h0
      rw [List.map_cons, List.map_cons, h0, ih (Nat.succ.inj hl) fun j hj => h (j + 1) (Nat.succ_lt_succ hj)]
theorem nth_map {A B : List Road} (he : A.map vR = B.map vR) : A.length = B.length ∧ ∀ j, vR (nth A j) = vR (nth B j) := by
  induction A generalizing B with
  | nil =>
    cases B with
    | nil => exact ⟨rfl, fun _ => rfl⟩
    | cons y m => cases he
  | cons x l ih =>
    cases B with
    | nil => cases he
    | cons y m =>
      rw [List.map_cons, List.map_cons] at he
      injection he with h1 h2
      obtain ⟨h3, h4⟩ := ih h2
      refine ⟨by rw [List.length_cons, List.length_cons, h3], fun j => ?_⟩
      cases j with
      | zero => exact h1
      | succ j => exact h4 j
theorem eqR_f {a b : Road} (h : a.rank ≠ b.rank ∨ a.both ≠ b.both ∨ a.p.L ≠ b.p.L ∨ a.q.L ≠ b.q.L) : eqR a b = false := by
  refine decide_eq_false fun he => ?_
  unfold vR at he
  injection he with h1 h2 h3 h4
  rcases h with h | h | h | h
  · exact h h1
  · exact h h4
  · exact h h2
  · exact h h3
theorem eqR_t {a b : Road} (h1 : a.rank = b.rank) (h2 : a.both = b.both) (h3 : a.p.L = b.p.L) (h4 : a.q.L = b.q.L) : eqR a b = true := by
  refine decide_eq_true ?_
  unfold vR
  rw [h1, h2, h3, h4]
theorem eqRs_f {A B : List Road} {k : Nat} (h : A.length ≠ B.length ∨ eqR (nth A k) (nth B k) = false) : eqRs A B = false := by
  refine decide_eq_false fun he => ?_
  obtain ⟨h1, h2⟩ := nth_map he
  rcases h with h | h
  · exact h h1
  · exact of_decide_eq_false h (h2 k)
theorem eqRs_t {A B : List Road} (hl : A.length = B.length) (h : ∀ j, j < A.length → eqR (nth A j) (nth B j) = true) : eqRs A B = true :=
  decide_eq_true (map_nth hl fun j hj => of_decide_eq_true (h j hj))
theorem snocN {Q : Nat → Prop} {k : Nat} (h : ∀ j, j < k → Q j) (h0 : Q k) : ∀ j, j < k + 1 → Q j := fun j hj => by
  rcases Nat.lt_succ_iff_lt_or_eq.1 hj with h1 | rfl
  · exact h j h1
  · exact h0
theorem one_any (a b : Road) (w : World) (ha : GRoad w a) (hb : GRoad w b) : Calls Try.prog 85 #[.agg (cRoad a).toArray, .agg (cRoad b).toArray] w fun e w' => e = .returned (.bool (eqR a b)) ∧ Below w.heap.size w w' := by
  have hM := R.Own.start [] w
  obtain ⟨_, ⟨hp, hpl, hpc, hpg⟩, ⟨hq, hql, hqc, hqg⟩, _⟩ := ha
  obtain ⟨_, ⟨hp2, hpl2, hpc2, hpg2⟩, ⟨hq2, hql2, hqc2, hqg2⟩, _⟩ := hb
  refine R.calls_of_WC (fn := Try.f85) Try.func85 rfl Try.ntmps85 (Nat.le_of_ble_eq_true rfl) ?_
  (refine R.step ?_; (repeat' (first | (with_reducible refine And.intro ?_ ?_) | (with_reducible intro _))); all_goals refine R.Lft.mk ?_)
  · rename_i h1
    exact ⟨by rw [eqR_f (.inl h1)], R.Own.below R.ohm⟩
  · rename_i h2
    have h2 : a.both ≠ b.both := fun he => by simp [he] at h2
    exact ⟨by rw [eqR_f (.inr (.inl h2))], R.Own.below R.ohm⟩
  · rename_i h3
    have h3 : a.p.L ≠ b.p.L := fun he => by
      rw [he] at hpl
      omega
    exact ⟨by rw [eqR_f (.inr (.inr (.inl h3)))], R.Own.below R.ohm⟩
  · rename_i h3
    have h3 : a.q.L ≠ b.q.L := fun he => by
      rw [he] at hql
      omega
    exact ⟨by rw [eqR_f (.inr (.inr (.inr h3)))], R.Own.below R.ohm⟩
  rename_i ba _ _ bb _ _ h1 h2 h3 h4
  have h1 := Decidable.not_not.1 h1
  have h2 : a.both = b.both := by simpa using h2
  refine R.WC_loop (fun k : Nat => [(2, .pointer (some ⟨ba, 0, none⟩)), (3, .pointer (some ⟨bb, 0, none⟩)), (4, .bool false), (5, .int .i64 (k : Nat))])
    (fun k w1 => k ≤ a.p.n ∧ R.Own [] w w1 [.blk bb 93 (cRoad b), .blk ba 93 (cRoad a)] ∧ ∀ j, j < k → nth a.p.L j = nth b.p.L j) (fun k => a.p.n - k) ⟨0, ⟨rfl, rfl, rfl, rfl, trivial⟩, Nat.zero_le _, R.ohm, fun j hj => absurd hj (Nat.not_lt_zero _)⟩ ?_
  clear hM
  rintro k f w1 ⟨hk, hM, hall⟩
  by_cases hlt : k < a.p.n
  · (refine R.step ?_; (repeat' (first | (with_reducible refine And.intro ?_ ?_) | (with_reducible intro _))); all_goals refine R.Lft.mk ?_)
    · rename_i hh
      have hne : a.p.L ≠ b.p.L := fun he => hh (by rw [he])
      exact ⟨by rw [eqR_f (.inr (.inr (.inl hne)))], R.Own.below R.ohm⟩
    · rename_i hh
      exact ⟨k + 1, ⟨rfl, rfl, rfl, R.viaI rfl (by omega), trivial⟩, ⟨by omega, R.ohm, snocN hall (Decidable.not_not.1 hh)⟩, by omega⟩
  have h3 : a.p.L = b.p.L := list_nth (by omega) fun j hj => hall j (by omega)
  clear hall
  (refine R.step ?_; (repeat' (first | (with_reducible refine And.intro ?_ ?_) | (with_reducible intro _))); all_goals refine R.Lft.mk ?_)
  refine R.WC_loop (fun k : Nat => [(2, .pointer (some ⟨ba, 0, none⟩)), (3, .pointer (some ⟨bb, 0, none⟩)), (4, .bool false), (6, .int .i64 (k : Nat))])
    (fun k w1 => k ≤ a.q.n ∧ R.Own [] w w1 [.blk bb 93 (cRoad b), .blk ba 93 (cRoad a)] ∧ ∀ j, j < k → nth a.q.L j = nth b.q.L j) (fun k => a.q.n - k) ⟨0, ⟨rfl, rfl, rfl, rfl, trivial⟩, Nat.zero_le _, R.ohm, fun j hj => absurd hj (Nat.not_lt_zero _)⟩ ?_
  clear hM hlt hk
  rintro k f w1 ⟨hk, hM, hall⟩
  by_cases hlt : k < a.q.n
  · (refine R.step ?_; (repeat' (first | (with_reducible refine And.intro ?_ ?_) | (with_reducible intro _))); all_goals refine R.Lft.mk ?_)
    · rename_i hh
      have hne : a.q.L ≠ b.q.L := fun he => hh (by rw [he])
      exact ⟨by rw [eqR_f (.inr (.inr (.inr hne)))], R.Own.below R.ohm⟩
    · rename_i hh
      exact ⟨k + 1, ⟨rfl, rfl, rfl, R.viaI rfl (by omega), trivial⟩, ⟨by omega, R.ohm, snocN hall (Decidable.not_not.1 hh)⟩, by omega⟩
  have h4 : a.q.L = b.q.L := list_nth (by omega) fun j hj => hall j (by omega)
  (refine R.step ?_; (repeat' (first | (with_reducible refine And.intro ?_ ?_) | (with_reducible intro _))); all_goals refine R.Lft.mk ?_)
  exact ⟨by rw [eqR_t h1 h2 h3 h4], R.Own.below R.ohm⟩
section
variable (A B : Option Addr) (n c m d : Nat) (L M : List Road) (w : World) (hA : R.Inp [] w A n 4 (L.flatMap cRoad)) (hB : R.Inp [] w B m 4 (M.flatMap cRoad)) (hn : n = L.length) (hm : m = M.length) (hb : n ≤ 1000000000) (hG : ∀ x ∈ L, GRoad w x) (hH : ∀ x ∈ M, GRoad w x) (hs : ∀ x ∈ L, x.p.n ≤ 1000000000 ∧ x.q.n ≤ 1000000000)
include hA hB hn hm hb hG hH hs
omit hs in
theorem same11_any : Calls Try.prog 62 #[.slice A n c, .slice B m d] w fun e w' => e = .returned (.bool (eqRs L M)) ∧ Below w.heap.size w w' := by
  have hM := R.Own.start [] w
  by_cases hl : n = m
  · refine R.calls_of_WC (fn := Try.f62) Try.func62 rfl Try.ntmps62 (Nat.le_of_ble_eq_true rfl) ?_
    subst hl
    (refine R.step ?_; (repeat' (first | (with_reducible refine And.intro ?_ ?_) | (with_reducible intro _))); all_goals refine R.Lft.mk ?_)
    refine R.WC_loop (fun k : Nat => [(0, .slice A n c), (1, .slice B n d), (4, .bool false), (5, .int .i64 (k : Nat))])
      (fun k w1 => k ≤ n ∧ R.Own [] w w1 [] ∧ ∀ j, j < k → eqR (nth L j) (nth M j) = true) (fun k => n - k) ⟨0, ⟨rfl, rfl, rfl, rfl, trivial⟩, Nat.zero_le _, hM, fun j hj => absurd hj (Nat.not_lt_zero _)⟩ ?_
    clear hM
    rintro k f w1 ⟨hk, hM, hall⟩
    by_cases hlt : k < n
    · have hx := hG _ (R.nth_mem (L := L) (i := k) (by omega))
      have hy := hH _ (R.nth_mem (L := M) (i := k) (by omega))
      (refine R.step ?_; (repeat' (first | (with_reducible refine And.intro ?_ ?_) | (with_reducible intro _))); all_goals refine R.Lft.mk ?_)
      refine R.WO_call2 rfl rfl R.vv R.vv ?_
      refine (one_any (nth L k) (nth M k) _ (GRoad.now R.ohm hx) (GRoad.now R.ohm hy)).mono ?_
      rintro _ w2 ⟨rfl, hb2⟩
      have hM := R.Own.call R.ohm hb2
      refine ⟨_, rfl, ?_⟩
      by_cases he : eqR (nth L k) (nth M k) = true
      · rw [he]
        (refine R.step ?_; (repeat' (first | (with_reducible refine And.intro ?_ ?_) | (with_reducible intro _))); all_goals refine R.Lft.mk ?_)
        exact ⟨k + 1, ⟨rfl, rfl, rfl, R.viaI rfl (by omega), trivial⟩, ⟨by omega, R.ohm, snocN hall he⟩, by omega⟩
      · have he := Bool.eq_false_iff.2 he
        rw [he]
        (refine R.step ?_; (repeat' (first | (with_reducible refine And.intro ?_ ?_) | (with_reducible intro _))); all_goals refine R.Lft.mk ?_)
        exact ⟨by rw [eqRs_f (.inr he)], R.Own.below R.ohm⟩
    · (refine R.step ?_; (repeat' (first | (with_reducible refine And.intro ?_ ?_) | (with_reducible intro _))); all_goals refine R.Lft.mk ?_)
      exact ⟨by rw [eqRs_t (by omega) fun j hj => hall j (by omega)], R.Own.below R.ohm⟩
  · refine R.calls_of_WC (fn := Try.f62) Try.func62 rfl Try.ntmps62 (Nat.le_of_ble_eq_true rfl) ?_
    (refine R.step ?_; (repeat' (first | (with_reducible refine And.intro ?_ ?_) | (with_reducible intro _))); all_goals refine R.Lft.mk ?_)
    exact ⟨by rw [eqRs_f (k := 0) (.inl (by omega))], R.Own.below R.ohm⟩
end
end Go.Proofs.Ytegbidklcaccjaa
