/- The law ClosedWays. -/
import Derived.Test.YtmmfndmfibbhcaaClosed2
namespace Go.Proofs.Ytmmfndmfibbhcaa
open Go.ChangeShapes Go.WideShapes Go.ChangeAt Go.RowKit
open R (In64 InU64 lo64 nth)

instance con_awake28 : R.ConB Try.prog 49 #[] Unit (fun _ _ => True) (fun _ => .bool true) := ⟨fun _ w _ => awake28 w⟩
theorem ways_no (A : Option Addr) (n c : Nat) (L : List Int) (many : Int) (w : World) (hA : R.Inp [] w A n 1 (L.flatMap R.cI)) (hn : n = L.length) (hb : n ≤ 1000000000) (ho : ¬ okSet L many) :
    Calls Try.prog 52 #[.slice A n c, .int .i64 many] w fun en w' => en = .returned (.tuple #[.slice none 0 0, .int .i64 1]) ∧ w = w' := by
  have hchk := check_any A n c L many w hA hn hb
  rw [if_neg ho] at hchk
  refine R.calls_of_WC (fn := Try.f52) Try.func52 rfl Try.ntmps52 (Nat.le_of_ble_eq_true rfl) ?_
  (refine R.step ?_; (repeat' (first | (with_reducible refine And.intro ?_ ?_) | (with_reducible intro _))); all_goals refine R.Lft.mk ?_)
  refine R.WO_call2 rfl rfl R.vv R.vv ?_
  refine hchk.mono ?_
  rintro e w' ⟨rfl, rfl⟩
  refine ⟨_, rfl, ?_⟩
  (refine R.step ?_; (repeat' (first | (with_reducible refine And.intro ?_ ?_) | (with_reducible intro _))); all_goals refine R.Lft.mk ?_)
  exact ⟨rfl, rfl⟩
/-- The first hit behind k. -/
def FH (p : Int → Bool) (Q : List Int) (k : Nat) (v : Int) : Prop := (v = -1 ∧ ∀ i, k ≤ i → i < Q.length → p (nth Q i) = false) ∨ (∃ j : Nat, v = j ∧ k ≤ j ∧ j < Q.length ∧ p (nth Q j) = true ∧ ∀ i, k ≤ i → i < j → p (nth Q i) = false)
theorem FH_end {p : Int → Bool} {Q : List Int} {v : Int} (h : FH p Q 0 v) : v = ixOf p Q := by
  rcases h with ⟨rfl, h⟩ | ⟨j, rfl, _, hj, hp, h⟩
  · refine (ixOf_none fun x hx => ?_).symm
    obtain ⟨i, hi, rfl⟩ := List.getElem_of_mem hx
    rw [← R.nth_eq hi]
    exact h i (Nat.zero_le _) hi
  · refine (ixOf_at hj (fun x hx => ?_) (by rw [← R.nth_eq]; exact hp)).symm
    obtain ⟨i, hi, rfl⟩ := List.getElem_of_mem hx
    rw [List.length_take] at hi
    rw [List.getElem_take, ← R.nth_eq]
    exact h i (Nat.zero_le _) (by omega)
theorem FH_next {p : Int → Bool} {Q : List Int} {k : Nat} {v : Int} (hk : k < Q.length) (h : FH p Q (k + 1) v) : FH p Q k (if p (nth Q k) = true then k else v) := by
  by_cases hp : p (nth Q k) = true
  · rw [if_pos hp]
    exact .inr ⟨k, rfl, Nat.le_refl _, hk, hp, fun i h1 h2 => by omega⟩
  · rw [if_neg hp]
    have hp' : p (nth Q k) = false := by simpa using hp
    rcases h with ⟨rfl, h⟩ | ⟨j, rfl, h1, h2, h3, h4⟩
    · refine .inl ⟨rfl, fun i h1 h2 => ?_⟩
      rcases Nat.eq_or_lt_of_le h1 with h5 | h5
      · rw [← h5]; exact hp'
      · exact h i h5 h2
    · refine .inr ⟨j, rfl, by omega, h2, h3, fun i h5 h6 => ?_⟩
      rcases Nat.eq_or_lt_of_le h5 with h7 | h7
      · rw [← h7]; exact hp'
      · exact h4 i h7 h6
theorem ways_both (A : Option Addr) (n c : Nat) (L : List Int) (many : Int) (w : World) (hA : R.Inp [] w A n 1 (L.flatMap R.cI)) (hn : n = L.length) (hb : n ≤ 1000000000) :
    Calls Try.prog 52 #[.slice A n c, .int .i64 many] w fun en w' => ∃ A' n' c' er l, en = .returned (.tuple #[.slice A' n' c', .int .i64 er]) ∧ R.Own [] w w' l ∧ ((okSet L many ∧ er = 0 ∧ n' = (2 * many).toNat ∧ l = [.row A' n' c' 4 1 ((waysOf L many).flatMap R.cB)]) ∨ (¬ okSet L many ∧ er = 1 ∧ n' = 0)) := by
  by_cases ho : okSet L many
  · refine (ways_any A n c L many w hA hn hb ho).mono ?_
    rintro en w' ⟨A', c', rfl, hG⟩
    exact ⟨A', _, c', _, _, rfl, (R.Own.start [] w).give hG, .inl ⟨ho, rfl, rfl, rfl⟩⟩
  · refine (ways_no A n c L many w hA hn hb ho).mono ?_
    rintro en w' ⟨rfl, rfl⟩
    exact ⟨none, 0, 0, _, [], rfl, R.Own.start [] w, .inr ⟨ho, rfl, rfl⟩⟩
theorem ways_nth {L : List Int} {many : Int} (ho : okSet L many) (k : Nat) (hk : (k : Int) < 2 * many) : nth (waysOf L many) k = decide ((k : Int) / 2 ∈ L) := by
  have h0 := ho.1
  have hk' : k < (waysOf L many).length := by simp [waysOf]; omega
  rw [R.nth_eq hk']
  simp only [waysOf, List.getElem_map, List.getElem_range]
  rw [decide_eq_decide]
  constructor
  · intro h
    obtain ⟨x, hx, hxk⟩ := List.mem_map.1 h
    have := (ho.2.2.1 x hx).1
    have : x = (k : Int) / 2 := by omega
    exact this ▸ hx
  · intro h
    exact List.mem_map.2 ⟨_, h, by omega⟩
set_option maxHeartbeats 4000000 in
theorem closedWays_any (A B : Option Addr) (n c m d : Nat) (L Q : List Int) (many : Int) (w : World) (hA : R.Inp [] w A n 1 (L.flatMap R.cI)) (hn : n = L.length) (hB : R.Inp [] w B m 1 (Q.flatMap R.cI)) (hm : m = Q.length) (hQ : ∀ x ∈ Q, x ≤ 9223372036854775807) (hmany : In64 many) :
    Calls Try.prog 11 #[.slice A n c, .int .i64 many, .slice B m d] w fun en w' => en = .returned (.bool true) ∧ Below w.heap.size w w' := by
  have hM := R.Own.start [] w
  unfold In64 at hmany
  refine R.calls_of_WC (fn := Try.f11) Try.func11 rfl Try.ntmps11 (Nat.le_of_ble_eq_true rfl) ?_
  (refine R.step ?_; (repeat' (first | (with_reducible refine And.intro ?_ ?_) | (with_reducible intro _))); all_goals refine R.Lft.mk ?_; (all_goals (try (exact ⟨rfl, R.Own.below (by assumption)⟩))))
  rename_i hn1 hm1
  refine R.WO_call2 rfl rfl R.vv R.vv ?_
  refine (ways_both A n c L many _ hA hn (by omega)).mono ?_
  rintro e w1 ⟨A1, n1, c1, er, l, rfl, hM, hl⟩
  refine ⟨_, rfl, ?_⟩
  (refine R.step ?_; (repeat' (first | (with_reducible refine And.intro ?_ ?_) | (with_reducible intro _))); all_goals refine R.Lft.mk ?_; (all_goals (try (exact ⟨rfl, R.Own.below (by assumption)⟩))))
  refine R.WO_call2 rfl rfl R.vv R.vv ?_
  refine (hit_any A B n c m d L Q _ (hM.inpIn hA) hn (by omega) (hM.inpIn hB) hm (by omega) hQ).mono ?_
  rintro e w2 ⟨rfl, hb⟩
  have hM := hM.call hb
  refine ⟨_, rfl, ?_⟩
  (refine R.step ?_; (repeat' (first | (with_reducible refine And.intro ?_ ?_) | (with_reducible intro _))); all_goals refine R.Lft.mk ?_; (all_goals (try (exact ⟨rfl, R.Own.below (by assumption)⟩))))
  refine R.WC_loop (fun s : Nat × Int => [(0, .slice A n c), (1, .int .i64 many), (2, .slice B m d), (6, .bool false), (7, .slice A1 n1 c1), (8, .int .i64 er), (9, .int .i64 (if ixOf (hits L) Q < 0 then 0 else ixOf (hits L) Q)), (10, .bool (decide (¬ ixOf (hits L) Q < 0))), (11, .int .i64 s.2), (12, .int .i64 ((s.1 : Int) - 1))])
    (fun s w3 => s.1 ≤ m ∧ R.Own [] w w3 l ∧ FH (hits L) Q s.1 s.2) (fun s => s.1) ⟨(m, -1), ⟨rfl, rfl, rfl, rfl, rfl, rfl, rfl, rfl, rfl, rfl, trivial⟩, Nat.le_refl _, hM, .inl ⟨rfl, fun i h1 h2 => by omega⟩⟩ ?_
  rintro ⟨k, v⟩ f w3 ⟨hk, hM, hF⟩
  simp only at hk hF
  rcases k with _ | k
  · have hv := FH_end hF
    subst hv
    clear hF
    generalize hvv : ixOf (hits L) Q = v at *
    rcases hl with ⟨ho, her, hn2, rfl⟩ | ⟨ho, her, hn2⟩
    · have hm0 := ho.1
      have hm1 := ho.2.1
      have hways := ways_nth ho
      have hwl : n1 = (waysOf L many).length := by simp [waysOf]; omega
      (refine R.step ?_; (repeat' (first | (with_reducible refine And.intro ?_ ?_) | (with_reducible intro _))); all_goals refine R.Lft.mk ?_; (all_goals (try (exact ⟨rfl, R.Own.below (by assumption)⟩))))
      all_goals first
        | (exfalso; clear hM hA hB hways hwl; by_cases hv : v < 0 <;> simp_all <;> omega)
        | skip
      all_goals
        rename_i w4 hM4 _
        refine R.WC_loop (fun k : Nat => [(0, .slice A n c), (6, .bool false), (7, .slice A1 n1 c1), (13, .int .i64 (k : Nat))])
          (fun k w5 => k ≤ n1 ∧ R.Own [] w w5 [.row A1 n1 c1 4 1 ((waysOf L many).flatMap R.cB)]) (fun k => n1 - k) ⟨0, ⟨rfl, rfl, rfl, rfl, trivial⟩, by omega, hM4⟩ ?_
        rintro k f w5 ⟨hk, hM⟩
        by_cases hlt : k < n1
        · have hwk := hways k (by omega)
          (refine R.step ?_; (repeat' (first | (with_reducible refine And.intro ?_ ?_) | (with_reducible intro _))); all_goals refine R.Lft.mk ?_; (all_goals (try (exact ⟨rfl, R.Own.below (by assumption)⟩))))
          · rename_i h
            exfalso
            rw [hwk] at h
            simp at h
          · exact ⟨k + 1, ⟨rfl, rfl, rfl, R.viaI rfl (by omega), trivial⟩, ⟨by omega, by assumption⟩, by omega⟩
        · obtain rfl : k = n1 := by omega
          (refine R.step ?_; (repeat' (first | (with_reducible refine And.intro ?_ ?_) | (with_reducible intro _))); all_goals refine R.Lft.mk ?_; (all_goals (try (exact ⟨rfl, R.Own.below (by assumption)⟩))))
    · (refine R.step ?_; (repeat' (first | (with_reducible refine And.intro ?_ ?_) | (with_reducible intro _))); all_goals refine R.Lft.mk ?_; (all_goals (try (exact ⟨rfl, R.Own.below (by assumption)⟩))))
      all_goals (exfalso; clear hM hA hB; by_cases hv : v < 0 <;> simp_all <;> omega)
  · have hFn : FH (hits L) Q k (if hits L (nth Q k) = true then k else v) := FH_next (by omega) hF
    have hk1 : (((k + 1 : Nat) : Int) - 1).toNat = k := by omega
    have hk2 : (((k + 1 : Nat) : Int) - 1) = (k : Nat) := by omega
    dsimp only
    rw [hk2]
    have hq := hQ _ (R.nth_mem (L := Q) (i := k) (by omega))
    (refine R.step ?_; (repeat' (first | (with_reducible refine And.intro ?_ ?_) | (with_reducible intro _))); all_goals refine R.Lft.mk ?_; (all_goals (try (exact ⟨rfl, R.Own.below (by assumption)⟩))))
    · rename_i h1 h2
      rw [if_pos (by simp [hits, h1, h2])] at hFn
      exact ⟨(k, (k : Int)), ⟨rfl, rfl, rfl, rfl, rfl, rfl, rfl, rfl, rfl, rfl, trivial⟩, ⟨by show k ≤ m; omega, by assumption, hFn⟩, by show k < k + 1; omega⟩
    · rename_i h1 h2
      rw [if_neg (by simp [hits, h1, h2])] at hFn
      exact ⟨(k, v), ⟨rfl, rfl, rfl, rfl, rfl, rfl, rfl, rfl, rfl, rfl, trivial⟩, ⟨by show k ≤ m; omega, by assumption, hFn⟩, by show k < k + 1; omega⟩
    · rename_i h1
      rw [if_neg (by simp [hits, h1])] at hFn
      exact ⟨(k, v), ⟨rfl, rfl, rfl, rfl, rfl, rfl, rfl, rfl, rfl, rfl, trivial⟩, ⟨by show k ≤ m; omega, by assumption, hFn⟩, by show k < k + 1; omega⟩
end Go.Proofs.Ytmmfndmfibbhcaa
