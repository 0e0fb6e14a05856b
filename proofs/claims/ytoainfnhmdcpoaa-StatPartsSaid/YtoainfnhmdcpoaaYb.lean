/- Package stat and snicketref50: degrees, counts, weights, the heaviest edge: the walks. -/
import Derived.Test.YtoainfnhmdcpoaaBw
import Derived.Test.YtoainfnhmdcpoaaCx
namespace Go.Proofs.Ytoainfnhmdcpoaa
open R (In64 InU64 lo64 nth)
/-- At how many of the first k edges a node ends. -/
def cntE (E : List Ed) (v : Nat) : Nat → Nat
  | 0 => 0
  | k + 1 => cntE E v k + if (nth E k).a = (v : Nat) ∨ (nth E k).b = (v : Nat) then 1 else 0
def degL (E : List Ed) (m k : Nat) : List Int := (List.range m).map fun v => ((cntE E v k : Nat) : Int)
theorem cntE_le (E : List Ed) (v : Nat) : ∀ k, cntE E v k ≤ k
  | 0 => Nat.le_refl _
  | k + 1 => by
    have := cntE_le E v k
    unfold cntE
    split <;> omega
theorem degL_len (E : List Ed) (m k : Nat) : (degL E m k).length = m := by simp [degL]
theorem degL_nth {E : List Ed} {m k v : Nat} (h : v < m) : nth (degL E m k) v = ((cntE E v k : Nat) : Int) := by
  rw [R.nth_eq (by rw [degL_len]; exact h)]
  simp [degL]
theorem degL_zero (E : List Ed) (m : Nat) : degL E m 0 = List.replicate m 0 := by
  refine List.ext_getElem (by simp [degL]) fun i h1 h2 => ?_
  simp [degL, cntE]
theorem nth_setI {L : List Int} {v u : Nat} {x : Int} (hv : v < L.length) : nth (L.set v x) u = if v = u then x else nth L u := by
  unfold R.nth
  rw [List.getD_eq_getElem?_getD, List.getD_eq_getElem?_getD, List.getElem?_set]
  by_cases e : v = u
  · subst e; rw [if_pos rfl, if_pos hv, if_pos rfl]; rfl
  · rw [if_neg e, if_neg e]
theorem list_eqI {L L' : List Int} (hl : L.length = L'.length) (h : ∀ i, i < L.length → nth L i = nth L' i) : L = L' := List.ext_getElem hl fun i h1 h2 => by
  have := h i h1
  rwa [R.nth_eq h1, R.nth_eq h2] at this
theorem degL_succ {E : List Ed} {m k a b : Nat} (ha : (nth E k).a = (a : Nat)) (hb : (nth E k).b = (b : Nat)) (hab : a ≠ b) (ham : a < m) (hbm : b < m) : degL E m (k + 1) = ((degL E m k).set a (nth (degL E m k) a + 1)).set b (nth ((degL E m k).set a (nth (degL E m k) a + 1)) b + 1) := by
  refine list_eqI (by simp [degL]) fun v hv => ?_
  rw [degL_len] at hv
  rw [degL_nth hv, nth_setI (by rw [List.length_set, degL_len]; exact hbm), nth_setI (by rw [degL_len]; exact ham), nth_setI (by rw [degL_len]; exact ham), if_neg hab, degL_nth hv, degL_nth ham, degL_nth hbm]
  show (((cntE E v k + if (nth E k).a = (v : Nat) ∨ (nth E k).b = (v : Nat) then 1 else 0 : Nat)) : Int) = _
  rw [ha, hb]
  by_cases e1 : b = v
  · subst e1
    rw [if_pos (.inr rfl), if_pos rfl]
    omega
  · rw [if_neg e1]
    by_cases e2 : a = v
    · subst e2
      rw [if_pos (.inl rfl), if_pos rfl]
      omega
    · rw [if_neg e2, if_neg (by omega)]
      omega
theorem sum_setI : ∀ {L : List Int} {i : Nat} {x : Int}, i < L.length → (L.set i x).sum = L.sum + x - nth L i
  | [], _, _, h => absurd h (Nat.not_lt_zero _)
  | a :: L, 0, x, _ => by
    show (x :: L).sum = (a :: L).sum + x - a
    rw [List.sum_cons, List.sum_cons]
    omega
  | a :: L, i + 1, x, h => by
    have h : i + 1 < L.length + 1 := h
    have := sum_setI (L := L) (i := i) (x := x) (by omega)
    show (a :: L.set i x).sum = (a :: L).sum + x - nth L i
    rw [List.sum_cons, List.sum_cons, this]
    omega
theorem sum_rep0 : ∀ m : Nat, (List.replicate m (0 : Int)).sum = 0
  | 0 => rfl
  | m + 1 => by rw [List.replicate_succ, List.sum_cons, sum_rep0 m]; rfl
theorem degL_sum {E : List Ed} {m : Nat} : ∀ k, (∀ i, i < k → ∃ a b : Nat, (nth E i).a = (a : Nat) ∧ (nth E i).b = (b : Nat) ∧ a ≠ b ∧ a < m ∧ b < m) → (degL E m k).sum = 2 * (k : Nat) := by
  intro k
  induction k with
  | zero => intro _; rw [degL_zero, sum_rep0]; rfl
  | succ k ih =>
    intro h
    have ih := ih fun i hi => h i (by omega)
    obtain ⟨a, b, h1, h2, h3, h4, h5⟩ := h k (by omega)
    rw [degL_succ h1 h2 h3 h4 h5, sum_setI (by rw [List.length_set, degL_len]; exact h5), sum_setI (by rw [degL_len]; exact h4), ih]
    omega
theorem sum_take {L : List Int} {k : Nat} (h : k < L.length) : (L.take (k + 1)).sum = (L.take k).sum + nth L k := by
  rw [List.take_succ_eq_append_getElem h, List.sum_append, R.nth_eq h]
  simp
/-- How many there are of each. -/
def ctN (L : List Int) (d : Int) : Nat → Nat
  | 0 => 0
  | k + 1 => ctN L d k + if nth L k = d then 1 else 0
def ctL (L : List Int) (m k : Nat) : List Int := (List.range m).map fun d => ((ctN L ((d : Nat) : Int) k : Nat) : Int)
theorem ctN_le (L : List Int) (d : Int) : ∀ k, ctN L d k ≤ k
  | 0 => Nat.le_refl _
  | k + 1 => by
    have := ctN_le L d k
    unfold ctN
    split <;> omega
theorem ctL_len (L : List Int) (m k : Nat) : (ctL L m k).length = m := by simp [ctL]
theorem ctL_nth {L : List Int} {m k d : Nat} (h : d < m) : nth (ctL L m k) d = ((ctN L ((d : Nat) : Int) k : Nat) : Int) := by
  rw [R.nth_eq (by rw [ctL_len]; exact h)]
  simp [ctL]
theorem ctL_zero (L : List Int) (m : Nat) : ctL L m 0 = List.replicate m 0 := by
  refine List.ext_getElem (by simp [ctL]) fun i h1 h2 => ?_
  simp [ctL, ctN]
theorem ctL_succ {L : List Int} {m k d : Nat} (hd : nth L k = (d : Nat)) (hm : d < m) : ctL L m (k + 1) = (ctL L m k).set d (nth (ctL L m k) d + 1) := by
  refine list_eqI (by simp [ctL]) fun v hv => ?_
  rw [ctL_len] at hv
  rw [ctL_nth hv, nth_setI (by rw [ctL_len]; exact hm), ctL_nth hv, ctL_nth hm]
  show (((ctN L ((v : Nat) : Int) k + if nth L k = ((v : Nat) : Int) then 1 else 0 : Nat)) : Int) = _
  rw [hd]
  by_cases e : d = v
  · subst e
    rw [if_pos rfl, if_pos rfl]
    omega
  · rw [if_neg (by omega), if_neg e]
    omega
theorem ctL_snoc (L : List Int) (m k : Nat) : ctL L (m + 1) k = ctL L m k ++ [((ctN L ((m : Nat) : Int) k : Nat) : Int)] := by
  unfold ctL
  rw [List.range_succ, List.map_append]
  rfl
/-- The greatest one. -/
def maxL (L : List Int) : Nat → Int
  | 0 => nth L 0
  | k + 1 => max (maxL L k) (nth L k)
theorem maxL_ge {L : List Int} {i : Nat} : ∀ {k : Nat}, i < k → nth L i ≤ maxL L k
  | 0, h => absurd h (Nat.not_lt_zero _)
  | k + 1, h => by
    show nth L i ≤ max (maxL L k) (nth L k)
    rcases Nat.lt_or_ge i k with c | c
    · have := maxL_ge (L := L) (i := i) (k := k) c
      omega
    · rw [show i = k by omega]
      omega
theorem maxL_in {L : List Int} : ∀ k : Nat, 0 < L.length → k ≤ L.length → ∃ i, i < L.length ∧ maxL L k = nth L i
  | 0, h, _ => ⟨0, h, rfl⟩
  | k + 1, h, hk => by
    obtain ⟨i, hi, e⟩ := maxL_in k h (by omega)
    show ∃ i, i < L.length ∧ max (maxL L k) (nth L k) = nth L i
    rcases Int.le_total (maxL L k) (nth L k) with c | c
    · exact ⟨k, by omega, by omega⟩
    · exact ⟨i, hi, by omega⟩
/-- Weights together, of all edges, and of those that go one way alone. -/
def wAll (E : List Ed) : Nat → Int
  | 0 => 0
  | k + 1 => wAll E k + (nth E k).w
def wOne (E : List Ed) : Nat → Int
  | 0 => 0
  | k + 1 => wOne E k + if (nth E k).f = (nth E k).k then 0 else (nth E k).w
theorem wAll_in {E : List Ed} : ∀ k, (∀ i, i < k → 0 ≤ (nth E i).w ∧ (nth E i).w ≤ 2147483648) → 0 ≤ wAll E k ∧ wAll E k ≤ 2147483648 * (k : Nat)
  | 0, _ => by simp [wAll]
  | k + 1, h => by
    have ih := wAll_in k fun i hi => h i (by omega)
    have := h k (by omega)
    unfold wAll
    omega
theorem wOne_in {E : List Ed} : ∀ k, (∀ i, i < k → 0 ≤ (nth E i).w ∧ (nth E i).w ≤ 2147483648) → 0 ≤ wOne E k ∧ wOne E k ≤ 2147483648 * (k : Nat)
  | 0, _ => by simp [wOne]
  | k + 1, h => by
    have ih := wOne_in k fun i hi => h i (by omega)
    have := h k (by omega)
    unfold wOne
    split <;> omega
/-- The first one of the heaviest of the first k edges. -/
def best (E : List Ed) : Nat → Nat
  | 0 => 0
  | k + 1 => if (nth E (best E k)).w < (nth E k).w then k else best E k
theorem best_lt (E : List Ed) : ∀ k, 0 < k → best E k < k
  | 0, h => absurd h (Nat.lt_irrefl _)
  | 1, _ => by
    show (if (nth E 0).w < (nth E 0).w then 0 else 0) < 1
    split <;> omega
  | k + 2, _ => by
    have := best_lt E (k + 1) (by omega)
    show (if (nth E (best E (k + 1))).w < (nth E (k + 1)).w then k + 1 else best E (k + 1)) < k + 2
    split <;> omega
end Go.Proofs.Ytoainfnhmdcpoaa
namespace Go.Proofs.Ytoainfnhmdcpoaa
open Go.RowKit
open R (In64 InU64 lo64 nth)
theorem R.Own.giveN {F : List Nat} {W w w' : World} {l lc : List R.Res} (h : R.Own F W w l) (hc : R.Own [] w w' lc) : R.Own F W w' (l ++ lc) := R.Own.callF (l := l) (lc := []) (by rw [List.append_nil]; exact h) hc
theorem same_next {L M : List Int} {k : Nat} (h : ∀ i, i < k → nth L i = nth M i) (hk : nth L k = nth M k) : ∀ i, i < k + 1 → nth L i = nth M i := fun i hi => by
  rcases Nat.lt_or_ge i k with h1 | h1
  · exact h i h1
  · obtain rfl : i = k := by omega
    exact hk
theorem same_list {L M : List Int} (hl : L.length = M.length) (h : ∀ i, i < L.length → nth L i = nth M i) : L = M :=
  List.ext_getElem hl fun i h1 h2 => by rw [← R.nth_eq h1, ← R.nth_eq h2]; exact h i h1
/-- Are lists of numbers the same? -/
theorem same01 (A B : Option Addr) (n c m d : Nat) (L M : List Int) (w : World) (hA : R.Inp [] w A n 1 (L.flatMap R.cI)) (hn : n = L.length) (hnb : n ≤ 9223372036854775807) (hB : R.Inp [] w B m 1 (M.flatMap R.cI)) (hm : m = M.length) : Calls Try.prog 23 #[.slice A n c, .slice B m d] w fun e w' => e = .returned (.bool (decide (L = M))) ∧ Below w.heap.size w w' := by
  have hM := R.Own.start [] w
  by_cases hl : n = m
  · refine R.calls_of_WC (fn := Try.f23) Try.func23 rfl Try.ntmps23 (Nat.le_of_ble_eq_true rfl) ?_
    (refine R.stepV ?_; (repeat' (first | (with_reducible refine And.intro ?_ ?_) | (with_reducible intro _))); all_goals refine R.Lft.mk ?_)
    refine R.WC_loop (fun k : Nat => [(0, .slice A n c), (1, .slice B m d), (4, .bool false), (5, .int .i64 (k : Nat))])
      (fun k w2 => k ≤ n ∧ R.Own [] w w2 [] ∧ ∀ i, i < k → nth L i = nth M i) (fun k => n - k) ⟨0, ⟨rfl, rfl, rfl, rfl, trivial⟩, by omega, hM, fun i hi => absurd hi (Nat.not_lt_zero _)⟩ ?_
    clear hM
    rintro k f w2 ⟨hk, hM, hall⟩
    by_cases hlt : k < n
    · (refine R.stepV ?_; (repeat' (first | (with_reducible refine And.intro ?_ ?_) | (with_reducible intro _))); all_goals refine R.Lft.mk ?_)
      · have h : nth L k ≠ nth M k := by assumption
        rw [decide_eq_false (fun g : L = M => h (by rw [g]))]
        exact ⟨rfl, R.Own.below (by assumption)⟩
      · have h : ¬ nth L k ≠ nth M k := by assumption
        exact ⟨k + 1, ⟨rfl, rfl, rfl, R.viaI rfl (by omega), trivial⟩, ⟨by omega, by assumption, same_next hall (by simpa using h)⟩, by omega⟩
    · obtain rfl : k = n := by omega
      (refine R.stepV ?_; (repeat' (first | (with_reducible refine And.intro ?_ ?_) | (with_reducible intro _))); all_goals refine R.Lft.mk ?_)
      rw [decide_eq_true (same_list (by omega) (by rw [← hn]; exact hall))]
      exact ⟨rfl, R.Own.below (by assumption)⟩
  · rw [decide_eq_false (fun g : L = M => hl (by rw [hn, hm, g]))]
    refine R.calls_of_WC (fn := Try.f23) Try.func23 rfl Try.ntmps23 (Nat.le_of_ble_eq_true rfl) ?_
    (refine R.stepV ?_; (repeat' (first | (with_reducible refine And.intro ?_ ?_) | (with_reducible intro _))); all_goals refine R.Lft.mk ?_)
    all_goals first
      | exact ⟨rfl, R.Own.below (by assumption)⟩
      | (exfalso; omega)
theorem bbw_f {b : Bool} {p : Prop} (hd : b = false) (h : b = true) : p := by rw [hd] at h; cases h
theorem bq1 {a b : Bool} {p : Prop} (h : decide (a = b) = true) (q : (!(a == b)) = true) : p := by cases a <;> cases b <;> simp at h q
theorem bq2 {a b : Bool} {p : Prop} (h : decide (a = b) = false) (q : (!(a == b)) = false) : p := by cases a <;> cases b <;> simp at h q
theorem edge_ab {x : Nt} {i : Nat} (h : netB x = true) (hi : i < x.e.n) : ∃ a b : Nat, (nth x.e.L i).a = (a : Nat) ∧ (nth x.e.L i).b = (b : Nat) ∧ a ≠ b ∧ a < x.s.n ∧ b < x.s.n := by
  obtain ⟨h1, h2, h3, _⟩ := (netB_iff.1 h).2.2.2.2.1 i hi
  exact ⟨(nth x.e.L i).a.toNat, (nth x.e.L i).b.toNat, by omega, by omega, by omega, by omega, by omega⟩
theorem edge_wt {x : Nt} {i : Nat} (h : netB x = true) (hi : i < x.e.n) : 0 ≤ (nth x.e.L i).w ∧ (nth x.e.L i).w ≤ 2147483648 := ((netB_iff.1 h).2.2.2.2.1 i hi).2.2.2.1
theorem row_form {w : World} {A : Option Addr} {n c sz : Nat} {e : TypeId} {cs : List Value} (h : w.ownsRow 0 e sz (.slice A n c) n cs) (hn : 0 < n) : ∃ g, A = some ⟨g, 0, none⟩ := by
  rcases h.2 with ⟨hv, h0⟩ | ⟨g, cap, cur, hv, _, h1, h2, h3, h4, h5⟩
  · omega
  · injection hv with a1 a2 a3
    exact ⟨g, a1⟩
section
variable (x : Nt) (w : World) (hG : GNt w x)
include hG
set_option maxHeartbeats 4000000 in
theorem deg_any (hb : netB x = true) : Calls Try.prog 36 #[.agg (cNt x).toArray] w fun e w' => ∃ A c, e = .returned (.tuple #[.slice A x.s.n c, .int .i64 0]) ∧ R.Gives w w' A x.s.n c 3 1 ((degL x.e.L x.s.n x.e.n).flatMap R.cI) := by
  have hM := R.Own.start [] w
  have hL := hG.lasts
  have hk := netB_e hb
  have hsn : x.s.n ≤ 200000 := (netB_iff.1 hb).1
  obtain ⟨⟨s1, s2, s3, -⟩, ⟨h1, h2, h3, -⟩, -⟩ := hG
  refine R.calls_of_WC (fn := Try.f36) Try.func36 rfl Try.ntmps36 (Nat.le_of_ble_eq_true rfl) ?_
  (refine R.stepV ?_; (repeat' (first | (with_reducible refine And.intro ?_ ?_) | (with_reducible intro _))); all_goals refine R.Lft.mk ?_)
  · exact nbw_t hb (by assumption)
  rename_i A _ hM
  refine R.WC_loop (fun k : Nat => [(2, .slice none 0 0), (3, .int .i64 0), (4, .slice A x.s.n x.s.n), (15, .slice x.e.A x.e.n x.e.c), (16, .int .i64 (x.e.n : Nat)), (17, .int .i64 (k : Nat))])
    (fun k w2 => k ≤ x.e.n ∧ R.Own [] w w2 [.row A x.s.n x.s.n 3 1 ((degL x.e.L x.s.n k).flatMap R.cI)]) (fun k => x.e.n - k)
    ⟨0, ⟨rfl, rfl, rfl, rfl, rfl, rfl, trivial⟩, Nat.zero_le _, by rw [degL_zero]; exact R.Own.sub hM (List.sublist_append_left [_] _)⟩ ?_
  clear hM
  rintro k f w2 ⟨hkn, hM⟩
  by_cases hlt : k < x.e.n
  · obtain ⟨a, b, ha, hb2, hab, ham, hbm⟩ := edge_ab hb hlt
    obtain ⟨gA, rfl⟩ := row_form (R.Own.ok hM _ (.head _)) (by omega)
    have hat : (nth x.e.L k).a.toNat = a := by omega
    have hbt : (nth x.e.L k).b.toNat = b := by omega
    have hdl := degL_len x.e.L x.s.n k
    have c1 := cntE_le x.e.L a k
    have c2 := cntE_le x.e.L b k
    have d1 : nth (degL x.e.L x.s.n k) (nth x.e.L k).a.toNat = ((cntE x.e.L a k : Nat) : Int) := by rw [hat, degL_nth ham]
    have d2 : nth ((degL x.e.L x.s.n k).set (nth x.e.L k).a.toNat (nth (degL x.e.L x.s.n k) (nth x.e.L k).a.toNat + 1)) (nth x.e.L k).b.toNat = ((cntE x.e.L b k : Nat) : Int) := by
      rw [hat, hbt, nth_setI (by omega), if_neg hab, degL_nth hbm]
    have hl2 : ((degL x.e.L x.s.n k).set (nth x.e.L k).a.toNat (nth (degL x.e.L x.s.n k) (nth x.e.L k).a.toNat + 1)).length = x.s.n := by rw [List.length_set, hdl]
    (refine R.stepV ?_; (repeat' (first | (with_reducible refine And.intro ?_ ?_) | (with_reducible intro _))); all_goals refine R.Lft.mk ?_)
    rename_i hM
    rw [hat, hbt, ← degL_succ ha hb2 hab ham hbm] at hM
    exact ⟨k + 1, ⟨rfl, rfl, rfl, rfl, rfl, R.viaI rfl (by omega), trivial⟩, ⟨by omega, R.Own.tl hM⟩, by omega⟩
  · obtain rfl : k = x.e.n := by omega
    (refine R.stepV ?_; (repeat' (first | (with_reducible refine And.intro ?_ ?_) | (with_reducible intro _))); all_goals refine R.Lft.mk ?_)
    exact ⟨_, _, rfl, R.Own.gives (by assumption)⟩
theorem deg_not (hb : netB x = false) : Calls Try.prog 36 #[.agg (cNt x).toArray] w fun e w' => e = .returned (.tuple #[.slice none 0 0, .int .i64 1]) ∧ Below w.heap.size w w' := by
  have hM := R.Own.start [] w
  have hL := hG.lasts
  refine R.calls_of_WC (fn := Try.f36) Try.func36 rfl Try.ntmps36 (Nat.le_of_ble_eq_true rfl) ?_
  (refine R.stepV ?_; (repeat' (first | (with_reducible refine And.intro ?_ ?_) | (with_reducible intro _))); all_goals refine R.Lft.mk ?_)
  all_goals first
    | exact ⟨rfl, R.Own.below (by assumption)⟩
    | exact nbw_f hb (by assumption)
theorem edges_any (v : Nat) : Calls Try.prog 102 #[.agg (cNt x).toArray, .int .i64 (v : Nat)] w fun e w' => e = .returned (.int .i64 ((cntE x.e.L v x.e.n : Nat) : Int)) ∧ Below w.heap.size w w' := by
  have hM := R.Own.start [] w
  obtain ⟨-, ⟨h1, h2, h3, -⟩, -⟩ := hG
  refine R.calls_of_WC (fn := Try.f102) Try.func102 rfl Try.ntmps102 (Nat.le_of_ble_eq_true rfl) ?_
  (refine R.stepV ?_; (repeat' (first | (with_reducible refine And.intro ?_ ?_) | (with_reducible intro _))); all_goals refine R.Lft.mk ?_)
  rename_i gn _ hM
  refine R.WC_loop (fun i : Nat => [(1, .int .i64 (v : Nat)), (2, .pointer (some ⟨gn, 0, none⟩)), (4, .int .i64 0), (5, .int .i64 ((cntE x.e.L v i : Nat) : Int)), (6, .int .i64 (i : Nat))])
    (fun i w2 => i ≤ x.e.n ∧ R.Own [] w w2 [.blk gn 44 (cNt x)]) (fun i => x.e.n - i) ⟨0, ⟨rfl, rfl, rfl, rfl, rfl, trivial⟩, Nat.zero_le _, hM⟩ ?_
  clear hM
  rintro i f w2 ⟨hi, hM⟩
  by_cases hlt : i < x.e.n
  · have c1 := cntE_le x.e.L v i
    have e1 : ((nth x.e.L i).a = ((v : Nat) : Int) ∨ (nth x.e.L i).b = ((v : Nat) : Int)) → cntE x.e.L v (i + 1) = cntE x.e.L v i + 1 := fun h => by
      show cntE x.e.L v i + (if _ then 1 else 0) = _
      rw [if_pos h]
    have e2 : ¬ ((nth x.e.L i).a = ((v : Nat) : Int) ∨ (nth x.e.L i).b = ((v : Nat) : Int)) → cntE x.e.L v (i + 1) = cntE x.e.L v i := fun h => by
      show cntE x.e.L v i + (if _ then 1 else 0) = _
      rw [if_neg h]
      rfl
    (refine R.stepV ?_; (repeat' (first | (with_reducible refine And.intro ?_ ?_) | (with_reducible intro _))); all_goals refine R.Lft.mk ?_)
    all_goals first
      | exact ⟨i + 1, ⟨rfl, rfl, rfl, R.viaI rfl (by rw [e1 (.inl (by assumption))]; omega), R.viaI rfl (by omega), trivial⟩, ⟨by omega, by assumption⟩, by omega⟩
      | exact ⟨i + 1, ⟨rfl, rfl, rfl, R.viaI rfl (by rw [e1 (.inr (by assumption))]; omega), R.viaI rfl (by omega), trivial⟩, ⟨by omega, by assumption⟩, by omega⟩
      | exact ⟨i + 1, ⟨rfl, rfl, rfl, R.viaI rfl (by rw [e2 (by omega)]), R.viaI rfl (by omega), trivial⟩, ⟨by omega, by assumption⟩, by omega⟩
  · obtain rfl : i = x.e.n := by omega
    (refine R.stepV ?_; (repeat' (first | (with_reducible refine And.intro ?_ ?_) | (with_reducible intro _))); all_goals refine R.Lft.mk ?_)
    exact ⟨rfl, R.Own.below (by assumption)⟩
end
instance con_edges (x : Nt) (v : Nat) : R.ConB Try.prog 102 #[.agg (cNt x).toArray, .int .i64 (v : Nat)] Unit (fun _ w => GNt w x) (fun _ => .int .i64 ((cntE x.e.L v x.e.n : Nat) : Int)) := ⟨fun _ w hG => edges_any x w hG v⟩
section
variable (x : Nt) (w : World) (hG : GNt w x)
include hG
theorem rdeg_any (hb : netB x = true) : Calls Try.prog 41 #[.agg (cNt x).toArray] w fun e w' => ∃ A c, e = .returned (.slice A x.s.n c) ∧ R.Gives w w' A x.s.n c 3 1 ((degL x.e.L x.s.n x.e.n).flatMap R.cI) := by
  have hM := R.Own.start [] w
  have hL := hG.lasts
  have hsn : x.s.n ≤ 200000 := (netB_iff.1 hb).1
  refine R.calls_of_WC (fn := Try.f41) Try.func41 rfl Try.ntmps41 (Nat.le_of_ble_eq_true rfl) ?_
  (refine R.stepV ?_; (repeat' (first | (with_reducible refine And.intro ?_ ?_) | (with_reducible intro _))); all_goals refine R.Lft.mk ?_)
  rename_i gn _ _ A c _ hM
  refine R.WC_loop (fun i : Nat × Option Addr × Nat => [(1, .pointer (some ⟨gn, 0, none⟩)), (2, .slice none 0 0), (3, .slice i.2.1 i.1 i.2.2), (4, .int .i64 (i.1 : Nat))])
    (fun i w2 => i.1 ≤ x.s.n ∧ R.Own [] w w2 [.row i.2.1 i.1 i.2.2 3 1 ((degL x.e.L i.1 x.e.n).flatMap R.cI), .blk gn 44 (cNt x)]) (fun i => x.s.n - i.1) ⟨(0, A, c), ⟨rfl, rfl, rfl, rfl, trivial⟩, Nat.zero_le _, hM⟩ ?_
  clear hM
  rintro ⟨v, A, c⟩ f w2 ⟨hv, hM⟩
  dsimp only at hv hM ⊢
  have hdl := degL_len x.e.L v x.e.n
  have hdn : degL x.e.L (v + 1) x.e.n = degL x.e.L v x.e.n ++ [((cntE x.e.L v x.e.n : Nat) : Int)] := by
    unfold degL
    rw [List.range_succ, List.map_append]
    rfl
  by_cases hlt : v < x.s.n
  · (refine R.stepV ?_; (repeat' (first | (with_reducible refine And.intro ?_ ?_) | (with_reducible intro _))); all_goals refine R.Lft.mk ?_)
    rename_i A2 c2 _ hM
    rw [← hdn] at hM
    exact ⟨(v + 1, A2, c2), ⟨rfl, rfl, rfl, R.viaI rfl (by dsimp only; omega), trivial⟩, ⟨by dsimp only; omega, hM⟩, by dsimp only; omega⟩
  · obtain rfl : v = x.s.n := by omega
    (refine R.stepV ?_; (repeat' (first | (with_reducible refine And.intro ?_ ?_) | (with_reducible intro _))); all_goals refine R.Lft.mk ?_)
    exact ⟨_, _, rfl, R.Own.gives (by assumption)⟩
set_option maxHeartbeats 2000000 in
theorem weight_any (hb : netB x = true) : Calls Try.prog 38 #[.agg (cNt x).toArray] w fun e w' => e = .returned (.tuple #[.int .i64 (wAll x.e.L x.e.n), .int .i64 (wOne x.e.L x.e.n), .int .i64 0]) ∧ Below w.heap.size w w' := by
  have hM := R.Own.start [] w
  have hL := hG.lasts
  have hk := netB_e hb
  obtain ⟨-, ⟨h1, h2, h3, -⟩, -⟩ := hG
  refine R.calls_of_WC (fn := Try.f38) Try.func38 rfl Try.ntmps38 (Nat.le_of_ble_eq_true rfl) ?_
  (refine R.stepV ?_; (repeat' (first | (with_reducible refine And.intro ?_ ?_) | (with_reducible intro _))); all_goals refine R.Lft.mk ?_)
  · exact nbw_t hb (by assumption)
  rename_i hM
  refine R.WC_loop (fun k : Nat => [(2, .int .i64 (wAll x.e.L k)), (3, .int .i64 (wOne x.e.L k)), (4, .int .i64 0), (11, .slice x.e.A x.e.n x.e.c), (12, .int .i64 (x.e.n : Nat)), (13, .int .i64 (k : Nat))])
    (fun k w2 => k ≤ x.e.n ∧ R.Own [] w w2 []) (fun k => x.e.n - k) ⟨0, ⟨rfl, rfl, rfl, rfl, rfl, rfl, trivial⟩, Nat.zero_le _, R.Own.nul R.ohm⟩ ?_
  clear hM
  rintro k f w2 ⟨hkn, hM⟩
  by_cases hlt : k < x.e.n
  · have hw := edge_wt hb hlt
    have b1 := wAll_in (E := x.e.L) k fun i hi => edge_wt hb (by omega)
    have b2 := wOne_in (E := x.e.L) k fun i hi => edge_wt hb (by omega)
    have e1 : wAll x.e.L (k + 1) = wAll x.e.L k + (nth x.e.L k).w := rfl
    cases hf : decide ((nth x.e.L k).f = (nth x.e.L k).k) with
    | true =>
      have e2 : wOne x.e.L (k + 1) = wOne x.e.L k := by
        show wOne x.e.L k + (if _ then 0 else _) = _
        rw [if_pos (of_decide_eq_true hf)]
        omega
      (refine R.stepV ?_; (repeat' (first | (with_reducible refine And.intro ?_ ?_) | (with_reducible intro _))); all_goals refine R.Lft.mk ?_)
      · exact bq1 hf (by assumption)
      · exact ⟨k + 1, ⟨R.viaI rfl (by rw [e1]), R.viaI rfl (by rw [e2]), rfl, rfl, rfl, R.viaI rfl (by omega), trivial⟩, ⟨by omega, R.Own.nul (by assumption)⟩, by omega⟩
    | false =>
      have e2 : wOne x.e.L (k + 1) = wOne x.e.L k + (nth x.e.L k).w := by
        show wOne x.e.L k + (if _ then 0 else _) = _
        rw [if_neg (of_decide_eq_false hf)]
      (refine R.stepV ?_; (repeat' (first | (with_reducible refine And.intro ?_ ?_) | (with_reducible intro _))); all_goals refine R.Lft.mk ?_)
      · exact ⟨k + 1, ⟨R.viaI rfl (by rw [e1]), R.viaI rfl (by rw [e2]), rfl, rfl, rfl, R.viaI rfl (by omega), trivial⟩, ⟨by omega, R.Own.nul (by assumption)⟩, by omega⟩
      · exact bq2 hf (by assumption)
  · obtain rfl : k = x.e.n := by omega
    (refine R.stepV ?_; (repeat' (first | (with_reducible refine And.intro ?_ ?_) | (with_reducible intro _))); all_goals refine R.Lft.mk ?_)
    exact ⟨rfl, R.Own.below (by assumption)⟩
theorem weight_not (hb : netB x = false) : Calls Try.prog 38 #[.agg (cNt x).toArray] w fun e w' => e = .returned (.tuple #[.int .i64 0, .int .i64 0, .int .i64 1]) ∧ Below w.heap.size w w' := by
  have hM := R.Own.start [] w
  have hL := hG.lasts
  refine R.calls_of_WC (fn := Try.f38) Try.func38 rfl Try.ntmps38 (Nat.le_of_ble_eq_true rfl) ?_
  (refine R.stepV ?_; (repeat' (first | (with_reducible refine And.intro ?_ ?_) | (with_reducible intro _))); all_goals refine R.Lft.mk ?_)
  all_goals first
    | exact ⟨rfl, R.Own.below (by assumption)⟩
    | exact nbw_f hb (by assumption)
theorem heavy_not (hb : netB x = false) : Calls Try.prog 39 #[.agg (cNt x).toArray] w fun e w' => e = .returned (.tuple #[.int .i64 0, .int .i64 1]) ∧ Below w.heap.size w w' := by
  have hM := R.Own.start [] w
  have hL := hG.lasts
  refine R.calls_of_WC (fn := Try.f39) Try.func39 rfl Try.ntmps39 (Nat.le_of_ble_eq_true rfl) ?_
  (refine R.stepV ?_; (repeat' (first | (with_reducible refine And.intro ?_ ?_) | (with_reducible intro _))); all_goals refine R.Lft.mk ?_)
  all_goals first
    | exact ⟨rfl, R.Own.below (by assumption)⟩
    | exact nbw_f hb (by assumption)
theorem heavy_0 (hb : netB x = true) (h0 : x.e.n = 0) : Calls Try.prog 39 #[.agg (cNt x).toArray] w fun e w' => e = .returned (.tuple #[.int .i64 0, .int .i64 11]) ∧ Below w.heap.size w w' := by
  have hM := R.Own.start [] w
  have hL := hG.lasts
  refine R.calls_of_WC (fn := Try.f39) Try.func39 rfl Try.ntmps39 (Nat.le_of_ble_eq_true rfl) ?_
  (refine R.stepV ?_; (repeat' (first | (with_reducible refine And.intro ?_ ?_) | (with_reducible intro _))); all_goals refine R.Lft.mk ?_)
  all_goals first
    | exact ⟨rfl, R.Own.below (by assumption)⟩
    | exact nbw_t hb (by assumption)
    | (exfalso; omega)
set_option maxHeartbeats 2000000 in
theorem heavy_any (hb : netB x = true) (h0 : 0 < x.e.n) : Calls Try.prog 39 #[.agg (cNt x).toArray] w fun e w' => e = .returned (.tuple #[.int .i64 ((best x.e.L x.e.n : Nat) : Int), .int .i64 0]) ∧ Below w.heap.size w w' := by
  have hM := R.Own.start [] w
  have hL := hG.lasts
  have hk := netB_e hb
  obtain ⟨-, ⟨h1, h2, h3, -⟩, -⟩ := hG
  refine R.calls_of_WC (fn := Try.f39) Try.func39 rfl Try.ntmps39 (Nat.le_of_ble_eq_true rfl) ?_
  (refine R.stepV ?_; (repeat' (first | (with_reducible refine And.intro ?_ ?_) | (with_reducible intro _))); all_goals refine R.Lft.mk ?_)
  · exact nbw_t hb (by assumption)
  rename_i gn _ _ _ hM _
  refine R.WC_loop (fun k : Nat => [(1, .pointer (some ⟨gn, 0, none⟩)), (2, .int .i64 0), (3, .int .i64 0), (4, .int .i64 ((best x.e.L k : Nat) : Int)), (17, .slice x.e.A x.e.n x.e.c), (18, .int .i64 (x.e.n : Nat)), (19, .int .i64 (k : Nat))])
    (fun k w2 => k ≤ x.e.n ∧ R.Own [] w w2 [.blk gn 44 (cNt x)]) (fun k => x.e.n - k) ⟨0, ⟨rfl, rfl, rfl, rfl, rfl, rfl, rfl, trivial⟩, Nat.zero_le _, hM⟩ ?_
  clear hM
  rintro k f w2 ⟨hkn, hM⟩
  by_cases hlt : k < x.e.n
  · have hbl : best x.e.L k < x.e.n := by
      rcases Nat.eq_zero_or_pos k with e | e
      · rw [e]; exact h0
      · have := best_lt x.e.L k e; omega
    have e1 : (nth x.e.L (best x.e.L k)).w < (nth x.e.L k).w → best x.e.L (k + 1) = k := fun h => if_pos h
    have e2 : ¬ (nth x.e.L (best x.e.L k)).w < (nth x.e.L k).w → best x.e.L (k + 1) = best x.e.L k := fun h => if_neg h
    (refine R.stepV ?_; (repeat' (first | (with_reducible refine And.intro ?_ ?_) | (with_reducible intro _))); all_goals refine R.Lft.mk ?_)
    all_goals first
      | exact ⟨k + 1, ⟨rfl, rfl, rfl, R.viaI rfl (by rw [e1 (by assumption)]), rfl, rfl, R.viaI rfl (by omega), trivial⟩, ⟨by omega, R.Own.tl (by assumption)⟩, by omega⟩
      | exact ⟨k + 1, ⟨rfl, rfl, rfl, R.viaI rfl (by rw [e2 (by assumption)]), rfl, rfl, R.viaI rfl (by omega), trivial⟩, ⟨by omega, R.Own.tl (by assumption)⟩, by omega⟩
  · obtain rfl : k = x.e.n := by omega
    (refine R.stepV ?_; (repeat' (first | (with_reducible refine And.intro ?_ ?_) | (with_reducible intro _))); all_goals refine R.Lft.mk ?_)
    exact ⟨rfl, R.Own.below (by assumption)⟩
end
end Go.Proofs.Ytoainfnhmdcpoaa
