/- The references of chapter 23; what RankNeeds asks. -/
import Derived.Test.YtmmfndmfibbhcaaRank2
import Derived.Test.YtmmfndmfibbhcaaOpn
namespace Go.Proofs.Ytmmfndmfibbhcaa
open Go.ChangeShapes Go.WideShapes Go.ChangeAt Go.RowKit
open R (In64 InU64 lo64 nth)

theorem refMay_any (A : Option Addr) (n c : Nat) (L : List Item) (w : World) (hA : R.Inp [] w A n 2 (L.flatMap cItem)) (hn : n = L.length) (hb : n ≤ 1000000000) :
    Calls Try.prog 21 #[.slice A n c] w fun e w' => e = .returned (.bool (mayI L)) ∧ w = w' := by
  have hM := R.Own.start [] w
  refine R.calls_of_WC (fn := Try.f21) Try.func21 rfl Try.ntmps21 (Nat.le_of_ble_eq_true rfl) ?_
  (refine R.step ?_; (repeat' (first | (with_reducible refine And.intro ?_ ?_) | (with_reducible intro _))); all_goals refine R.Lft.mk ?_)
  refine R.WC_loop (fun k : Nat => [(0, .slice A n c), (2, .bool false), (3, .int .i64 (k : Nat))])
    (fun k w1 => k ≤ n ∧ w = w1 ∧ ∀ x ∈ L.take k, badI x = false) (fun k => n - k) ⟨0, ⟨rfl, rfl, rfl, trivial⟩, by omega, rfl, by simp⟩ ?_
  rintro k f w1 ⟨hk, rfl, hall⟩
  by_cases hlt : k < n
  · have hmem := R.nth_mem (L := L) (i := k) (by omega)
    have hbad : badI (nth L k) = true → mayI L = false := fun h => by
      unfold mayI
      rw [List.any_eq_true.2 ⟨_, hmem, h⟩]
      simp
    (refine R.step ?_; (repeat' (first | (with_reducible refine And.intro ?_ ?_) | (with_reducible intro _))); all_goals refine R.Lft.mk ?_)
    · rename_i h
      rw [hbad (by simp [badI, h])]
      exact ⟨rfl, rfl⟩
    · rename_i h1 h2
      rw [hbad (by simp [badI, h2])]
      exact ⟨rfl, rfl⟩
    · rename_i h1 h2
      exact ⟨k + 1, ⟨rfl, rfl, R.viaI rfl (by omega), trivial⟩, ⟨by omega, rfl, all_snoc (by omega) hall (by simp [badI]; omega)⟩, by omega⟩
  · obtain rfl : k = n := by omega
    rw [hn, List.take_length] at hall
    have : mayI L = decide (L.length ≤ 500) := by
      unfold mayI
      rw [List.any_eq_false.2 (by simpa using hall)]
      simp
    (refine R.step ?_; (repeat' (first | (with_reducible refine And.intro ?_ ?_) | (with_reducible intro _))); all_goals refine R.Lft.mk ?_)
    rw [this]
    refine ⟨?_, rfl⟩
    rw [show decide ((k : Int) ≤ 500) = decide (L.length ≤ 500) by rw [decide_eq_decide]; omega]
theorem same_take {T : Type} [Inhabited T] {a b : List T} (hl : a.length = b.length) {k : Nat} (hk : a.length ≤ k) (h : ∀ i, i < k → i < a.length → nth a i = nth b i) : a = b := by
  refine List.ext_getElem hl fun i h1 h2 => ?_
  have := h i (by omega) h1
  rwa [R.nth_eq h1, R.nth_eq h2] at this
set_option maxHeartbeats 1000000 in
theorem same23_any (A B : Option Addr) (n m c d : Nat) (a b : List Link) (w : World) (hA : R.Inp [] w A n 4 (a.flatMap cLink)) (hn : n = a.length) (hB : R.Inp [] w B m 4 (b.flatMap cLink)) (hm : m = b.length) (hb : n ≤ 1000000000) :
    Calls Try.prog 23 #[.slice A n c, .slice B m d] w fun e w' => e = .returned (.bool (decide (a = b))) ∧ Below w.heap.size w w' := by
  have hM := R.Own.start [] w
  refine R.calls_of_WC (fn := Try.f23) Try.func23 rfl Try.ntmps23 (Nat.le_of_ble_eq_true rfl) ?_
  (refine R.step ?_; (repeat' (first | (with_reducible refine And.intro ?_ ?_) | (with_reducible intro _))); all_goals refine R.Lft.mk ?_)
  · rename_i h
    have : a ≠ b := fun e => by subst e; omega
    rw [decide_eq_false this]
    exact ⟨rfl, hM.below⟩
  rename_i hnm
  have hl : a.length = b.length := by omega
  refine R.WC_loop (fun k : Nat => [(0, .slice A n c), (1, .slice B m d), (4, .bool false), (5, .int .i64 (k : Nat))])
    (fun k w1 => k ≤ n ∧ R.Own [] w w1 [] ∧ ∀ i, i < k → i < a.length → nth a i = nth b i) (fun k => n - k) ⟨0, ⟨rfl, rfl, rfl, rfl, trivial⟩, by omega, hM, by intro i h; omega⟩ ?_
  rintro k f w1 ⟨hk, hM, hall⟩
  by_cases hlt : k < n
  · (refine R.step ?_; (repeat' (first | (with_reducible refine And.intro ?_ ?_) | (with_reducible intro _))); all_goals refine R.Lft.mk ?_)
    · rename_i hM1 hne
      have : a ≠ b := fun e => by subst e; exact hne rfl
      rw [decide_eq_false this]
      exact ⟨rfl, hM1.below⟩
    · rename_i hM1 heq
      have heq := Decidable.of_not_not heq
      refine ⟨k + 1, ⟨rfl, rfl, rfl, R.viaI rfl (by omega), trivial⟩, ⟨by omega, hM1, fun i h1 h2 => ?_⟩, by omega⟩
      by_cases h : i = k
      · rw [h]; exact heq
      · exact hall i (by omega) h2
  · (refine R.step ?_; (repeat' (first | (with_reducible refine And.intro ?_ ?_) | (with_reducible intro _))); all_goals refine R.Lft.mk ?_)
    rw [decide_eq_true (same_take hl (k := k) (by omega) hall)]
    exact ⟨rfl, hM.below⟩
theorem mem_take {T : Type} {L : List T} {k : Nat} {x : T} (h : x ∈ L.take k) : x ∈ L := List.mem_of_mem_take h
set_option maxHeartbeats 2000000 in
theorem pairs23_any (v : Int) (A B : Option Addr) (n m c d : Nat) (ins outs : List Item) (w : World)
    (hA : R.Inp [] w A n 2 (ins.flatMap cItem)) (hn : n = ins.length) (hB : R.Inp [] w B m 2 (outs.flatMap cItem)) (hm : m = outs.length) (h1 : mayI ins = true) (h2 : mayI outs = true) :
    Calls Try.prog 22 #[.int .i64 v, .slice A n c, .slice B m d] w fun e w' => ∃ A' c', e = .returned (.slice A' (pairsOf v ins outs).length c') ∧ R.Gives w w' A' (pairsOf v ins outs).length c' 30 4 ((pairsOf v ins outs).flatMap cLink) := by
  have hM := R.Own.start [] w
  obtain ⟨hn5, hk1⟩ := mayI_spec h1
  obtain ⟨hm5, hk2⟩ := mayI_spec h2
  have hlen : ∀ k, k ≤ n → (pairsOf v (ins.take k) outs).length ≤ 250000 := fun k hk => by
    have := pairsOf_len v outs (ins.take k)
    have h3 : (ins.take k).length ≤ 500 := by rw [List.length_take]; omega
    have h4 : (ins.take k).length * outs.length ≤ 500 * 500 := Nat.mul_le_mul h3 hm5
    omega
  refine R.calls_of_WC (fn := Try.f22) Try.func22 rfl Try.ntmps22 (Nat.le_of_ble_eq_true rfl) ?_
  (refine R.step ?_; (repeat' (first | (with_reducible refine And.intro ?_ ?_) | (with_reducible intro _))); all_goals refine R.Lft.mk ?_)
  rename_i A0 c0 w1 hM1
  refine R.WC_loop (fun (i : Nat × Option Addr × Nat) => [(0, .int .i64 v), (1, .slice A n c), (2, .slice B m d), (6, .slice none 0 0), (7, .slice i.2.1 (pairsOf v (ins.take i.1) outs).length i.2.2), (8, .int .i64 (i.1 : Nat))])
    (fun i w1 => i.1 ≤ n ∧ R.Own [] w w1 [.row i.2.1 (pairsOf v (ins.take i.1) outs).length i.2.2 30 4 ((pairsOf v (ins.take i.1) outs).flatMap cLink)]) (fun i => n - i.1)
    ⟨(0, A0, c0), ⟨rfl, rfl, rfl, rfl, rfl, rfl, trivial⟩, by omega, hM1⟩ ?_
  rintro ⟨k, A1, c1⟩ f w3 ⟨hk, hM⟩
  simp only at hk hM ⊢
  by_cases hlt : k < n
  · have hmem := R.nth_mem (L := ins) (i := k) (by omega)
    obtain ⟨ha0, ha1⟩ := hk1 _ hmem
    (refine R.step ?_; (repeat' (first | (with_reducible refine And.intro ?_ ?_) | (with_reducible intro _))); all_goals refine R.Lft.mk ?_)
    refine R.WC_loop (fun (i : Nat × Option Addr × Nat) => [(0, .int .i64 v), (1, .slice A n c), (2, .slice B m d), (6, .slice none 0 0), (7, .slice i.2.1 (pairsOf v (ins.take k) outs ++ pairs1 v (nth ins k) (outs.take i.1)).length i.2.2), (8, .int .i64 (k : Nat)), (9, .int .i64 (i.1 : Nat))])
      (fun i w1 => i.1 ≤ m ∧ R.Own [] w w1 [.row i.2.1 (pairsOf v (ins.take k) outs ++ pairs1 v (nth ins k) (outs.take i.1)).length i.2.2 30 4 ((pairsOf v (ins.take k) outs ++ pairs1 v (nth ins k) (outs.take i.1)).flatMap cLink)]) (fun i => m - i.1)
      ⟨(0, A1, c1), ⟨rfl, rfl, rfl, rfl, R.viaS rfl (by simp [pairs1]), rfl, rfl, trivial⟩, by omega, by simpa [pairs1] using hM⟩ ?_
    rintro ⟨j, A2, c2⟩ f w6 ⟨hj, hM⟩
    simp only at hj hM ⊢
    by_cases hjt : j < m
    · have hmem2 := R.nth_mem (L := outs) (i := j) (by omega)
      obtain ⟨hb0, hb1⟩ := hk2 _ hmem2
      have hP2 : (pairsOf v (ins.take k) outs ++ pairs1 v (nth ins k) (outs.take j)).length ≤ 250500 := by
        have h4 := hlen k (by omega)
        have h5 := pairs1_len v (nth ins k) (outs.take j)
        have h6 : (outs.take j).length ≤ 500 := by rw [List.length_take]; omega
        rw [List.length_append]
        omega
      (refine R.step ?_; (repeat' (first | (with_reducible refine And.intro ?_ ?_) | (with_reducible intro _))); all_goals refine R.Lft.mk ?_)
      · rename_i w7 hM1 hne w8 hM8 A3 c3 w9 hM9 A4 c4 w10 hM10
        have hs : pairs1 v (nth ins k) (outs.take (j + 1)) = pairs1 v (nth ins k) (outs.take j) ++ [⟨(nth ins k).at_, (nth outs j).at_, (nth ins k).key + (nth outs j).key, v⟩] := by rw [pairs1_snoc (by omega), if_neg hne]
        exact ⟨(j + 1, A4, c4), ⟨rfl, rfl, rfl, rfl, R.viaS rfl (by rw [hs]; simp [Nat.add_assoc]), rfl, R.viaI rfl (by omega), trivial⟩, ⟨by simp only; omega, by simp only; rw [hs]; simpa [Nat.add_assoc] using hM10⟩, by simp only; omega⟩
      · rename_i hM1 heq
        have heq := Decidable.of_not_not heq
        have hs : pairs1 v (nth ins k) (outs.take (j + 1)) = pairs1 v (nth ins k) (outs.take j) := by rw [pairs1_snoc (by omega), if_pos heq, List.append_nil]
        exact ⟨(j + 1, A2, c2), ⟨rfl, rfl, rfl, rfl, R.viaS rfl (by rw [hs]), rfl, R.viaI rfl (by omega), trivial⟩, ⟨by simp only; omega, by simp only; rw [hs]; exact hM1⟩, by simp only; omega⟩
    · obtain rfl : j = m := by omega
      have hs : pairsOf v (ins.take k) outs ++ pairs1 v (nth ins k) (outs.take j) = pairsOf v (ins.take (k + 1)) outs := by rw [hm, List.take_length, pairsOf_snoc (by omega)]
      rw [hs] at hM
      rw [hs]
      (refine R.step ?_; (repeat' (first | (with_reducible refine And.intro ?_ ?_) | (with_reducible intro _))); all_goals refine R.Lft.mk ?_)
      exact ⟨(k + 1, A2, c2), ⟨rfl, rfl, rfl, rfl, rfl, R.viaI rfl (by omega), trivial⟩, ⟨by simp only; omega, hM⟩, by simp only; omega⟩
  · obtain rfl : k = n := by omega
    rw [hn, List.take_length] at hM
    rw [hn, List.take_length]
    (refine R.step ?_; (repeat' (first | (with_reducible refine And.intro ?_ ?_) | (with_reducible intro _))); all_goals refine R.Lft.mk ?_)
    exact ⟨A1, c1, rfl, hM.gives⟩
/-! ### what RankNeeds asks with -/
def told1 (T : List Bool) (pre : List Link) (_ : Link) : Bool := decide (pre.length < T.length) && nth T pre.length
def RA (g7 g3 g5 t7 t5 : Nat) (v : Int) (T : R.Sl Bool) (pre : List Link) (lc : List R.Res) : Prop := ∃ A c, lc = [.blk g7 t7 [.slice A pre.length c], .row A pre.length c 30 4 (pre.flatMap cLink), .blk g3 3 [.int .i64 v], .blk g5 t5 [.slice T.A T.n T.c]]
set_option maxHeartbeats 1000000 in
theorem asks (g7 g3 g5 t7 t5 : Nat) (v : Int) (T : R.Sl Bool) (all : List Link) (w0 : World) (F : List Nat) (hT : R.Inp F w0 T.A T.n 1 (T.L.flatMap R.cB)) (hTn : T.n = T.L.length) (hT5 : T.n ≤ 1000) (hall : all.length ≤ 250000) (hmid : ∀ x ∈ all, x.mid = v) :
    Oracle w0 F 19 [.pointer (some ⟨g7, 0, none⟩), .pointer (some ⟨g3, 0, none⟩), .pointer (some ⟨g5, 0, none⟩)] (told1 T.L) (RA g7 g3 g5 t7 t5 v T) all := by
  rintro pre x suf lc w he ⟨A, c, rfl⟩ hO
  have hR := R.Own.inpInF (l := []) hO hT
  have hM := R.Own.startF hO.has0
  obtain ⟨x1, x2, x3, x4⟩ := x
  have hpl : pre.length ≤ 250000 := by have := congrArg List.length he; simp at this; omega
  have hx : x4 = v := hmid ⟨x1, x2, x3, x4⟩ (by rw [he]; simp)
  subst hx
  refine R.calls_of_WC (fn := Try.f19) Try.func19 rfl Try.ntmps19 (Nat.le_of_ble_eq_true rfl) ?_
  (refine R.step ?_; (repeat' (first | (with_reducible refine And.intro ?_ ?_) | (with_reducible intro _))); all_goals refine R.Lft.mk ?_)
  · rename_i A1 c1 w1 hM1 w2 hM2 hlt
    refine ⟨?_, _, ⟨A1, c1, rfl⟩, by simpa using hM2⟩
    simp only [told1]
    have : pre.length < T.L.length := by omega
    simp [this]
  · rename_i A1 c1 w1 hM1 w2 hM2 hlt
    refine ⟨?_, _, ⟨A1, c1, rfl⟩, by simpa using hM2⟩
    simp only [told1]
    have : ¬ pre.length < T.L.length := by omega
    simp [this]
end Go.Proofs.Ytmmfndmfibbhcaa
