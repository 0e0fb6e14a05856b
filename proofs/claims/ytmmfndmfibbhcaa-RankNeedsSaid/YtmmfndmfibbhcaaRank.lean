/- Package rank: which shortcuts are needed, whatever is asked; a vertex's priority; how far searches go. -/
import Derived.Test.YtmmfndmfibbhcaaLib
namespace Go.Proofs.Ytmmfndmfibbhcaa
open Go.RowKit
open R (In64 InU64 lo64 nth)

def badI (x : Item) : Bool := decide (x.key < 0) || decide (1152921504606846976 < x.key)
def mayI (L : List Item) : Bool := decide (L.length ≤ 500) && !L.any badI
theorem mayI_spec {L : List Item} (h : mayI L = true) : L.length ≤ 500 ∧ ∀ x ∈ L, 0 ≤ x.key ∧ x.key ≤ 1152921504606846976 := by
  unfold mayI badI at h
  simp at h
  exact ⟨h.1, fun x hx => h.2 x hx⟩
theorem may1_any (x : Item) (w : World) : Calls Try.prog 110 ([Value.agg (cItem x).toArray] ++ []).toArray w fun e w' => e = .returned (.bool (badI x)) ∧ Below w.heap.size w w' := by
  have hM := R.Own.start [] w
  refine R.calls_of_WC (fn := Try.f110) Try.func110 rfl Try.ntmps110 (Nat.le_of_ble_eq_true rfl) ?_
  (refine R.step ?_; (repeat' (first | (with_reducible refine And.intro ?_ ?_) | (with_reducible intro _))); all_goals refine R.Lft.mk ?_)
  · rename_i hM h
    simp [badI, h, hM.below]
  · rename_i hM h
    simp [badI, h, hM.below]
theorem rmay_any (A : Option Addr) (n c : Nat) (L : List Item) (w : World) (hA : R.Inp [] w A n 2 (L.flatMap cItem)) (hn : n = L.length) :
    Calls Try.prog 76 #[.slice A n c] w fun e w' => e = .returned (.bool (mayI L)) ∧ Below w.heap.size w w' := by
  refine R.calls_of_WC (fn := Try.f76) Try.func76 rfl Try.ntmps76 (Nat.le_of_ble_eq_true rfl) ?_
  (refine R.step ?_; (repeat' (first | (with_reducible refine And.intro ?_ ?_) | (with_reducible intro _))); all_goals refine R.Lft.mk ?_)
  · rename_i h
    refine R.WO_call2 rfl rfl (by first | exact R.eI rfl | exact R.eB rfl | exact R.eS rfl | exact R.eA rfl | exact R.eP rfl | exact R.eStr rfl | exact R.eT rfl | exact R.eM rfl | exact R.eF rfl | exact R.eF0 rfl | exact R.eP0 rfl | exact R.eQ rfl) (by first | exact R.eI rfl | exact R.eB rfl | exact R.eS rfl | exact R.eA rfl | exact R.eP rfl | exact R.eStr rfl | exact R.eT rfl | exact R.eM rfl | exact R.eF rfl | exact R.eF0 rfl | exact R.eP0 rfl | exact R.eQ rfl) ?_
    refine (containsFunc_Item A n c L _ [] badI w hA hn (by omega) (fun x w1 _ _ => may1_any x w1)).mono ?_
    rintro e w1 ⟨rfl, hb1⟩
    refine ⟨_, rfl, ?_⟩
    (refine R.step ?_; (repeat' (first | (with_reducible refine And.intro ?_ ?_) | (with_reducible intro _))); all_goals refine R.Lft.mk ?_)
    have : L.length ≤ 500 := by omega
    simp [mayI, this, hb1]
  · rename_i h
    have : ¬ L.length ≤ 500 := by omega
    simp [mayI, this, Below.refl]

/-! ### shortcuts -/
def pairs1 (v : Int) (a : Item) (outs : List Item) : List Link := (outs.filter fun b => decide (a.at_ ≠ b.at_)).map fun b => ⟨a.at_, b.at_, a.key + b.key, v⟩
def pairsOf (v : Int) (ins outs : List Item) : List Link := ins.flatMap fun a => pairs1 v a outs
def keepFrom (b : List Link → Link → Bool) : List Link → List Link → List Link
  | _, [] => []
  | pre, x :: l => (if b pre x then [] else [x]) ++ keepFrom b (pre ++ [x]) l
theorem keep_snoc (b : List Link → Link → Bool) : ∀ (l pre : List Link) (x : Link), keepFrom b pre (l ++ [x]) = keepFrom b pre l ++ (if b (pre ++ l) x then [] else [x])
  | [], pre, x => by simp [keepFrom]
  | y :: l, pre, x => by simp [keepFrom, keep_snoc b l (pre ++ [y]) x, List.append_assoc]
theorem keep_len (b : List Link → Link → Bool) : ∀ (l pre : List Link), (keepFrom b pre l).length ≤ l.length
  | [], pre => by simp [keepFrom]
  | y :: l, pre => by
    have := keep_len b l (pre ++ [y])
    simp only [keepFrom, List.length_append, List.length_cons]
    split <;> simp <;> omega
theorem pairs1_snoc {v : Int} {a : Item} {outs : List Item} {j : Nat} (hj : j < outs.length) : pairs1 v a (outs.take (j + 1)) = pairs1 v a (outs.take j) ++ (if a.at_ = (nth outs j).at_ then [] else [⟨a.at_, (nth outs j).at_, a.key + (nth outs j).key, v⟩]) := by
  rw [take_snoc hj]
  unfold pairs1
  rw [List.filter_append, List.map_append]
  by_cases h : a.at_ = (nth outs j).at_ <;> simp [h]
theorem pairsOf_snoc {v : Int} {ins outs : List Item} {k : Nat} (hk : k < ins.length) : pairsOf v (ins.take (k + 1)) outs = pairsOf v (ins.take k) outs ++ pairs1 v (nth ins k) outs := by
  rw [take_snoc hk]
  simp [pairsOf]
theorem pairs1_len (v : Int) (a : Item) (outs : List Item) : (pairs1 v a outs).length ≤ outs.length := by
  unfold pairs1
  rw [List.length_map]
  exact List.length_filter_le _ _
theorem pairsOf_len (v : Int) (outs : List Item) : ∀ ins : List Item, (pairsOf v ins outs).length ≤ ins.length * outs.length
  | [] => by simp [pairsOf]
  | a :: ins => by
    have h1 := pairsOf_len v outs ins
    have h2 := pairs1_len v a outs
    unfold pairsOf at *
    rw [List.flatMap_cons, List.length_append, List.length_cons, Nat.succ_mul]
    omega
theorem pairs_cut {v : Int} {ins outs : List Item} {k j : Nat} (hk : k < ins.length) (hj : j < outs.length) (hne : (nth ins k).at_ ≠ (nth outs j).at_) :
    ∃ suf, pairsOf v ins outs = (pairsOf v (ins.take k) outs ++ pairs1 v (nth ins k) (outs.take j)) ++ ⟨(nth ins k).at_, (nth outs j).at_, (nth ins k).key + (nth outs j).key, v⟩ :: suf := by
  refine ⟨pairs1 v (nth ins k) (outs.drop (j + 1)) ++ pairsOf v (ins.drop (k + 1)) outs, ?_⟩
  have e1 : ins = ins.take k ++ nth ins k :: ins.drop (k + 1) := by rw [R.nth_eq hk, List.getElem_cons_drop, List.take_append_drop]
  have e2 : outs = outs.take j ++ nth outs j :: outs.drop (j + 1) := by rw [R.nth_eq hj, List.getElem_cons_drop, List.take_append_drop]
  have h2 : pairs1 v (nth ins k) outs = pairs1 v (nth ins k) (outs.take j) ++ ⟨(nth ins k).at_, (nth outs j).at_, (nth ins k).key + (nth outs j).key, v⟩ :: pairs1 v (nth ins k) (outs.drop (j + 1)) := by
    conv => lhs; rw [e2]
    unfold pairs1
    simp [List.filter_append, List.filter_cons, hne]
  have h1 : pairsOf v ins outs = pairsOf v (ins.take k) outs ++ (pairs1 v (nth ins k) outs ++ pairsOf v (ins.drop (k + 1)) outs) := by
    conv => lhs; rw [e1]
    simp [pairsOf]
  rw [h1, h2]
  simp [List.append_assoc]
/-- What is asked answers, and keeps its own things. -/
def Oracle (w0 : World) (F : List Nat) (g : FuncId) (cap : List Value) (b : List Link → Link → Bool) (RR : List Link → List R.Res → Prop) (all : List Link) : Prop := ∀ (pre : List Link) (x : Link) (suf : List Link) (lc : List R.Res) (w : World), all = pre ++ x :: suf → RR pre lc → R.Own F w0 w lc →
  Calls Try.prog g ([Value.int .i64 x.frm, Value.int .i64 x.to, Value.int .i64 x.weight] ++ cap).toArray w fun e w' => e = .returned (.bool (b pre x)) ∧ ∃ lc', RR (pre ++ [x]) lc' ∧ R.Own (R.keysOf lc) w w' lc'
set_option maxHeartbeats 1000000 in
theorem needed_yes (v : Int) (A B : Option Addr) (n m c d : Nat) (ins outs : List Item) (g : FuncId) [R.HasBody Try.prog g] (cap : List Value) (b : List Link → Link → Bool) (RR : List Link → List R.Res → Prop) (lc : List R.Res) (w : World)
    (hA : R.Inp (R.keysOf lc) w A n 2 (ins.flatMap cItem)) (hn : n = ins.length) (hB : R.Inp (R.keysOf lc) w B m 2 (outs.flatMap cItem)) (hm : m = outs.length) (h1 : mayI ins = true) (h2 : mayI outs = true)
    (ho : Oracle w (R.keysOf lc) g cap b RR (pairsOf v ins outs)) (hr : RR [] lc) (hh : R.Has w lc) :
    Calls Try.prog 18 #[.int .i64 v, .slice A n c, .slice B m d, .func (.func g) #[] cap.toArray] w fun e w' => ∃ A' c' lc', e = .returned (.slice A' (keepFrom b [] (pairsOf v ins outs)).length c') ∧ RR (pairsOf v ins outs) lc' ∧
      R.Own (R.keysOf lc) w w' (.row A' (keepFrom b [] (pairsOf v ins outs)).length c' 30 4 ((keepFrom b [] (pairsOf v ins outs)).flatMap cLink) :: lc') := by
  have hM := R.Own.startF hh
  obtain ⟨hn5, hk1⟩ := mayI_spec h1
  obtain ⟨hm5, hk2⟩ := mayI_spec h2
  have hA0 : R.Inp [] w A n 2 (ins.flatMap cItem) := ⟨hA.1, fun j v hj => by obtain ⟨a, p, q, _, r⟩ := hA.2 j v hj; exact ⟨a, p, q, by simp, r⟩⟩
  have hB0 : R.Inp [] w B m 2 (outs.flatMap cItem) := ⟨hB.1, fun j v hj => by obtain ⟨a, p, q, _, r⟩ := hB.2 j v hj; exact ⟨a, p, q, by simp, r⟩⟩
  refine R.calls_of_WC (fn := Try.f18) Try.func18 rfl Try.ntmps18 (Nat.le_of_ble_eq_true rfl) ?_
  (refine R.step ?_; (repeat' (first | (with_reducible refine And.intro ?_ ?_) | (with_reducible intro _))); all_goals refine R.Lft.mk ?_)
  refine R.WO_call1 rfl rfl (by first | exact R.eI rfl | exact R.eB rfl | exact R.eS rfl | exact R.eA rfl | exact R.eP rfl | exact R.eStr rfl | exact R.eT rfl | exact R.eM rfl | exact R.eF rfl | exact R.eF0 rfl | exact R.eP0 rfl | exact R.eQ rfl) ?_
  refine (rmay_any A n c ins w hA0 hn).mono ?_
  rintro e w1 ⟨rfl, hb1⟩
  have hM := hM.call hb1
  refine ⟨_, rfl, ?_⟩
  rw [h1]
  (refine R.step ?_; (repeat' (first | (with_reducible refine And.intro ?_ ?_) | (with_reducible intro _))); all_goals refine R.Lft.mk ?_)
  refine R.WO_call1 rfl rfl (by first | exact R.eI rfl | exact R.eB rfl | exact R.eS rfl | exact R.eA rfl | exact R.eP rfl | exact R.eStr rfl | exact R.eT rfl | exact R.eM rfl | exact R.eF rfl | exact R.eF0 rfl | exact R.eP0 rfl | exact R.eQ rfl) ?_
  refine (rmay_any B m d outs w1 (hB0.ext hb1) hm).mono ?_
  rintro e w2 ⟨rfl, hb2⟩
  have hM := hM.call hb2
  refine ⟨_, rfl, ?_⟩
  rw [h2]
  (refine R.step ?_; (repeat' (first | (with_reducible refine And.intro ?_ ?_) | (with_reducible intro _))); all_goals refine R.Lft.mk ?_)
  have hlen : ∀ k, k ≤ n → (pairsOf v (ins.take k) outs).length ≤ 250000 := fun k hk => by
    have := pairsOf_len v outs (ins.take k)
    have h3 : (ins.take k).length ≤ 500 := by rw [List.length_take]; omega
    have h4 : (ins.take k).length * outs.length ≤ 500 * 500 := Nat.mul_le_mul h3 hm5
    omega
  refine R.WC_loop (fun (i : Nat × Option Addr × Nat × List R.Res) => [(0, .int .i64 v), (2, .slice B m d), (3, .func (.func g) #[] cap.toArray), (8, .slice none 0 0), (9, .slice i.2.1 (keepFrom b [] (pairsOf v (ins.take i.1) outs)).length i.2.2.1), (26, .slice A n c), (27, .int .i64 (n : Nat)), (28, .int .i64 (i.1 : Nat))])
    (fun i w1 => i.1 ≤ n ∧ RR (pairsOf v (ins.take i.1) outs) i.2.2.2 ∧ R.Own (R.keysOf lc) w w1 (.row i.2.1 (keepFrom b [] (pairsOf v (ins.take i.1) outs)).length i.2.2.1 30 4 ((keepFrom b [] (pairsOf v (ins.take i.1) outs)).flatMap cLink) :: i.2.2.2)) (fun i => n - i.1)
    ⟨(0, none, 0, lc), ⟨rfl, rfl, rfl, rfl, rfl, rfl, rfl, rfl, trivial⟩, by omega, hr, hM.nil _ _⟩ ?_
  rintro ⟨k, A1, c1, l1⟩ f w3 ⟨hk, hr1, hM⟩
  simp only at hk hr1 hM ⊢
  by_cases hlt : k < n
  · have hmem := R.nth_mem (L := ins) (i := k) (by omega)
    obtain ⟨ha0, ha1⟩ := hk1 _ hmem
    (refine R.step ?_; (repeat' (first | (with_reducible refine And.intro ?_ ?_) | (with_reducible intro _))); all_goals refine R.Lft.mk ?_)
    rename_i g1 w4 hM4 w5 hM5
    refine R.WC_loop (fun (i : Nat × Option Addr × Nat × List R.Res) => [(0, .int .i64 v), (2, .slice B m d), (3, .func (.func g) #[] cap.toArray), (8, .slice none 0 0), (9, .slice i.2.1 (keepFrom b [] (pairsOf v (ins.take k) outs ++ pairs1 v (nth ins k) (outs.take i.1))).length i.2.2.1), (11, .pointer (some ⟨g1, 0, none⟩)), (26, .slice A n c), (27, .int .i64 (n : Nat)), (28, .int .i64 (k : Nat)), (32, .slice B m d), (33, .int .i64 (m : Nat)), (34, .int .i64 (i.1 : Nat))])
      (fun i w1 => i.1 ≤ m ∧ RR (pairsOf v (ins.take k) outs ++ pairs1 v (nth ins k) (outs.take i.1)) i.2.2.2 ∧ R.Own (R.keysOf lc) w w1 (.blk g1 43 (cItem (nth ins k)) :: .row i.2.1 (keepFrom b [] (pairsOf v (ins.take k) outs ++ pairs1 v (nth ins k) (outs.take i.1))).length i.2.2.1 30 4 ((keepFrom b [] (pairsOf v (ins.take k) outs ++ pairs1 v (nth ins k) (outs.take i.1))).flatMap cLink) :: i.2.2.2)) (fun i => m - i.1)
      ⟨(0, A1, c1, l1), ⟨rfl, rfl, rfl, rfl, R.viaS rfl (by simp [pairs1]), rfl, rfl, rfl, rfl, rfl, rfl, rfl, trivial⟩, by omega, by simpa [pairs1] using hr1, by simpa [pairs1] using hM5⟩ ?_
    rintro ⟨j, A2, c2, l2⟩ f w6 ⟨hj, hr2, hM⟩
    simp only at hj hr2 hM ⊢
    by_cases hjt : j < m
    · have hmem2 := R.nth_mem (L := outs) (i := j) (by omega)
      obtain ⟨hb0, hb1⟩ := hk2 _ hmem2
      (refine R.step ?_; (repeat' (first | (with_reducible refine And.intro ?_ ?_) | (with_reducible intro _))); all_goals refine R.Lft.mk ?_)
      · rename_i hM1 heq
        have hs : pairs1 v (nth ins k) (outs.take (j + 1)) = pairs1 v (nth ins k) (outs.take j) := by rw [pairs1_snoc (by omega), if_pos heq, List.append_nil]
        exact ⟨(j + 1, A2, c2, l2), ⟨rfl, rfl, rfl, rfl, R.viaS rfl (by rw [hs]), rfl, rfl, rfl, rfl, rfl, rfl, R.viaI rfl (by omega), trivial⟩, ⟨by simp only; omega, by simp only; rw [hs]; exact hr2, by simp only; rw [hs]; exact hM1.tl⟩, by simp only; omega⟩
      · rename_i hM1 hne
        have hs : pairs1 v (nth ins k) (outs.take (j + 1)) = pairs1 v (nth ins k) (outs.take j) ++ [⟨(nth ins k).at_, (nth outs j).at_, (nth ins k).key + (nth outs j).key, v⟩] := by rw [pairs1_snoc (by omega), if_neg hne]
        have hP := pairsOf_len v outs ins
        have hP2 : (keepFrom b [] (pairsOf v (ins.take k) outs ++ pairs1 v (nth ins k) (outs.take j))).length ≤ 250500 := by
          have h3 := keep_len b (pairsOf v (ins.take k) outs ++ pairs1 v (nth ins k) (outs.take j)) []
          have h4 := hlen k (by omega)
          have h5 := pairs1_len v (nth ins k) (outs.take j)
          have h6 : (outs.take j).length ≤ 500 := by rw [List.length_take]; omega
          rw [List.length_append] at h3
          omega
        obtain ⟨suf, hcut⟩ := pairs_cut (v := v) (ins := ins) (outs := outs) (k := k) (j := j) (by omega) (by omega) hne
        refine R.WO_callc3 rfl rfl (by first | exact R.eI rfl | exact R.eB rfl | exact R.eS rfl | exact R.eA rfl | exact R.eP rfl | exact R.eStr rfl | exact R.eT rfl | exact R.eM rfl | exact R.eF rfl | exact R.eF0 rfl | exact R.eP0 rfl | exact R.eQ rfl) (by first | exact R.eI rfl | exact R.eB rfl | exact R.eS rfl | exact R.eA rfl | exact R.eP rfl | exact R.eStr rfl | exact R.eT rfl | exact R.eM rfl | exact R.eF rfl | exact R.eF0 rfl | exact R.eP0 rfl | exact R.eQ rfl) (by first | exact R.eI rfl | exact R.eB rfl | exact R.eS rfl | exact R.eA rfl | exact R.eP rfl | exact R.eStr rfl | exact R.eT rfl | exact R.eM rfl | exact R.eF rfl | exact R.eF0 rfl | exact R.eP0 rfl | exact R.eQ rfl) ?_
        refine (ho _ ⟨(nth ins k).at_, (nth outs j).at_, (nth ins k).key + (nth outs j).key, v⟩ suf l2 _ hcut hr2 hM1.tl.tl.tl).mono ?_
        rintro e w7 ⟨rfl, l3, hr3, hO⟩
        have hM2 : R.Own _ w w7 (_ :: _ :: _ :: l3) := R.Own.callF (l := [_, _, _]) hM1 hO
        refine ⟨_, rfl, ?_⟩
        have hks := keep_snoc b (pairsOf v (ins.take k) outs ++ pairs1 v (nth ins k) (outs.take j)) [] ⟨(nth ins k).at_, (nth outs j).at_, (nth ins k).key + (nth outs j).key, v⟩
        rw [List.nil_append, List.append_assoc, ← hs] at hks
        rw [List.append_assoc, ← hs] at hr3
        cases hb : b (pairsOf v (ins.take k) outs ++ pairs1 v (nth ins k) (outs.take j)) ⟨(nth ins k).at_, (nth outs j).at_, (nth ins k).key + (nth outs j).key, v⟩
        · rw [hb] at hks
          simp only [Bool.false_eq_true, if_false] at hks
          clear hP hcut
          (refine R.step ?_; (repeat' (first | (with_reducible refine And.intro ?_ ?_) | (with_reducible intro _))); all_goals refine R.Lft.mk ?_)
          rename_i A4 c4 w8 hM8
          exact ⟨(j + 1, A4, c4, l3), ⟨rfl, rfl, rfl, rfl, R.viaS rfl (by rw [hks]; simp), rfl, rfl, rfl, rfl, rfl, rfl, R.viaI rfl (by omega), trivial⟩, ⟨by simp only; omega, hr3, by simp only; rw [hks]; simpa using hM8.tl⟩, by simp only; omega⟩
        · rw [hb] at hks
          simp only [if_true, List.append_nil] at hks
          clear hP hcut
          (refine R.step ?_; (repeat' (first | (with_reducible refine And.intro ?_ ?_) | (with_reducible intro _))); all_goals refine R.Lft.mk ?_)
          exact ⟨(j + 1, A2, c2, l3), ⟨rfl, rfl, rfl, rfl, R.viaS rfl (by rw [hks]), rfl, rfl, rfl, rfl, rfl, rfl, R.viaI rfl (by omega), trivial⟩, ⟨by simp only; omega, hr3, by simp only; rw [hks]; exact hM2.tl⟩, by simp only; omega⟩
    · obtain rfl : j = m := by omega
      have hs : pairsOf v (ins.take k) outs ++ pairs1 v (nth ins k) (outs.take j) = pairsOf v (ins.take (k + 1)) outs := by rw [hm, List.take_length, pairsOf_snoc (by omega)]
      rw [hs] at hr2 hM
      rw [hs]
      (refine R.step ?_; (repeat' (first | (with_reducible refine And.intro ?_ ?_) | (with_reducible intro _))); all_goals refine R.Lft.mk ?_)
      exact ⟨(k + 1, A2, c2, l2), ⟨rfl, rfl, rfl, rfl, rfl, rfl, rfl, R.viaI rfl (by omega), trivial⟩, ⟨by simp only; omega, hr2, hM.tl⟩, by simp only; omega⟩
  · obtain rfl : k = n := by omega
    rw [hn, List.take_length] at hr1 hM
    rw [hn, List.take_length]
    (refine R.step ?_; (repeat' (first | (with_reducible refine And.intro ?_ ?_) | (with_reducible intro _))); all_goals refine R.Lft.mk ?_)
    exact ⟨A1, c1, l1, rfl, hr1, hM⟩
end Go.Proofs.Ytmmfndmfibbhcaa
