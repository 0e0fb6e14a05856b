/- The law of chapter 22: its own example. -/
import Derived.Test.YtegbidklcaccjaaVt
import Derived.Test.YtegbidklcaccjaaDk
namespace Go.Proofs.Ytegbidklcaccjaa
open Go.RowKit
open R (In64 InU64 lo64 nth)
/-- There are least costs. -/
theorem least_one {I : Ins} (hI : I.Ok) {src : Nat} (hst : I.st = [(src, 0)]) : ∃ C P T, Least I C P T := by
  have h0 : Dv I 0 (List.replicate I.n 4611686018427387904) (List.replicate I.n 0) (fun _ => none) [] 0 I.n 0 := dv_init (by simp) (by simp) fun v hv => by
    rw [R.nth_eq (by simpa using hv)]; simp
  have h1 := h0.start hI (s := (src, 0)) (by rw [hst]; rfl)
  rw [show 0 + 1 = I.st.length by rw [hst]; rfl] at h1
  obtain ⟨C, P, T, hL, _⟩ := Dv.go hI I.n _ _ _ _ _ h1 (by simp)
  exact ⟨C, P, T, hL⟩
theorem ixOf_found {L : List Item} {p : Item → Bool} (h : ∃ z ∈ L, p z = true) : ∃ i : Nat, i < L.length ∧ ixOf p L = ((i : Nat) : Int) ∧ p (nth L i) = true := by
  unfold ixOf
  cases hf : L.findIdx? p with
  | none =>
    rw [List.findIdx?_eq_none_iff] at hf
    obtain ⟨z, hz, hp⟩ := h
    rw [hf z hz] at hp
    cases hp
  | some i =>
    rw [List.findIdx?_eq_some_iff_getElem] at hf
    obtain ⟨hi, hp, _⟩ := hf
    exact ⟨i, hi, rfl, by rw [R.nth_eq hi]; exact hp⟩
theorem found1_any (z : Item) (b : Nat) (to : Int) (w : World) (hb : b < w.heap.size) (hc : w.cell? ⟨b, 0, none⟩ = some (.int .i64 to)) : Calls Try.prog 90 #[.agg (cItem z).toArray, .pointer (some ⟨b, 0, none⟩)] w fun e w' => e = .returned (.bool (decide (z.at_ = to))) ∧ Below w.heap.size w w' := by
  have hM := R.Own.start [] w
  refine R.calls_of_WC (fn := Try.f90) Try.func90 rfl Try.ntmps90 (Nat.le_of_ble_eq_true rfl) ?_
  (refine R.stepH ?_; (repeat' (first | (with_reducible refine And.intro ?_ ?_) | (with_reducible intro _))); all_goals refine R.Lft.mk ?_)
  have hc2 := R.Own.cell_in R.ohm (a := ⟨b, 0, none⟩) hb (by simp) hc
  (refine R.stepH ?_; (repeat' (first | (with_reducible refine And.intro ?_ ?_) | (with_reducible intro _))); all_goals refine R.Lft.mk ?_; (all_goals (try (exact ⟨rfl, R.Own.below (by assumption)⟩))))
theorem found_any (A : Option Addr) (n c : Nat) (L : List Item) (to : Int) (w : World) (hA : R.Inp [] w A n 2 (L.flatMap cItem)) (hn : n = L.length) (hb : n ≤ 1000000) (h : ∃ z ∈ L, decide (z.at_ = to) = true) : Calls Try.prog 71 #[.slice A n c, .int .i64 to] w fun e w' => (∃ i : Nat, i < L.length ∧ (nth L i).at_ = to ∧ e = .returned (.tuple #[.int .i64 (nth L i).key, .bool true])) ∧ Below w.heap.size w w' := by
  have hM := R.Own.start [] w
  obtain ⟨i, hi, hix, hp⟩ := ixOf_found h
  refine R.calls_of_WC (fn := Try.f71) Try.func71 rfl Try.ntmps71 (Nat.le_of_ble_eq_true rfl) ?_
  (refine R.stepH ?_; (repeat' (first | (with_reducible refine And.intro ?_ ?_) | (with_reducible intro _))); all_goals refine R.Lft.mk ?_)
  rename_i g w1 hM
  refine R.WO_call2 rfl rfl R.vv R.vv ?_
  refine (indexFunc_Item A n c L 90 [.pointer (some ⟨g, 0, none⟩)] (fun z => decide (z.at_ = to)) w1 (R.Own.inpIn hM hA) hn (by omega) (fun z w2 _ hb2 => ?_)).mono ?_
  · have hM2 := R.Own.call hM hb2
    have hcell := R.Own.rowAt hM2 (g := g) (.head _) 0 _ rfl
    rw [Addr.add_lit] at hcell
    exact found1_any z g to w2 (R.Own.lt hM2 (.head _) rfl) hcell
  rintro e w2 ⟨rfl, hb2⟩
  have hM := R.Own.call hM hb2
  refine ⟨_, rfl, ?_⟩
  rw [hix]
  (refine R.stepH ?_; (repeat' (first | (with_reducible refine And.intro ?_ ?_) | (with_reducible intro _))); all_goals refine R.Lft.mk ?_)
  exact ⟨⟨i, hi, of_decide_eq_true hp, rfl⟩, R.Own.below R.ohm⟩
theorem enough_any (n : Int) (x : Wt) (w : World) : Calls Try.prog 40 #[.int .i64 n, .agg (cWt x).toArray] w fun e w' => e = .returned (.bool (decide (n ≤ x.hops ∧ n ≤ x.cnt))) ∧ Below w.heap.size w w' := by
  have hM := R.Own.start [] w
  refine R.calls_of_WC (fn := Try.f40) Try.func40 rfl Try.ntmps40 (Nat.le_of_ble_eq_true rfl) ?_
  by_cases h1 : n ≤ x.hops
  · (refine R.stepH ?_; (repeat' (first | (with_reducible refine And.intro ?_ ?_) | (with_reducible intro _))); all_goals refine R.Lft.mk ?_)
    exact ⟨by simp [h1], R.Own.below R.ohm⟩
  · (refine R.stepH ?_; (repeat' (first | (with_reducible refine And.intro ?_ ?_) | (with_reducible intro _))); all_goals refine R.Lft.mk ?_)
    exact ⟨by simp [h1], R.Own.below R.ohm⟩
instance con_enough (n : Int) (x : Wt) : R.ConB Try.prog 40 #[.int .i64 n, .agg (cWt x).toArray] Unit (fun _ _ => True) (fun _ => .bool (decide (n ≤ x.hops ∧ n ≤ x.cnt))) := ⟨fun _ w _ => enough_any n x w⟩
def LineOk (W : World) (g : Gph) : Prop := GGph W g ∧ g.st.n = 5 ∧ g.hd.n = 4 ∧ g.wt.n = 4 ∧ g.st.L = [0, 2, 3, 4, 4] ∧ g.hd.L = [1, 3, 2, 3] ∧ g.wt.L = [1, 9, 1, 1]
theorem line_may {W : World} {g : Gph} (h : LineOk W g) : MayG g := by
  obtain ⟨_, h1, h2, h3, h4, h5, h6⟩ := h
  refine { n1 := by omega, n2 := by omega, n3 := by omega, n4 := by omega, s0 := by rw [h4]; rfl, s1 := by rw [h4, h1, h2]; rfl, up := fun v hv => ?_, arc := fun v i hv g1 g2 => ?_ }
  · rw [h4]
    have : v = 0 ∨ v = 1 ∨ v = 2 ∨ v = 3 := by omega
    rcases this with rfl | rfl | rfl | rfl <;> decide
  · unfold okArc
    rw [h4] at g1 g2 ⊢
    rw [h5, h6, h1]
    have : v = 0 ∨ v = 1 ∨ v = 2 ∨ v = 3 := by omega
    rcases this with rfl | rfl | rfl | rfl
    · have g2 : ((i : Nat) : Int) < 2 := g2
      have : i = 0 ∨ i = 1 := by omega
      rcases this with rfl | rfl <;> decide
    · have g1 : (2 : Int) ≤ ((i : Nat) : Int) := g1
      have g2 : ((i : Nat) : Int) < 3 := g2
      obtain rfl : i = 2 := by omega
      decide
    · have g1 : (3 : Int) ≤ ((i : Nat) : Int) := g1
      have g2 : ((i : Nat) : Int) < 4 := g2
      obtain rfl : i = 3 := by omega
      decide
    · have g1 : (4 : Int) ≤ ((i : Nat) : Int) := g1
      have g2 : ((i : Nat) : Int) < 4 := g2
      omega
theorem line_any (w : World) : Calls Try.prog 70 #[] w fun e w' => ∃ g, LineOk w' g ∧ e = .returned (.agg (cGph g).toArray) ∧ Below w.heap.size w w' := by
  have hM := R.Own.start [] w
  refine R.calls_of_WC (fn := Try.f70) Try.func70 rfl Try.ntmps70 (Nat.le_of_ble_eq_true rfl) ?_
  (refine R.stepH ?_; (repeat' (first | (with_reducible refine And.intro ?_ ?_) | (with_reducible intro _))); all_goals refine R.Lft.mk ?_)
  rename_i gb _ _ A1 c1 _ _ A2 c2 _ _ A3 c3 _ _ w1 hM
  refine ⟨⟨⟨A1, 5, c1, [0, 2, 3, 4, 4]⟩, ⟨A2, 4, c2, [1, 3, 2, 3]⟩, ⟨A3, 4, c3, [1, 9, 1, 1]⟩⟩, ⟨?_, rfl, rfl, rfl, rfl, rfl, rfl⟩, rfl, R.Own.below hM⟩
  exact ⟨⟨R.Own.inp hM (.tail _ (.tail _ (.head _))), rfl, cap_ofD hM (.tail _ (.tail _ (.head _))), wfs (show ∀ v ∈ ([0, 2, 3, 4, 4] : List Int), -1000 ≤ v ∧ v ≤ 1000 by decide) w1⟩, ⟨R.Own.inp hM (.tail _ (.head _)), rfl, cap_ofD hM (.tail _ (.head _)), wfs (show ∀ v ∈ ([1, 3, 2, 3] : List Int), -1000 ≤ v ∧ v ≤ 1000 by decide) w1⟩, ⟨R.Own.inp hM (.head _), rfl, cap_ofD hM (.head _), wfs (show ∀ v ∈ ([1, 9, 1, 1] : List Int), -1000 ≤ v ∧ v ≤ 1000 by decide) w1⟩⟩
/-- The line, and a long way. -/
def insL : Ins := ⟨4, fun v => (nth ([0, 2, 3, 4, 4] : List Int) v).toNat, fun i => (nth ([1, 3, 2, 3] : List Int) i).toNat, fun i => nth ([1, 9, 1, 1] : List Int) i, fun v => decide (v ≠ 2), [(0, 0)]⟩
theorem insL_ok : insL.Ok := by
  refine ⟨by decide, fun v i hv h1 h2 => ?_, fun s hs => ?_⟩
  · have hv : v < 4 := hv
    have : v = 0 ∨ v = 1 ∨ v = 2 ∨ v = 3 := by omega
    rcases this with rfl | rfl | rfl | rfl
    · have h2 : i < 2 := h2
      have : i = 0 ∨ i = 1 := by omega
      rcases this with rfl | rfl <;> decide
    · have h1 : 2 ≤ i := h1
      have h2 : i < 3 := h2
      obtain rfl : i = 2 := by omega
      decide
    · have h1 : 3 ≤ i := h1
      have h2 : i < 4 := h2
      obtain rfl : i = 3 := by omega
      decide
    · have h1 : 4 ≤ i := h1
      have h2 : i < 4 := h2
      omega
  · rw [List.mem_singleton.1 hs]
    decide
theorem out_line {W : World} {g : Gph} (h : LineOk W g) (v : Nat) : outT g v (degG g v) = outI insL v ∧ degG g v = insL.S (v + 1) - insL.S v := by
  obtain ⟨_, h1, h2, h3, h4, h5, h6⟩ := h
  have hnn : ∀ i, ((nth ([1, 3, 2, 3] : List Int) i).toNat : Int) = nth ([1, 3, 2, 3] : List Int) i := fun i => by
    rcases Nat.lt_or_ge i 4 with c | c
    · have : i = 0 ∨ i = 1 ∨ i = 2 ∨ i = 3 := by omega
      rcases this with rfl | rfl | rfl | rfl <;> decide
    · have : nth ([1, 3, 2, 3] : List Int) i = 0 := by
        unfold R.nth
        rw [List.getD_eq_getElem?_getD, List.getElem?_eq_none (by simpa using c)]
        rfl
      rw [this]
      rfl
  have hd : degG g v = insL.S (v + 1) - insL.S v := by unfold degG; rw [h4]; rfl
  refine ⟨?_, hd⟩
  rw [hd]
  unfold outT outI
  rw [h4, h5, h6]
  refine List.map_congr_left fun j _ => ?_
  rw [show insL.H (insL.S v + j) = (nth ([1, 3, 2, 3] : List Int) ((nth ([0, 2, 3, 4, 4] : List Int) v).toNat + j)).toNat from rfl, hnn]
  rfl
theorem awc_any (v : Nat) (hv : v < 4) (w : World) : Calls Try.prog 69 #[.int .i64 (v : Nat)] w fun e w' => ∃ A c, e = .returned (.slice A (insL.S (v + 1) - insL.S v) c) ∧ R.Gives w w' A (insL.S (v + 1) - insL.S v) c 72 2 ((outI insL v).flatMap cItem) := by
  have hM := R.Own.start [] w
  refine R.calls_of_WC (fn := Try.f69) Try.func69 rfl Try.ntmps69 (Nat.le_of_ble_eq_true rfl) ?_
  (refine R.stepH ?_; (repeat' (first | (with_reducible refine And.intro ?_ ?_) | (with_reducible intro _))); all_goals refine R.Lft.mk ?_)
  refine R.WO_call0 rfl rfl  ?_
  refine (line_any _).mono ?_
  rintro _ w3 ⟨g, hg, rfl, hb3⟩
  have hM := R.Own.call R.ohm hb3
  refine ⟨_, rfl, ?_⟩
  obtain ⟨o1, o2⟩ := out_line hg v
  have hg5 := hg.2.1
  (refine R.stepH ?_; (repeat' (first | (with_reducible refine And.intro ?_ ?_) | (with_reducible intro _))); all_goals refine R.Lft.mk ?_)
  refine R.WO_call2 rfl rfl R.vv R.vv ?_
  refine (aOut_any g v _ hg.1 (line_may hg) (by omega)).mono ?_
  rintro _ w4 ⟨A, c, rfl, hGv⟩
  rw [o1, o2] at hGv
  rw [o2]
  have hM := R.Own.give R.ohm hGv
  refine ⟨_, rfl, ?_⟩
  (refine R.stepH ?_; (repeat' (first | (with_reducible refine And.intro ?_ ?_) | (with_reducible intro _))); all_goals refine R.Lft.mk ?_)
  exact ⟨A, c, rfl, R.Own.gives R.ohm⟩
theorem told_line {cs : Nat → Int} {S : List Nat} {C P : List Int} {T : List Nat} (hL : Least insL C P T) (hT : Told insL 20 5 5 cs S C) : S.length = 3 ∧ 3 ∈ S ∧ cs 3 = 9 := by
  have c0 := hL.sa (0, 0) (.head _) rfl
  have c0 : nth C 0 ≤ 0 := c0
  have b0 := hL.bd 0 (show 0 < 4 by decide)
  have c1 : nth C 1 ≤ nth C 0 + 1 := hL.cl 0 (show 0 < 4 by decide) (by omega) 0 (show 0 ≤ 0 by decide) (show 0 < 2 by decide) rfl
  have c3 : nth C 3 ≤ nth C 0 + 9 := hL.cl 0 (show 0 < 4 by decide) (by omega) 1 (show 0 ≤ 1 by decide) (show 1 < 2 by decide) rfl
  have h2 : ¬ nth C 2 < 4611686018427387904 := fun h => by
    have := (hL.su 2 (show 2 < 4 by decide) h).1
    exact absurd this (by decide)
  have e3 : nth C 3 = 9 := by
    rcases (hL.su 3 (show 3 < 4 by decide) (by omega)).2 with ⟨_, r2⟩ | ⟨u, i, r1, r2, r3, r4, r5, r6, r7⟩
    · have hx := List.mem_singleton.1 r2
      injection hx with x0 _
      omega
    · have hu := (hL.fi u).1 r1
      have hu4 : u < 4 := hu.1
      have : u = 0 ∨ u = 1 ∨ u = 2 ∨ u = 3 := by omega
      rcases this with rfl | rfl | rfl | rfl
      · have r4 : i < 2 := r4
        have : i = 0 ∨ i = 1 := by omega
        rcases this with rfl | rfl
        · exact absurd r5 (by decide)
        · have r6 : nth C 3 = nth C 0 + 9 := r6
          omega
      · have r3 : 2 ≤ i := r3
        have r4 : i < 3 := r4
        obtain rfl : i = 2 := by omega
        exact absurd r5 (by decide)
      · exact absurd hu.2 h2
      · have r3 : 4 ≤ i := r3
        have r4 : i < 4 := r4
        omega
  obtain ⟨ha, hb⟩ := hT.all (by decide) (by decide)
  have m0 := hb 0 (show 0 < 4 by decide) (by omega) (by omega)
  have m1 := hb 1 (show 1 < 4 by decide) (by omega) (by omega)
  have m3 := hb 3 (show 3 < 4 by decide) (by omega) (by omega)
  refine ⟨?_, m3, by rw [ha 3 m3, e3]⟩
  refine Nat.le_antisymm (hT.nd.length_le_of_subset (l₂ := [0, 1, 3]) fun u hu => ?_) ((show ([0, 1, 3] : List Nat).Nodup by decide).length_le_of_subset (l₂ := S) fun u hu => ?_)
  · obtain ⟨q1, q2, _⟩ := hT.inn u hu
    have q1 : u < 4 := q1
    have q2 : decide (u ≠ 2) = true := q2
    have q2 := of_decide_eq_true q2
    have : u = 0 ∨ u = 1 ∨ u = 3 := by omega
    rcases this with rfl | rfl | rfl <;> simp
  · simp at hu
    rcases hu with rfl | rfl | rfl
    · exact m0
    · exact m1
    · exact m3
set_option maxHeartbeats 2000000 in
theorem awake22 (w : World) : Calls Try.prog 36 #[] w fun e w' => e = .returned (.bool true) ∧ Below w.heap.size w w' := by
  have hM := R.Own.start [] w
  refine R.calls_of_WC (fn := Try.f36) Try.func36 rfl Try.ntmps36 (Nat.le_of_ble_eq_true rfl) ?_
  (refine R.stepH ?_; (repeat' (first | (with_reducible refine And.intro ?_ ?_) | (with_reducible intro _))); all_goals refine R.Lft.mk ?_)
  refine R.WO_call2 rfl rfl R.vv R.vv ?_
  refine (wrun_any (fid := 69) [] insL insL_ok (by decide) (fun v hv => ?_) ⟨0, 2, 20, 5, 5⟩ ⟨(show In64 0 by unfold In64; omega), (show In64 2 by unfold In64; omega), (show In64 20 by unfold In64; omega), (show In64 5 by unfold In64; omega), (show In64 5 by unfold In64; omega)⟩ 0 rfl (by decide) (fun u hu => ?_) _ (fun v w1 hv _ => awc_any v hv w1)).mono ?_
  · have hv : v < 4 := hv
    have : v = 0 ∨ v = 1 ∨ v = 2 ∨ v = 3 := by omega
    rcases this with rfl | rfl | rfl | rfl <;> decide
  · show decide (u ≠ 2) = true ↔ ((u : Nat) : Int) ≠ 2
    rw [decide_eq_true_iff]
    omega
  rintro _ w3 ⟨A, c, S, cs, rfl, hG, hor⟩
  have hM := R.Own.give R.ohm hG
  obtain ⟨C, P, T, hL⟩ := least_one insL_ok (src := 0) rfl
  obtain ⟨q1, q2, q3⟩ : S.length = 3 ∧ 3 ∈ S ∧ cs 3 = 9 := by
    rcases hor with ⟨_, h⟩ | ⟨_, _, _, _, h⟩
    · exfalso
      revert h
      decide
    · exact told_line hL (h C P T hL rfl)
  have hlen : (S.map fun u => Item.mk (cs u) ((u : Nat) : Int)).length = S.length := by simp
  rw [q1] at hM hlen ⊢
  refine ⟨_, rfl, ?_⟩
  (refine R.stepH ?_; (repeat' (first | (with_reducible refine And.intro ?_ ?_) | (with_reducible intro _))); all_goals refine R.Lft.mk ?_)
  refine R.WO_call2 rfl rfl R.vv R.vv ?_
  refine (found_any A 3 c (S.map fun u => Item.mk (cs u) ((u : Nat) : Int)) 3 _ (R.Own.inp R.ohm (.head _)) hlen.symm (by omega) ⟨_, List.mem_map.2 ⟨3, q2, rfl⟩, rfl⟩).mono ?_
  rintro _ w4 ⟨⟨i, hi, hat, rfl⟩, hb4⟩
  have hM := R.Own.call R.ohm hb4
  have hkey : (nth (S.map fun u => Item.mk (cs u) ((u : Nat) : Int)) i).key = 9 := by
    obtain ⟨u, hu, he⟩ := List.mem_map.1 (R.nth_mem hi)
    rw [← he] at hat ⊢
    have : u = 3 := by dsimp only at hat; omega
    rw [this]
    exact q3
  rw [hkey]
  refine ⟨_, rfl, ?_⟩
  (refine R.stepH ?_; (repeat' (first | (with_reducible refine And.intro ?_ ?_) | (with_reducible intro _))); all_goals refine R.Lft.mk ?_)
  refine R.WO_call2 rfl rfl R.vv R.vv ?_
  show R.callT _ _ #[.int .i64 4, .agg (cWt ⟨0, 0, 0, 4, 9⟩).toArray] _ _
  refine (enough_any 4 ⟨0, 0, 0, 4, 9⟩ _).mono ?_
  rintro _ w5 ⟨rfl, hb5⟩
  have hM := R.Own.call R.ohm hb5
  refine ⟨_, rfl, ?_⟩
  (refine R.stepH ?_; (repeat' (first | (with_reducible refine And.intro ?_ ?_) | (with_reducible intro _))); all_goals refine R.Lft.mk ?_; (all_goals (try (exact ⟨rfl, R.Own.below (by assumption)⟩))))
instance con_awake22 : R.ConB Try.prog 36 #[] Unit (fun _ _ => True) (fun _ => .bool true) := ⟨fun _ w _ => awake22 w⟩
end Go.Proofs.Ytegbidklcaccjaa
