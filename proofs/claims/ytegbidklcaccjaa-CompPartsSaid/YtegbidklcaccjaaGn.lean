/- Which graphs may be: the document's. -/
import Derived.Test.YtegbidklcaccjaaGr
namespace Go.Proofs.Ytegbidklcaccjaa
open Go.RowKit
open R (In64 InU64 lo64 nth)
set_option maxHeartbeats 8000000 in
theorem rmay_any (g : Gph) (w : World) (hG : GGph w g) : Calls Try.prog 16 #[.agg (cGph g).toArray] w fun e w' => e = .returned (.bool (mayG g)) ∧ Below w.heap.size w w' := by
  have hM := R.Own.start [] w
  obtain ⟨⟨hA, hal, hac, hag⟩, ⟨hB, hbl, hbc, hbg⟩, ⟨hC, hcl, hcc, hcg⟩⟩ := hG
  refine R.calls_of_WC (fn := Try.f16) Try.func16 rfl Try.ntmps16 (Nat.le_of_ble_eq_true rfl) ?_
  by_cases h0 : g.st.n = 0
  · (refine R.stepH ?_; (repeat' (first | (with_reducible refine And.intro ?_ ?_) | (with_reducible intro _))); all_goals refine R.Lft.mk ?_)
    exact ⟨by rw [mayG_f fun h => by have := h.n1; omega], R.Own.below R.ohm⟩
  have e1 : ((g.st.n : Int) - 1).toNat = g.st.n - 1 := by omega
  have e0 : Int.toNat 0 = 0 := rfl
  (refine R.stepH ?_; (repeat' (first | (with_reducible refine And.intro ?_ ?_) | (with_reducible intro _))); all_goals refine R.Lft.mk ?_)
  all_goals first
    | exact ⟨by rw [mayG_f fun h => by have := h.n1; have := h.n2; have := h.n3; have := h.n4; have := h.s0; have := h.s1; simp only [e1, e0] at *; first | contradiction | omega], R.Own.below R.ohm⟩
    | skip
  rename_i gb _ _ _ hM a1 a2 a3 a4 a5
  rw [e0] at a4
  rw [e1] at a5
  have n1 : 1 ≤ g.st.n := by omega
  have n2 : g.st.n ≤ 4001 := by omega
  have n3 : g.hd.n ≤ 200000 := by omega
  have n4 : g.wt.n = g.hd.n := by omega
  have s0 := Decidable.not_not.1 a4
  have s1 := Decidable.not_not.1 a5
  clear a4 a5
  refine R.WC_loop (fun k : Nat => [(1, .pointer (some ⟨gb, 0, none⟩)), (2, .bool false), (3, .int .i64 ((g.st.n : Int) - 1)), (4, .int .i64 (k : Nat))])
    (fun k w1 => k + 1 ≤ g.st.n ∧ R.Own [] w w1 [.blk gb 24 (cGph g)] ∧ ∀ v : Nat, v < k → nth g.st.L v ≤ nth g.st.L (v + 1)) (fun k => g.st.n - k) ⟨0, ⟨rfl, rfl, rfl, rfl, trivial⟩, n1, hM, fun v hv => absurd hv (Nat.not_lt_zero _)⟩ ?_
  clear hM
  rintro k f w1 ⟨hk, hM, hall⟩
  by_cases hlt : k + 1 < g.st.n
  · have ek : ((k : Int) + 1).toNat = k + 1 := by omega
    (refine R.stepH ?_; (repeat' (first | (with_reducible refine And.intro ?_ ?_) | (with_reducible intro _))); all_goals refine R.Lft.mk ?_)
    · rename_i hh
      rw [ek] at hh
      exact ⟨by rw [mayG_f fun h => by have := h.up k hlt; omega], R.Own.below R.ohm⟩
    · rename_i hh
      rw [ek] at hh
      refine ⟨k + 1, ⟨rfl, rfl, rfl, R.viaI rfl (by omega), trivial⟩, ⟨by omega, R.ohm, fun v hv => ?_⟩, by omega⟩
      rcases Nat.lt_or_ge v k with c | c
      · exact hall v c
      · rw [show v = k by omega]
        omega
  have hs : StG g := ⟨n1, n2, n3, n4, s0, s1, fun v hv => hall v (by omega)⟩
  clear hall
  (refine R.stepH ?_; (repeat' (first | (with_reducible refine And.intro ?_ ?_) | (with_reducible intro _))); all_goals refine R.Lft.mk ?_)
  refine R.WC_loop (fun k : Nat => [(1, .pointer (some ⟨gb, 0, none⟩)), (2, .bool false), (3, .int .i64 ((g.st.n : Int) - 1)), (5, .int .i64 (k : Nat))])
    (fun k w1 => k + 1 ≤ g.st.n ∧ R.Own [] w w1 [.blk gb 24 (cGph g)] ∧ ∀ v i : Nat, v < k → nth g.st.L v ≤ (i : Nat) → ((i : Nat) : Int) < nth g.st.L (v + 1) → okArc g v i) (fun k => g.st.n - k) ⟨0, ⟨rfl, rfl, rfl, rfl, trivial⟩, n1, R.ohm, fun v i hv => absurd hv (Nat.not_lt_zero _)⟩ ?_
  clear hM hlt hk
  rintro k f w1 ⟨hk, hM, hall⟩
  by_cases hlt : k + 1 < g.st.n
  · have ek : ((k : Int) + 1).toNat = k + 1 := by omega
    have hlo := hs.lo (v := k) (by omega)
    have hup := hs.up k hlt
    have hhi := hs.hi (v := k + 1) (by omega)
    (refine R.stepH ?_; (repeat' (first | (with_reducible refine And.intro ?_ ?_) | (with_reducible intro _))); all_goals refine R.Lft.mk ?_)
    refine R.WC_loop (fun j : Nat => [(1, .pointer (some ⟨gb, 0, none⟩)), (2, .bool false), (3, .int .i64 ((g.st.n : Int) - 1)), (5, .int .i64 (k : Nat)), (6, .int .i64 (j : Nat))])
      (fun j w1 => nth g.st.L k ≤ (j : Nat) ∧ ((j : Nat) : Int) ≤ nth g.st.L (k + 1) ∧ R.Own [] w w1 [.blk gb 24 (cGph g)] ∧ ∀ i : Nat, nth g.st.L k ≤ (i : Nat) → i < j → okArc g k i) (fun j => g.hd.n - j) ⟨(nth g.st.L k).toNat, ⟨rfl, rfl, rfl, rfl, R.viaI rfl (by omega), trivial⟩, by omega, by omega, R.ohm, fun i h1 h2 => by omega⟩ ?_
    clear hM
    rintro j f w2 ⟨hj1, hj2, hM, harc⟩
    by_cases hjt : ((j : Nat) : Int) < nth g.st.L (k + 1)
    · have hno : ¬ okArc g k j → mayG g = false := fun h => mayG_f fun hm => h (hm.arc k j hlt hj1 hjt)
      have ej : ((j : Int) - 1).toNat = j - 1 := by omega
      have hjt' : ((j : Nat) : Int) < nth g.st.L ((k : Int) + 1).toNat := by rw [ek]; exact hjt
      by_cases hjk : nth g.st.L k < (j : Nat)
      · (refine R.stepH ?_; (repeat' (first | (with_reducible refine And.intro ?_ ?_) | (with_reducible intro _))); all_goals refine R.Lft.mk ?_)
        all_goals first
          | exact ⟨by rw [hno fun h => by obtain ⟨q1, q2, q3, q4, q5⟩ := h; have q5 := q5 hjk; (try simp only [ej] at *); omega], R.Own.below R.ohm⟩
          | skip
        rename_i b1 b2 b3 b4 b5
        rw [ej] at b5
        refine ⟨j + 1, ⟨rfl, rfl, rfl, rfl, R.viaI rfl (by omega), trivial⟩, ⟨by omega, by omega, R.ohm, fun i h1 h2 => ?_⟩, by omega⟩
        rcases Nat.lt_or_ge i j with c | c
        · exact harc i h1 c
        · obtain rfl : i = j := by omega
          exact ⟨by omega, by omega, by omega, by omega, fun _ => by omega⟩
      · (refine R.stepH ?_; (repeat' (first | (with_reducible refine And.intro ?_ ?_) | (with_reducible intro _))); all_goals refine R.Lft.mk ?_)
        all_goals first
          | exact ⟨by rw [hno fun h => by obtain ⟨q1, q2, q3, q4, q5⟩ := h; omega], R.Own.below R.ohm⟩
          | skip
        rename_i b1 b2 b3 b4
        refine ⟨j + 1, ⟨rfl, rfl, rfl, rfl, R.viaI rfl (by omega), trivial⟩, ⟨by omega, by omega, R.ohm, fun i h1 h2 => ?_⟩, by omega⟩
        rcases Nat.lt_or_ge i j with c | c
        · exact harc i h1 c
        · obtain rfl : i = j := by omega
          exact ⟨by omega, by omega, by omega, by omega, fun h => absurd h hjk⟩
    · have hjt' : ¬ ((j : Nat) : Int) < nth g.st.L ((k : Int) + 1).toNat := by rw [ek]; exact hjt
      (refine R.stepH ?_; (repeat' (first | (with_reducible refine And.intro ?_ ?_) | (with_reducible intro _))); all_goals refine R.Lft.mk ?_)
      refine ⟨k + 1, ⟨rfl, rfl, rfl, R.viaI rfl (by omega), trivial⟩, ⟨by omega, R.ohm, fun v i hv h1 h2 => ?_⟩, by omega⟩
      rcases Nat.lt_or_ge v k with c | c
      · exact hall v i c h1 h2
      · obtain rfl : v = k := by omega
        exact harc i h1 (by omega)
  · (refine R.stepH ?_; (repeat' (first | (with_reducible refine And.intro ?_ ?_) | (with_reducible intro _))); all_goals refine R.Lft.mk ?_)
    rw [mayG_t { hs with arc := fun v i hv h1 h2 => hall v i (by omega) h1 h2 }]
    exact ⟨rfl, R.Own.below R.ohm⟩
end Go.Proofs.Ytegbidklcaccjaa
