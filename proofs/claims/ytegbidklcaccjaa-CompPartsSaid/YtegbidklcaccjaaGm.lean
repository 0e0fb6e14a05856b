/- Which graphs may be: the program's. -/
import Derived.Test.YtegbidklcaccjaaGr
namespace Go.Proofs.Ytegbidklcaccjaa
open Go.RowKit
open R (In64 InU64 lo64 nth)
set_option maxHeartbeats 4000000 in
theorem amay_any (g : Gph) (w : World) (hG : GGph w g) : Calls Try.prog 49 #[.agg (cGph g).toArray] w fun e w' => e = .returned (.bool (mayG g)) ∧ Below w.heap.size w w' := by
  have hM := R.Own.start [] w
  have hG0 := hG
  obtain ⟨⟨hA, hal, hac, hag⟩, ⟨hB, hbl, hbc, hbg⟩, ⟨hC, hcl, hcc, hcg⟩⟩ := hG
  refine R.calls_of_WC (fn := Try.f49) Try.func49 rfl Try.ntmps49 (Nat.le_of_ble_eq_true rfl) ?_
  (refine R.stepH ?_; (repeat' (first | (with_reducible refine And.intro ?_ ?_) | (with_reducible intro _))); all_goals refine R.Lft.mk ?_)
  rename_i gb _ _
  refine R.WO_call1 rfl rfl R.vv ?_
  refine (starts_any g _ (GGph.now R.ohm hG0)).mono ?_
  rintro _ w3 ⟨rfl, hb3⟩
  have hM := R.Own.call R.ohm hb3
  refine ⟨_, rfl, ?_⟩
  rcases Classical.em (StG g) with hs | hs
  · have n1 := hs.n1
    have n2 := hs.n2
    have n3 := hs.n3
    have n4 := hs.n4
    rw [stG_t hs]
    (refine R.stepH ?_; (repeat' (first | (with_reducible refine And.intro ?_ ?_) | (with_reducible intro _))); all_goals refine R.Lft.mk ?_)
    refine R.WC_loop (fun k : Nat => [(1, .pointer (some ⟨gb, 0, none⟩)), (2, .bool false), (3, .int .i64 ((g.st.n : Int) - 1)), (15, .int .i64 ((g.st.n : Int) - 1)), (16, .int .i64 (k : Nat))])
      (fun k w1 => k + 1 ≤ g.st.n ∧ R.Own [] w w1 [.blk gb 24 (cGph g)] ∧ ∀ v i : Nat, v < k → nth g.st.L v ≤ (i : Nat) → ((i : Nat) : Int) < nth g.st.L (v + 1) → okArc g v i) (fun k => g.st.n - k) ⟨0, ⟨rfl, rfl, rfl, rfl, rfl, trivial⟩, n1, hM, fun v i hv => absurd hv (Nat.not_lt_zero _)⟩ ?_
    clear hM
    rintro k f w1 ⟨hk, hM, hall⟩
    by_cases hlt : k + 1 < g.st.n
    · have ek : ((k : Int) + 1).toNat = k + 1 := by omega
      have hlo := hs.lo (v := k) (by omega)
      have hup := hs.up k hlt
      have hhi := hs.hi (v := k + 1) (by omega)
      (refine R.stepH ?_; (repeat' (first | (with_reducible refine And.intro ?_ ?_) | (with_reducible intro _))); all_goals refine R.Lft.mk ?_)
      refine R.WC_loop (fun j : Nat => [(1, .pointer (some ⟨gb, 0, none⟩)), (2, .bool false), (3, .int .i64 ((g.st.n : Int) - 1)), (4, .int .i64 (k : Nat)), (5, .int .i64 (j : Nat)), (15, .int .i64 ((g.st.n : Int) - 1)), (16, .int .i64 (k : Nat))])
        (fun j w1 => nth g.st.L k ≤ (j : Nat) ∧ ((j : Nat) : Int) ≤ nth g.st.L (k + 1) ∧ R.Own [] w w1 [.blk gb 24 (cGph g)] ∧ ∀ i : Nat, nth g.st.L k ≤ (i : Nat) → i < j → okArc g k i) (fun j => g.hd.n - j) ⟨(nth g.st.L k).toNat, ⟨rfl, rfl, rfl, rfl, R.viaI rfl (by omega), rfl, rfl, trivial⟩, by omega, by omega, R.ohm, fun i h1 h2 => by omega⟩ ?_
      clear hM
      rintro j f w2 ⟨hj1, hj2, hM, harc⟩
      by_cases hjt : ((j : Nat) : Int) < nth g.st.L (k + 1)
      · have hno : ¬ okArc g k j → mayG g = false := fun h => mayG_f fun hm => h (hm.arc k j hlt hj1 hjt)
        have ej : ((j : Int) - 1).toNat = j - 1 := by omega
        have hjt' : ((j : Nat) : Int) < nth g.st.L ((k : Int) + 1).toNat := by rw [ek]; exact hjt
        by_cases hjk : nth g.st.L k < (j : Nat)
        · (refine R.stepH ?_; (repeat' (first | (with_reducible refine And.intro ?_ ?_) | (with_reducible intro _))); all_goals refine R.Lft.mk ?_)
          all_goals first
            | exact ⟨by rw [hno fun h => by obtain ⟨q1, q2, q3, q4, q5⟩ := h; have q5 := q5 hjk; (try simp only [ej] at *); omega], R.Own.below R.ohm⟩
            | skip
          rename_i b1 b2 b3 b4 b5
          rw [ej] at b5
          refine ⟨j + 1, ⟨rfl, rfl, rfl, rfl, R.viaI rfl (by omega), rfl, rfl, trivial⟩, ⟨by omega, by omega, R.ohm, fun i h1 h2 => ?_⟩, by omega⟩
          rcases Nat.lt_or_ge i j with c | c
          · exact harc i h1 c
          · obtain rfl : i = j := by omega
            exact ⟨by omega, by omega, by omega, by omega, fun _ => by omega⟩
        · (refine R.stepH ?_; (repeat' (first | (with_reducible refine And.intro ?_ ?_) | (with_reducible intro _))); all_goals refine R.Lft.mk ?_)
          all_goals first
            | exact ⟨by rw [hno fun h => by obtain ⟨q1, q2, q3, q4, q5⟩ := h; omega], R.Own.below R.ohm⟩
            | skip
          rename_i b1 b2 b3 b4
          refine ⟨j + 1, ⟨rfl, rfl, rfl, rfl, R.viaI rfl (by omega), rfl, rfl, trivial⟩, ⟨by omega, by omega, R.ohm, fun i h1 h2 => ?_⟩, by omega⟩
          rcases Nat.lt_or_ge i j with c | c
          · exact harc i h1 c
          · obtain rfl : i = j := by omega
            exact ⟨by omega, by omega, by omega, by omega, fun h => absurd h hjk⟩
      · have hjt' : ¬ ((j : Nat) : Int) < nth g.st.L ((k : Int) + 1).toNat := by rw [ek]; exact hjt
        (refine R.stepH ?_; (repeat' (first | (with_reducible refine And.intro ?_ ?_) | (with_reducible intro _))); all_goals refine R.Lft.mk ?_)
        refine ⟨k + 1, ⟨rfl, rfl, rfl, rfl, R.viaI rfl (by omega), trivial⟩, ⟨by omega, R.ohm, fun v i hv h1 h2 => ?_⟩, by omega⟩
        rcases Nat.lt_or_ge v k with c | c
        · exact hall v i c h1 h2
        · obtain rfl : v = k := by omega
          exact harc i h1 (by omega)
    · (refine R.stepH ?_; (repeat' (first | (with_reducible refine And.intro ?_ ?_) | (with_reducible intro _))); all_goals refine R.Lft.mk ?_)
      rw [mayG_t { hs with arc := fun v i hv h1 h2 => hall v i (by omega) h1 h2 }]
      exact ⟨rfl, R.Own.below R.ohm⟩
  · rw [stG_f hs, mayG_f fun h => hs h.toStG]
    (refine R.stepH ?_; (repeat' (first | (with_reducible refine And.intro ?_ ?_) | (with_reducible intro _))); all_goals refine R.Lft.mk ?_; (all_goals (try (exact ⟨rfl, R.Own.below (by assumption)⟩))))
end Go.Proofs.Ytegbidklcaccjaa
