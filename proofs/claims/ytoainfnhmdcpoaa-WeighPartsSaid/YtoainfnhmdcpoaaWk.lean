/- snicketref14: the walks. -/
import Derived.Test.YtoainfnhmdcpoaaWl
namespace Go.Proofs.Ytoainfnhmdcpoaa
open Go.RowKit
open R (In64 InU64 lo64 nth)

attribute [local irreducible] dig4I in
set_option maxHeartbeats 4000000 in
theorem mayR14_any (A : Option Addr) (n c : Nat) (L : List P2) (w : World) (hA : R.Inp [] w A n 2 (L.flatMap cP2)) (hn : n = L.length) (hb : n ≤ 9223372036854775807) (hG : ∀ x ∈ L, In64 x.a ∧ In64 x.b) : Calls Try.prog 21 #[.slice A n c] w fun e w' => e = .returned (.bool (cutsB L)) ∧ Below w.heap.size w w' := by
  have hM := R.Own.start [] w
  by_cases hl : 2 ≤ n ∧ n ≤ 2000
  · obtain ⟨l1, l2⟩ := hl
    have el : (((n : Nat) : Int) - 1).toNat = n - 1 := by omega
    by_cases hf : (nth L 0).a = 0 ∧ (nth L (n - 1)).a = (nth L (n - 1)).b
    · obtain ⟨f1, f2⟩ := hf
      have f1' : (nth L (Int.toNat 0)).a = 0 := f1
      have f2' : (nth L (((n : Nat) : Int) - 1).toNat).a = (nth L (((n : Nat) : Int) - 1).toNat).b := by rw [el]; exact f2
      refine R.calls_of_WC (fn := Try.f21) Try.func21 rfl Try.ntmps21 (Nat.le_of_ble_eq_true rfl) ?_
      (refine R.stepV ?_; (repeat' (first | (with_reducible refine And.intro ?_ ?_) | (with_reducible intro _))); all_goals refine R.Lft.mk ?_)
      refine R.WC_loop (fun k : Nat => [(0, .slice A n c), (2, .bool false), (3, .int .i64 (k : Nat))])
        (fun k w2 => k ≤ n ∧ (∀ i, i < k → cutP L i) ∧ R.Own [] w w2 []) (fun k => n - k) ⟨0, ⟨rfl, rfl, rfl, trivial⟩, by omega, fun i hi => absurd hi (Nat.not_lt_zero _), R.ohm⟩ ?_
      clear hM f1' f2'
      rintro k f w2 ⟨hk, hall, hM⟩
      by_cases hlt : k < n
      · have e : (((k : Nat) : Int) - 1).toNat = k - 1 := by omega
        obtain ⟨q1, q2⟩ := hG _ (R.nth_mem (L := L) (i := k) (by omega))
        by_cases ho : okP (nth L k) = true
        · rcases Nat.eq_zero_or_pos k with h0 | h0
          · (refine R.stepV ?_; (repeat' (first | (with_reducible refine And.intro ?_ ?_) | (with_reducible intro _))); all_goals refine R.Lft.mk ?_)
            all_goals first
              | (have h : (!okP (nth L k)) = true := by assumption
                 rw [ho] at h
                 cases h)
              | (exfalso; omega)
              | exact ⟨k + 1, ⟨rfl, rfl, R.viaI rfl (by omega), trivial⟩, ⟨by omega, cut_next hall ⟨ho, fun g => absurd g (by omega)⟩, R.Own.nul (by assumption)⟩, by omega⟩
          · obtain ⟨p, hp⟩ : ∃ p, nth L (((k : Nat) : Int) - 1).toNat = p := ⟨_, rfl⟩
            have hp2 : nth L (k - 1) = p := by rw [← hp, e]
            have ho2 : okP p = true := by rw [← hp2]; exact (hall (k - 1) (by omega)).1
            have g1 := okP_of ho
            have g2 := okP_of ho2
            have q3 : In64 p.b := by rw [← hp2]; exact (hG _ (R.nth_mem (L := L) (i := k - 1) (by omega))).2
            unfold In64 at q1 q2 q3
            have u0 : 0 ≤ (nth L (((k : Nat) : Int) - 1).toNat).a ∧ (nth L (((k : Nat) : Int) - 1).toNat).a ≤ 9223372036854775807 := by rw [hp]; omega
            have u1 : 0 ≤ (nth L (((k : Nat) : Int) - 1).toNat).b ∧ (nth L (((k : Nat) : Int) - 1).toNat).b ≤ 9223372036854775807 := by rw [hp]; omega
            have h1 := dig4I_dig (a := (nth L (((k : Nat) : Int) - 1).toNat).a) (by unfold InU64; omega)
            have h2 := dig4I_dig (a := (nth L k).b) (by unfold InU64; omega)
            have h3 := dig4I_dig (a := (nth L k).a) (by unfold InU64; omega)
            have h4 := dig4I_dig (a := (nth L (((k : Nat) : Int) - 1).toNat).b) (by unfold InU64; omega)
            have l1 := dig4I_len (nth L (((k : Nat) : Int) - 1).toNat).a
            have l2 := dig4I_len (nth L k).b
            have l3 := dig4I_len (nth L k).a
            have l4 := dig4I_len (nth L (((k : Nat) : Int) - 1).toNat).b
            (refine R.stepV ?_; (repeat' (first | (with_reducible refine And.intro ?_ ?_) | (with_reducible intro _))); all_goals refine R.Lft.mk ?_)
            · have h : (!okP (nth L k)) = true := by assumption
              rw [ho] at h
              cases h
            refine R.WC_planO [(0, false), (1, false), (2, false), (3, false), (4, false), (5, false), (6, false), (8, false), (9, false), (10, false), (11, false), (12, false), (13, false), (7, true), (14, true), (15, true), (16, false)] R.mixed (by decide +kernel) R.ohm ?_
            (refine R.stepU ?_; (repeat' (first | (with_reducible refine And.intro ?_ ?_) | (with_reducible intro _))); all_goals refine R.Lft.mk ?_)
            rename_i hM
            refine R.WO_call2 rfl rfl R.vv R.vv ?_
            refine (times_i _ _ _ _ _ _ _ _ _ (R.Own.inp hM (.tail _ (.head _))) l1.symm h1 (by omega) (R.Own.inp hM (.head _)) l2.symm h2 (by omega)).mono ?_
            rintro _ w3 ⟨A3, zs, rfl, hG3, hn3, hz, hv⟩
            have hM := R.Own.give hM hG3
            refine ⟨_, rfl, ?_⟩
            (refine R.stepU ?_; (repeat' (first | (with_reducible refine And.intro ?_ ?_) | (with_reducible intro _))); all_goals refine R.Lft.mk ?_)
            refine R.WC_planO [(0, false), (1, false), (2, false), (3, false), (4, false), (5, false), (7, false), (8, false), (9, false), (10, false), (11, false), (12, false), (13, false), (6, true), (14, true), (15, true), (16, false)] R.mixed (by decide +kernel) R.ohm ?_
            (refine R.stepU ?_; (repeat' (first | (with_reducible refine And.intro ?_ ?_) | (with_reducible intro _))); all_goals refine R.Lft.mk ?_)
            rename_i hM
            refine R.WO_call2 rfl rfl R.vv R.vv ?_
            refine (times_i _ _ _ _ _ _ _ _ _ (R.Own.inp hM (.tail _ (.head _))) l3.symm h3 (by omega) (R.Own.inp hM (.head _)) l4.symm h4 (by omega)).mono ?_
            rintro _ w4 ⟨A4, ws, rfl, hG4, hn4, hw, hv2⟩
            have hM := R.Own.give hM hG4
            refine ⟨_, rfl, ?_⟩
            (refine R.stepU ?_; (repeat' (first | (with_reducible refine And.intro ?_ ?_) | (with_reducible intro _))); all_goals refine R.Lft.mk ?_)
            rename_i hM
            refine R.WO_call2 rfl rfl R.vv R.vv ?_
            refine (less_i _ _ _ _ _ _ ws zs _ (R.Own.inp hM (.head _)) hn4 hw (by omega) (R.Own.inp hM (.tail _ (.tail _ (.tail _ (.head _))))) hn3 hz (by omega)).mono ?_
            rintro _ w5 ⟨rfl, rfl⟩
            refine ⟨_, rfl, ?_⟩
            rw [hp] at hv hv2
            rw [dig4I_dv, dig4I_dv] at hv hv2
            have hlt2 : decide (dv ws < dv zs) = fallsB p (nth L k) := by
              rw [hv, hv2]
              refine decide_eq_decide.2 ?_
              rw [← Int.ofNat_lt, Int.natCast_mul, Int.natCast_mul, Int.toNat_of_nonneg g1.2.1, Int.toNat_of_nonneg (show 0 ≤ p.b by omega), Int.toNat_of_nonneg g2.2.1, Int.toNat_of_nonneg (show 0 ≤ (nth L k).b by omega)]
            rw [hlt2]
            (refine R.stepU ?_; (repeat' (first | (with_reducible refine And.intro ?_ ?_) | (with_reducible intro _))); all_goals refine R.Lft.mk ?_)
            · rename_i hc
              rw [cutsB_f (fun g => by
                have := (g.2.2.1 k (by omega)).2 (by omega)
                rw [hp2, show fallsB p (nth L k) = true from decide_eq_true hc] at this
                cases this)]
              exact ⟨rfl, R.Own.below (by assumption)⟩
            · rename_i hc
              exact ⟨k + 1, ⟨rfl, rfl, R.viaI rfl (by omega), trivial⟩, ⟨by omega, cut_next hall ⟨ho, fun _ => by rw [hp2]; exact decide_eq_false hc⟩, R.Own.nul (by assumption)⟩, by omega⟩
        · rw [cutsB_f (fun g => ho (g.2.2.1 k (by omega)).1)]
          (refine R.stepV ?_; (repeat' (first | (with_reducible refine And.intro ?_ ?_) | (with_reducible intro _))); all_goals refine R.Lft.mk ?_)
          all_goals first
            | exact ⟨rfl, R.Own.below (by assumption)⟩
            | (have h : (!okP (nth L k)) = false := by assumption
               exact absurd (by simpa using h) ho)
      · obtain rfl : k = n := by omega
        rw [cutsB_t ⟨by omega, by omega, fun i hi => hall i (by omega), f1, by rw [← hn]; exact f2⟩]
        (refine R.stepV ?_; (repeat' (first | (with_reducible refine And.intro ?_ ?_) | (with_reducible intro _))); all_goals refine R.Lft.mk ?_; (all_goals (try (exact ⟨rfl, R.Own.below (by assumption)⟩))))
    · rw [cutsB_f (fun g => hf ⟨g.2.2.2.1, by have := g.2.2.2.2; rwa [← hn] at this⟩)]
      refine R.calls_of_WC (fn := Try.f21) Try.func21 rfl Try.ntmps21 (Nat.le_of_ble_eq_true rfl) ?_
      (refine R.stepV ?_; (repeat' (first | (with_reducible refine And.intro ?_ ?_) | (with_reducible intro _))); all_goals refine R.Lft.mk ?_; (all_goals (try (exact ⟨rfl, R.Own.below (by assumption)⟩))))
      all_goals
        have a1 : ¬ (nth L (Int.toNat 0)).a ≠ 0 := by assumption
        have a2 : ¬ (nth L (((n : Nat) : Int) - 1).toNat).a ≠ (nth L (((n : Nat) : Int) - 1).toNat).b := by assumption
        rw [el] at a2
        exact absurd ⟨by simpa using a1, by simpa using a2⟩ hf
  · rw [cutsB_f (fun g => hl ⟨by rw [hn]; exact g.1, by rw [hn]; exact g.2.1⟩)]
    refine R.calls_of_WC (fn := Try.f21) Try.func21 rfl Try.ntmps21 (Nat.le_of_ble_eq_true rfl) ?_
    (refine R.stepV ?_; (repeat' (first | (with_reducible refine And.intro ?_ ?_) | (with_reducible intro _))); all_goals refine R.Lft.mk ?_; (all_goals (try (exact ⟨rfl, R.Own.below (by assumption)⟩))))
    all_goals (exfalso; omega)
instance con_mayR14 (A : Option Addr) (n c : Nat) : R.ConB Try.prog 21 #[.slice A n c] (List P2) (fun L w => R.Inp [] w A n 2 (L.flatMap cP2) ∧ n = L.length ∧ n ≤ 9223372036854775807 ∧ ∀ x ∈ L, In64 x.a ∧ In64 x.b) (fun L => .bool (cutsB L)) := ⟨fun L w h => mayR14_any A n c L w h.1 h.2.1 h.2.2.1 h.2.2.2⟩
attribute [local irreducible] cS cR cSp cW in
set_option maxHeartbeats 4000000 in
theorem partsR14_any (v : Int) (hv : In64 v) (hv2 : okW v = true) (A : Option Addr) (n c : Nat) (L : List P2) (w : World) (hA : R.Inp [] w A n 2 (L.flatMap cP2)) (hn : n = L.length) (hG : ∀ x ∈ L, In64 x.a ∧ In64 x.b) (hP : cutsP L) : Calls Try.prog 24 #[.int .i64 v, .slice A n c] w fun e w' => ∃ A1 c1, e = .returned (.slice A1 (piecesW v L).length c1) ∧ R.Gives w w' A1 (piecesW v L).length c1 3 1 ((piecesW v L).flatMap R.cI) := by
  have hM := R.Own.start [] w
  have hl1 := hP.1
  have hl2 := hP.2.1
  have hvr := okW_of hv2
  refine R.calls_of_WC (fn := Try.f24) Try.func24 rfl Try.ntmps24 (Nat.le_of_ble_eq_true rfl) ?_
  (refine R.stepV ?_; (repeat' (first | (with_reducible refine And.intro ?_ ?_) | (with_reducible intro _))); all_goals refine R.Lft.mk ?_)
  rename_i A0 c0 w0 hM
  refine R.WC_loop (fun s : Nat × Option Addr × Nat => [(0, .int .i64 v), (1, .slice A n c), (4, .slice none 0 0), (5, .slice s.2.1 s.1 s.2.2), (6, .int .i64 ((s.1 + 1 : Nat) : Int))])
    (fun s w2 => s.1 + 1 ≤ n ∧ R.Own [] w w2 [.row s.2.1 s.1 s.2.2 3 1 (((List.range s.1).map (pieceW v L)).flatMap R.cI)]) (fun s => n - s.1) ⟨(0, A0, c0), ⟨rfl, rfl, rfl, rfl, rfl, trivial⟩, by dsimp only; omega, hM⟩ ?_
  clear hM
  rintro ⟨k, A1, c1⟩ f w2 ⟨hk, hM⟩
  dsimp only at hk hM ⊢
  by_cases hlt : k + 1 < n
  · have e : (((k + 1 : Nat) : Int) - 1).toNat = k := by omega
    have m1 := (hP.2.2.1 (k + 1) (by omega)).1
    have m0 := (hP.2.2.1 k (by omega)).1
    have b1 := upto_in hvr.1 m1
    have b0 := upto_in hvr.1 m0
    obtain ⟨g1, g2⟩ := hG _ (R.nth_mem (L := L) (i := k + 1) (by omega))
    have g34 : In64 (nth L (((k + 1 : Nat) : Int) - 1).toNat).a ∧ In64 (nth L (((k + 1 : Nat) : Int) - 1).toNat).b := by rw [e]; exact hG _ (R.nth_mem (by omega))
    obtain ⟨g3, g4⟩ := g34
    have n1 : ¬ badP v (nth L (k + 1)).a (nth L (k + 1)).b := by have := okP_of m1; unfold badP; omega
    have n0 : ¬ badP v (nth L (((k + 1 : Nat) : Int) - 1).toNat).a (nth L (((k + 1 : Nat) : Int) - 1).toNat).b := by rw [e]; have := okP_of m0; unfold badP; omega
    unfold uptoW at b1 b0
    rw [← e] at b0
    have hAs : ∃ a, A = some a := (R.Own.rdIn hM hA).some_ (by omega) (by decide)
    (refine R.stepU ?_; (repeat' (first | (with_reducible refine And.intro ?_ ?_) | (with_reducible intro _))); all_goals refine R.Lft.mk ?_)
    refine R.WC_planD1 [(0, false), (1, false), (2, false), (3, false), (4, false), (5, false), (6, false), (7, false), (8, false), (9, false), (10, false), (11, false), (13, false), (14, false), (15, false), (16, false), (17, false), (18, false), (19, false), (20, false), (21, false), (22, false), (23, false), (24, false), (25, false), (12, true), (26, true), (27, false), (28, true), (29, true), (30, false)] R.mixed (by decide +kernel) R.ohm ?_
    (refine R.stepU ?_; (repeat' (first | (with_reducible refine And.intro ?_ ?_) | (with_reducible intro _))); all_goals refine R.Lft.mk ?_)
    rename_i hM
    rw [show v * (nth L (k + 1)).a / (nth L (k + 1)).b - v * (nth L (((k + 1 : Nat) : Int) - 1).toNat).a / (nth L (((k + 1 : Nat) : Int) - 1).toNat).b = pieceW v L k by rw [e]; rfl, ← pieces_take] at hM
    exact ⟨(k + 1, _, _), ⟨rfl, rfl, rfl, rfl, R.viaI rfl (by omega), trivial⟩, ⟨by dsimp only; omega, hM⟩, by dsimp only; omega⟩
  · obtain rfl : n = k + 1 := by omega
    have hl : (piecesW v L).length = k := by unfold piecesW; rw [List.length_map, List.length_range]; omega
    have hg : (List.range k).map (pieceW v L) = piecesW v L := by unfold piecesW; rw [← hn]; rfl
    rw [hg] at hM
    (refine R.stepV ?_; (repeat' (first | (with_reducible refine And.intro ?_ ?_) | (with_reducible intro _))); all_goals refine R.Lft.mk ?_)
    exact ⟨A1, c1, by rw [hl], by rw [hl]; exact hM.gives⟩
end Go.Proofs.Ytoainfnhmdcpoaa
