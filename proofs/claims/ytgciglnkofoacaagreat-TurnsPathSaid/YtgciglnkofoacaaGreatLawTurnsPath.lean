/- The law TurnsPath: its walk. The law TurnsPath, out of its walk: for every input it returns true, and each argument reads behind the call as it read before. No condition. -/
import Derived.Test.YtgciglnkofoacaaGreatTw
import Derived.Test.YtgciglnkofoacaaGreatFrame
namespace Go.Proofs.YtgciglnkofoacaaGreat
open Go.ChangeShapes Go.WideShapes Go.ChangeAt Go.RowKit
open R (In64 InU64 lo64 nth)
set_option maxHeartbeats 4000000 in
attribute [local irreducible] cS cR cSp cW folB wayB rulesB takeB turnB badK in
theorem turnsPath_any (x : Nt) (r : Rl) (A : Option Addr) (n c : Nat) (L : List Int) (w : World) (hG : GNt w x) (hR : GRl w r) (hA : R.Inp [] w A n 1 (L.flatMap R.cI)) (hn : n = L.length) (hb : n ≤ 9223372036854775807) (hv : ∀ y ∈ L, In64 y) : Calls Tryz.prog 4 #[.agg (cNt x).toArray, .agg (cRl r).toArray, .slice A n c] w fun e w' => e = .returned (.bool true) ∧ Below w.heap.size w w' := by
  have hM := R.Own.start [] w
  have hL := hG.lasts
  have hLR := hR.lasts
  by_cases hl : x.s.n ≤ 30 ∧ x.e.n ≤ 40 ∧ x.p.n ≤ 20 ∧ r.b.n ≤ 60
  · have hlt := decide_eq_true hl
    by_cases h40 : n ≤ 40
    · cases hr : rulesB x r with
      | true =>
        have hnb := (rulesB_of hr).1
        have hne := netB_e hnb
        obtain ⟨k, hk, hk1, hk2⟩ := first_bad (fun i => badK x r L i) n
        by_cases hkn : k < n
        · have hP := path_any x r A n c L
          refine R.calls_of_WC (fn := Tryz.f4) Tryz.func4 rfl Tryz.ntmps4 (Nat.le_of_ble_eq_true rfl) ?_
          (refine R.stepV ?_; (repeat' (first | (with_reducible refine And.intro ?_ ?_) | (with_reducible intro _))); all_goals refine R.Lft.mk ?_)
          · exact nbw_t hlt (by assumption)
          rename_i g1 _ _ g2 _ _ _ hM _
          refine R.WO_call3 rfl rfl R.vv R.vv R.vv ?_
          refine (hP _ (R.lasts hL hM) (R.lasts hLR hM) (hM.inpIn hA) hn hb hv hr k hk hk1 hk2).mono ?_
          rintro _ w2 ⟨rfl, hb2⟩
          have hM := hM.call hb2
          rw [if_pos hkn, decide_eq_false (by omega)]
          refine ⟨_, rfl, ?_⟩
          (refine R.stepV ?_; (repeat' (first | (with_reducible refine And.intro ?_ ?_) | (with_reducible intro _))); all_goals refine R.Lft.mk ?_)
          all_goals first
            | exact nbw_t hr (by assumption)
            | skip
          rename_i hM _
          refine R.WC_loop (fun j : Nat => [(2, .slice A n c), (3, .pointer (some ⟨g1, 0, none⟩)), (4, .pointer (some ⟨g2, 0, none⟩)), (6, .bool false), (7, .int .i64 (k : Nat)), (8, .bool false), (9, .int .i64 (j : Nat))])
            (fun j w2 => j ≤ k ∧ R.Own [] w w2 [.blk g2 29 (cRl r), .blk g1 26 (cNt x)]) (fun j => n - j) ⟨0, ⟨rfl, rfl, rfl, rfl, rfl, rfl, rfl, trivial⟩, by omega, hM⟩ ?_
          clear hM
          rintro j f w2 ⟨hj, hM⟩
          have hlt2 : j < n := by omega
          have hAs : ∃ a, A = some a := (R.Own.rdIn hM hA).some_ (by omega) (by decide)
          have e : (((j : Nat) : Int) - 1).toNat = j - 1 := by omega
          have v1 := hv _ (R.nth_mem (L := L) (i := j) (by omega))
          have v2 : In64 (nth L (((j : Nat) : Int) - 1).toNat) := by rw [e]; exact hv _ (R.nth_mem (by omega))
          by_cases hjk : j < k
          · obtain ⟨b1, b2⟩ := bad_not (hk1 j hjk)
            by_cases h0 : 0 < j
            · have t1 := b2 h0
              rw [← e] at t1
              (refine R.stepU ?_; (repeat' (first | (with_reducible refine And.intro ?_ ?_) | (with_reducible intro _))); all_goals refine R.Lft.mk ?_)
              refine R.WC_planO [(0, false), (1, false), (2, false), (3, false), (4, false), (5, true), (6, false), (7, false), (8, false), (9, false), (10, false), (11, false), (12, false), (13, false), (14, false), (15, false), (16, false), (17, false), (18, false), (19, false), (20, false), (21, false), (22, true), (23, false), (24, false), (25, false)] R.mixed (by decide +kernel) R.ohm ?_
              (refine R.stepU ?_; (repeat' (first | (with_reducible refine And.intro ?_ ?_) | (with_reducible intro _))); all_goals refine R.Lft.mk ?_)
              all_goals first
                | exact nbw_t b1 (by assumption)
                | exact nbw_t t1 (by assumption)
                | exact ⟨j + 1, ⟨rfl, rfl, rfl, rfl, rfl, rfl, R.viaI rfl (by omega), trivial⟩, ⟨by omega, by assumption⟩, by omega⟩
                | (exfalso; omega)
            · (refine R.stepU ?_; (repeat' (first | (with_reducible refine And.intro ?_ ?_) | (with_reducible intro _))); all_goals refine R.Lft.mk ?_)
              refine R.WC_planO [(0, false), (1, false), (2, false), (3, false), (4, false), (5, true), (6, false), (7, false), (8, false), (9, false), (10, false), (11, false), (12, false), (13, false), (14, false), (15, false), (16, false), (17, false), (18, false), (19, false), (20, false), (21, false), (22, true), (23, false), (24, false), (25, false)] R.mixed (by decide +kernel) R.ohm ?_
              (refine R.stepU ?_; (repeat' (first | (with_reducible refine And.intro ?_ ?_) | (with_reducible intro _))); all_goals refine R.Lft.mk ?_)
              all_goals first
                | exact nbw_t b1 (by assumption)
                | exact ⟨j + 1, ⟨rfl, rfl, rfl, rfl, rfl, rfl, R.viaI rfl (by omega), trivial⟩, ⟨by omega, by assumption⟩, by omega⟩
                | (exfalso; omega)
          · obtain rfl : j = k := by omega
            rcases bad_of (hk2 hkn) with b1 | ⟨b1, b2, b3⟩
            · (refine R.stepU ?_; (repeat' (first | (with_reducible refine And.intro ?_ ?_) | (with_reducible intro _))); all_goals refine R.Lft.mk ?_)
              refine R.WC_planO [(0, false), (1, false), (2, false), (3, false), (4, false), (5, true), (6, false), (7, false), (8, false), (9, false), (10, false), (11, false), (12, false), (13, false), (14, false), (15, false), (16, false), (17, false), (18, false), (19, false), (20, false), (21, false), (22, true), (23, false), (24, false), (25, false)] R.mixed (by decide +kernel) R.ohm ?_
              (refine R.stepU ?_; (repeat' (first | (with_reducible refine And.intro ?_ ?_) | (with_reducible intro _))); all_goals refine R.Lft.mk ?_)
              all_goals first
                | exact nbw_f b1 (by assumption)
                | exact ⟨rfl, R.Own.below (by assumption)⟩
                | (exfalso; omega)
            · rw [← e] at b3
              (refine R.stepU ?_; (repeat' (first | (with_reducible refine And.intro ?_ ?_) | (with_reducible intro _))); all_goals refine R.Lft.mk ?_)
              refine R.WC_planO [(0, false), (1, false), (2, false), (3, false), (4, false), (5, true), (6, false), (7, false), (8, false), (9, false), (10, false), (11, false), (12, false), (13, false), (14, false), (15, false), (16, false), (17, false), (18, false), (19, false), (20, false), (21, false), (22, true), (23, false), (24, false), (25, false)] R.mixed (by decide +kernel) R.ohm ?_
              (refine R.stepU ?_; (repeat' (first | (with_reducible refine And.intro ?_ ?_) | (with_reducible intro _))); all_goals refine R.Lft.mk ?_)
              all_goals first
                | exact nbw_t b1 (by assumption)
                | exact nbw_f b3 (by assumption)
                | exact ⟨rfl, R.Own.below (by assumption)⟩
                | (exfalso; omega)
        · obtain rfl : k = n := by omega
          refine R.calls_of_WC (fn := Tryz.f4) Tryz.func4 rfl Tryz.ntmps4 (Nat.le_of_ble_eq_true rfl) ?_
          (refine R.stepV ?_; (repeat' (first | (with_reducible refine And.intro ?_ ?_) | (with_reducible intro _))); all_goals refine R.Lft.mk ?_)
          · exact nbw_t hlt (by assumption)
          rename_i g1 _ _ g2 _ _ _ hM _
          refine R.WO_call3 rfl rfl R.vv R.vv R.vv ?_
          refine (path_any x r A k c L _ (R.lasts hL hM) (R.lasts hLR hM) (hM.inpIn hA) hn hb hv hr k hk hk1 hk2).mono ?_
          rintro _ w2 ⟨rfl, hb2⟩
          have hM := hM.call hb2
          rw [if_neg hkn, decide_eq_true rfl]
          refine ⟨_, rfl, ?_⟩
          (refine R.stepV ?_; (repeat' (first | (with_reducible refine And.intro ?_ ?_) | (with_reducible intro _))); all_goals refine R.Lft.mk ?_)
          all_goals first
            | exact nbw_t hr (by assumption)
            | skip
          rename_i hM _
          refine R.WC_loop (fun j : Nat => [(2, .slice A k c), (3, .pointer (some ⟨g1, 0, none⟩)), (4, .pointer (some ⟨g2, 0, none⟩)), (6, .bool false), (7, .int .i64 0), (8, .bool true), (9, .int .i64 (j : Nat))])
            (fun j w2 => j ≤ k ∧ R.Own [] w w2 [.blk g2 29 (cRl r), .blk g1 26 (cNt x)]) (fun j => k - j) ⟨0, ⟨rfl, rfl, rfl, rfl, rfl, rfl, rfl, trivial⟩, by omega, hM⟩ ?_
          clear hM
          rintro j f w2 ⟨hj, hM⟩
          by_cases hjk : j < k
          · have hAs : ∃ a, A = some a := (R.Own.rdIn hM hA).some_ (by omega) (by decide)
            have e : (((j : Nat) : Int) - 1).toNat = j - 1 := by omega
            have v1 := hv _ (R.nth_mem (L := L) (i := j) (by omega))
            have v2 : In64 (nth L (((j : Nat) : Int) - 1).toNat) := by rw [e]; exact hv _ (R.nth_mem (by omega))
            obtain ⟨b1, b2⟩ := bad_not (hk1 j hjk)
            by_cases h0 : 0 < j
            · have t1 := b2 h0
              rw [← e] at t1
              (refine R.stepU ?_; (repeat' (first | (with_reducible refine And.intro ?_ ?_) | (with_reducible intro _))); all_goals refine R.Lft.mk ?_)
              refine R.WC_planO [(0, false), (1, false), (2, false), (3, false), (4, false), (5, true), (6, false), (7, false), (8, false), (9, false), (10, false), (11, false), (12, false), (13, false), (14, false), (15, false), (16, false), (17, false), (18, false), (19, false), (20, false), (21, false), (22, true), (23, false), (24, false), (25, false)] R.mixed (by decide +kernel) R.ohm ?_
              (refine R.stepU ?_; (repeat' (first | (with_reducible refine And.intro ?_ ?_) | (with_reducible intro _))); all_goals refine R.Lft.mk ?_)
              all_goals first
                | exact nbw_t b1 (by assumption)
                | exact nbw_t t1 (by assumption)
                | exact ⟨j + 1, ⟨rfl, rfl, rfl, rfl, rfl, rfl, R.viaI rfl (by omega), trivial⟩, ⟨by omega, by assumption⟩, by omega⟩
                | (exfalso; omega)
            · (refine R.stepU ?_; (repeat' (first | (with_reducible refine And.intro ?_ ?_) | (with_reducible intro _))); all_goals refine R.Lft.mk ?_)
              refine R.WC_planO [(0, false), (1, false), (2, false), (3, false), (4, false), (5, true), (6, false), (7, false), (8, false), (9, false), (10, false), (11, false), (12, false), (13, false), (14, false), (15, false), (16, false), (17, false), (18, false), (19, false), (20, false), (21, false), (22, true), (23, false), (24, false), (25, false)] R.mixed (by decide +kernel) R.ohm ?_
              (refine R.stepU ?_; (repeat' (first | (with_reducible refine And.intro ?_ ?_) | (with_reducible intro _))); all_goals refine R.Lft.mk ?_)
              all_goals first
                | exact nbw_t b1 (by assumption)
                | exact ⟨j + 1, ⟨rfl, rfl, rfl, rfl, rfl, rfl, R.viaI rfl (by omega), trivial⟩, ⟨by omega, by assumption⟩, by omega⟩
                | (exfalso; omega)
          · obtain rfl : j = k := by omega
            (refine R.stepV ?_; (repeat' (first | (with_reducible refine And.intro ?_ ?_) | (with_reducible intro _))); all_goals refine R.Lft.mk ?_)
            all_goals first
              | exact ⟨rfl, R.Own.below (by assumption)⟩
              | (exfalso; omega)
      | false =>
        refine R.calls_of_WC (fn := Tryz.f4) Tryz.func4 rfl Tryz.ntmps4 (Nat.le_of_ble_eq_true rfl) ?_
        (refine R.stepV ?_; (repeat' (first | (with_reducible refine And.intro ?_ ?_) | (with_reducible intro _))); all_goals refine R.Lft.mk ?_)
        · exact nbw_t hlt (by assumption)
        rename_i hM _
        refine R.WO_call3 rfl rfl R.vv R.vv R.vv ?_
        refine (path_no x r A n c _ (R.lasts hL hM) (R.lasts hLR hM) hr).mono ?_
        rintro _ w2 ⟨rfl, hb2⟩
        have hM := hM.call hb2
        refine ⟨_, rfl, ?_⟩
        (refine R.stepV ?_; (repeat' (first | (with_reducible refine And.intro ?_ ?_) | (with_reducible intro _))); all_goals refine R.Lft.mk ?_)
        all_goals first
          | exact ⟨rfl, R.Own.below (by assumption)⟩
          | exact nbw_f hr (by assumption)
    · refine R.calls_of_WC (fn := Tryz.f4) Tryz.func4 rfl Tryz.ntmps4 (Nat.le_of_ble_eq_true rfl) ?_
      (refine R.stepV ?_; (repeat' (first | (with_reducible refine And.intro ?_ ?_) | (with_reducible intro _))); all_goals refine R.Lft.mk ?_)
      all_goals first
        | exact ⟨rfl, R.Own.below (by assumption)⟩
        | exact nbw_t hlt (by assumption)
        | (exfalso; omega)
  · have hlt := decide_eq_false hl
    refine R.calls_of_WC (fn := Tryz.f4) Tryz.func4 rfl Tryz.ntmps4 (Nat.le_of_ble_eq_true rfl) ?_
    (refine R.stepV ?_; (repeat' (first | (with_reducible refine And.intro ?_ ?_) | (with_reducible intro _))); all_goals refine R.Lft.mk ?_)
    all_goals first
      | exact ⟨rfl, R.Own.below (by assumption)⟩
      | exact nbw_f hlt (by assumption)
set_option maxRecDepth 100000 in
theorem walk_TurnsPath {H : Type} {enc : TypeId × Value → H} (W : World) (base : Nat) (args : Array Value) (ds : List (DataW H)) (ps : List MemPlace) (hA : DataW.TrodAll enc Tryz.prog W 0 (fun _ => true) true [26, 29, 38] args.toList ds ps)
    (hval : ∀ (j : Nat) t v, #[26, 29, 38][j]? = some t → args[j]? = some v → Value.okWide Tryz.prog W .any base t v) :
    Calls Tryz.prog 4 args W fun e W' => e = .returned (.bool true) ∧ Below W.heap.size W W' := by
  obtain ⟨v0, v1, v2, d0, d1, d2, p0, p1, p2, rfl, rfl, rfl, h0, h1, h2⟩ := trodAll_three hA
  obtain ⟨z0, q0, g0, a0, b0⟩ := R.open_arg (hval 0 26 v0 rfl rfl) h0
  obtain ⟨z1, q1, g1, a1, b1⟩ := R.open_arg (hval 1 29 v1 rfl rfl) h1
  obtain ⟨z2, q2, g2, a2, b2⟩ := R.open_arg (hval 2 38 v2 rfl rfl) h2
  obtain rfl := a0 (by kernel_rfl)
  obtain rfl := a1 (by kernel_rfl)
  obtain ⟨g2, g3, g4, g5⟩ := g2
  obtain rfl := b2 (by kernel_rfl) _ rfl
  exact turnsPath_any z0 z1 z2.A z2.n z2.c z2.L W g0 g1 g2 g3 (by omega) (fun y hy => by have := bounds_i64 (g5 y hy); unfold In64; omega)
end Go.Proofs.YtgciglnkofoacaaGreat
namespace Go.Proofs.YtgciglnkofoacaaGreat
open Go.ChangeShapes Go.WideShapes Go.ChangeAt Go.RowKit
set_option maxRecDepth 100000 in
theorem turnsPath_lifted (os : Os) (started : os.Started) (H : Type) (enc : TypeId × Value → H) :
    ReturnsInHanded {} Tryz.checked os 4 .any (Rows.turnsPathSpec.pre6 enc Tryz.prog Tryz.f4 Rows.turnsPathRow.domain false) (Rows.turnsPathSpec.post enc Tryz.prog Tryz.f4 false true false false) := by
  refine returnsInHanded_of_change (C := Tryz.checked) ownKnob_none started (by kernel_rfl) Tryz.func4
    (ChangeSpec.witness6 (enc := enc) (C := Tryz.checked) false ⟨#[], #[.agg #[.slice none 0 0, .slice none 0 0, .slice none 0 0], .agg #[.slice none 0 0, .int .i64 0], .slice none 0 0], []⟩ 8 (by kernel_rfl) (by kernel_rfl) (by kernel_rfl) (by kernel_rfl)) ?_
  intro W base args ds gs before hval0 hW _ _
  have hval : ∀ (j : Nat) t v, Tryz.f4.params[j]? = some t → args[j]? = some v → Value.okWide Tryz.prog W .any base t v := hval0
  have hW' := hW
  obtain ⟨p, q, hA0, hV, rfl, hfz, hnd⟩ := hW
  have hA : DataW.TrodAll enc Tryz.prog W 0 (fun _ => true) true Tryz.f4.params.toList args.toList ds p := hA0
  obtain ⟨rfl, rfl⟩ := trodVars_none hV
  have hA1 := hA
  rw [Tryz.params4] at hA1 hval
  simp only [List.append_nil] at hW'
  refine (walk_TurnsPath W base args ds p hA1 hval).mono fun e W' ⟨he, hb⟩ => ?_
  subst he
  refine ⟨_, rfl, law_post rfl laidOut hW' hA (by kernel_rfl) rfl (by kernel_rfl) ?_ hb⟩
  clear hb hW' hA hfz hnd hV hval hval0 hA0
  obtain ⟨v0, vs0, d0, ds0, p0, q0, e0, rfl, g0, h0, r0⟩ := trodAll_cons hA1
  obtain ⟨v1, vs1, d1, ds1, p1, q1, e1, rfl, g1, h1, r1⟩ := trodAll_cons r0
  obtain ⟨v2, vs2, d2, ds2, p2, q2, e2, rfl, g2, h2, r2⟩ := trodAll_cons r1
  obtain ⟨_, rfl, _⟩ := trodAll_nil r2
  rfl

theorem turnsPath_holds : Rows.TurnsPathSaid :=
  OpenClaim.holds_of_wide 4 Tryz.f4 rfl rfl rfl rfl rfl rfl rfl ⟨rfl, rfl, rfl, rfl, rfl⟩ rfl rfl rfl rfl rfl (by kernel_rfl) Tryz.func4 (by kernel_rfl)
    (of_decide_eq_true (by kernel_rfl)) (by unfold Func.isWrapper; first | (rw [if_pos (by decide +kernel)]; kernel_rfl) | (rw [if_neg (by decide +kernel)]; exact ⟨rfl, rfl⟩))
    (fun os started H enc _ => turnsPath_lifted os started H enc)
#print axioms turnsPath_holds
end Go.Proofs.YtgciglnkofoacaaGreat
