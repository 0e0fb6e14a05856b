/- The law ArcsBack: its walk. The law ArcsBack, out of its walk: for every input it returns true, and each argument reads behind the call as it read before. No condition. -/
import Derived.Test.YtdiodefooipojaaArt
import Derived.Test.YtdiodefooipojaaCl
import Derived.Test.YtdiodefooipojaaFrame
namespace Go.Proofs.Ytdiodefooipojaa
open Go.ChangeShapes Go.WideShapes Go.ChangeAt Go.RowKit
open R (In64 InU64 lo64 nth)

theorem aback_no (g : Gph) (w : World) (hG : GGph w g) (hm : ¬ MayG g) : Calls Try.prog 16 #[.agg (cGph g).toArray] w fun e w' => e = .returned (.tuple #[.agg #[.slice none 0 0, .slice none 0 0, .slice none 0 0], .int .i64 1]) ∧ Below w.heap.size w w' := by
  have hM := R.Own.start [] w
  refine R.calls_of_WC (fn := Try.f16) Try.func16 rfl Try.ntmps16 (Nat.le_of_ble_eq_true rfl) ?_
  (refine R.stepN ?_; (repeat' (first | (with_reducible refine And.intro ?_ ?_) | (with_reducible intro _))); all_goals refine R.Lft.mk ?_)
  refine R.WO_call1 rfl rfl R.vv ?_
  refine (amay_any g _ (GGph.now R.ohm hG)).mono ?_
  rintro _ w3 ⟨rfl, hb3⟩
  have hM := R.Own.call R.ohm hb3
  refine ⟨_, rfl, ?_⟩
  rw [mayG_f hm]
  (refine R.stepN ?_; (repeat' (first | (with_reducible refine And.intro ?_ ?_) | (with_reducible intro _))); all_goals refine R.Lft.mk ?_; (all_goals (try (exact ⟨rfl, R.Own.below (by assumption)⟩))))
theorem nilG (w : World) : GGph w ⟨⟨none, 0, 0, []⟩, ⟨none, 0, 0, []⟩, ⟨none, 0, 0, []⟩⟩ :=
  have h : R.GSl R.cI 1 GI w ⟨none, 0, 0, []⟩ := ⟨R.Inp.nil _ _ _ _, rfl, ⟨Nat.le_refl _, by decide⟩, fun y hy => (by cases hy)⟩
  ⟨h, h, h⟩
set_option maxHeartbeats 4000000 in
theorem arcsBack_no (g : Gph) (w : World) (hG : GGph w g) (hs : g.st.n ≤ 40 ∧ g.hd.n ≤ 300 ∧ g.wt.n ≤ 300) (hm : ¬ MayG g) : Calls Try.prog 4 #[.agg (cGph g).toArray] w fun e w' => e = .returned (.bool true) ∧ Below w.heap.size w w' := by
  have hM := R.Own.start [] w
  have hL := hG.lasts
  have i1 : R.ConB Try.prog 5 #[.agg (cGph g).toArray] Unit (fun _ _ => True) (fun _ => .bool true) := ⟨fun s w h => by
    have q := (con_small19 g).h s w h
    rw [decide_eq_true hs] at q
    exact q⟩
  have j2 : R.ConB Try.prog 7 #[.agg (cGph g).toArray] Unit (fun _ w => GGph w g) (fun _ => .bool false) := ⟨fun s w h => by
    have q := (con_rmay19 g).h s w h
    rw [mayG_f hm] at q
    exact q⟩
  have j3 : R.ConB Try.prog 12 #[.agg #[.slice none 0 0, .slice none 0 0, .slice none 0 0], .agg #[.slice none 0 0, .slice none 0 0, .slice none 0 0]] Unit (fun _ _ => True) (fun _ => .bool true) := ⟨fun s w _ => rsame_any _ _ w (nilG w) (nilG w) ⟨Nat.zero_le _, Nat.zero_le _, Nat.zero_le _⟩⟩
  refine R.calls_of_WC (fn := Try.f4) Try.func4 rfl Try.ntmps4 (Nat.le_of_ble_eq_true rfl) ?_
  (refine R.stepN ?_; (repeat' (first | (with_reducible refine And.intro ?_ ?_) | (with_reducible intro _))); all_goals refine R.Lft.mk ?_)
  refine R.WO_call1 rfl rfl R.vv ?_
  refine (aback_no g _ (GGph.now R.ohm hG) hm).mono ?_
  rintro _ w3 ⟨rfl, hb3⟩
  have hM := R.Own.call R.ohm hb3
  refine ⟨_, rfl, ?_⟩
  (refine R.stepN ?_; (repeat' (first | (with_reducible refine And.intro ?_ ?_) | (with_reducible intro _))); all_goals refine R.Lft.mk ?_)
  exact ⟨rfl, R.Own.below R.ohm⟩
set_option maxHeartbeats 4000000 in
theorem arcsBack_in (g : Gph) (w : World) (hG : GGph w g) (hs : g.st.n ≤ 40 ∧ g.hd.n ≤ 300 ∧ g.wt.n ≤ 300) (hm : MayG g) : Calls Try.prog 4 #[.agg (cGph g).toArray] w fun e w' => e = .returned (.bool true) ∧ Below w.heap.size w w' := by
  have hM := R.Own.start [] w
  have hL := hG.lasts
  obtain ⟨n, hn⟩ : ∃ n, g.st.n - 1 = n := ⟨_, rfl⟩
  have n1 := hm.n1
  have i1 : R.ConB Try.prog 5 #[.agg (cGph g).toArray] Unit (fun _ _ => True) (fun _ => .bool true) := ⟨fun s w h => by
    have q := (con_small19 g).h s w h
    rw [decide_eq_true hs] at q
    exact q⟩
  have j2 : R.ConB Try.prog 7 #[.agg (cGph g).toArray] Unit (fun _ w => GGph w g) (fun _ => .bool true) := ⟨fun s w h => by
    have q := (con_rmay19 g).h s w h
    rw [mayG_t hm] at q
    exact q⟩
  obtain ⟨s1, s2, s3⟩ := hs
  refine R.calls_of_WC (fn := Try.f4) Try.func4 rfl Try.ntmps4 (Nat.le_of_ble_eq_true rfl) ?_
  (refine R.stepN ?_; (repeat' (first | (with_reducible refine And.intro ?_ ?_) | (with_reducible intro _))); all_goals refine R.Lft.mk ?_)
  rename_i ga _ _ _ hM
  refine R.WO_call1 rfl rfl R.vv ?_
  refine (aback_any g _ (GGph.now R.ohm hG) hm).mono ?_
  rintro _ w3 ⟨b, M, hb, hBk, rfl, hO⟩
  rw [hn] at hb hBk
  have hBs := hBk.bks hm hn
  have hMb := hBk.mayB hm hn hb
  have hGb := hb.G hBs (by omega) (by rw [hBk.cnt]; omega) hO (fun r hr => hr)
  have ho : off M n = g.hd.n := hBk.cnt
  have hM : R.Own [] w w3 (.row b.hd.A b.hd.n b.hd.c 3 1 (b.hd.L.flatMap R.cI) :: .row b.wt.A b.wt.n b.wt.c 3 1 (b.wt.L.flatMap R.cI) :: .row b.st.A b.st.n b.st.c 3 1 (b.st.L.flatMap R.cI) :: [.blk ga 24 (cGph g)]) := (R.Own.giveN hM hO).perm (List.perm_append_comm (l₁ := bRows b) (l₂ := [.blk ga 24 (cGph g)]))
  have hGB : ∀ w' l, R.Own [] w w' l → (∀ r ∈ bRows b, r ∈ l) → GGph w' b := fun w' l h1 h2 => hb.G hBs (by omega) (by omega) h1 h2
  clear hO hGb
  refine ⟨_, rfl, ?_⟩
  (refine R.stepN ?_; (repeat' (first | (with_reducible refine And.intro ?_ ?_) | (with_reducible intro _))); all_goals refine R.Lft.mk ?_)
  rename_i gb _ _ _ _ _ hM
  refine R.WO_call1 rfl rfl R.vv ?_
  refine (aback_any b _ (hGB _ _ hM fun r hr => by
    simp only [bRows, List.mem_cons, List.not_mem_nil, or_false] at hr
    rcases hr with rfl | rfl | rfl <;> exact R.memb) hMb).mono ?_
  rintro _ w4 ⟨c, N, hc, hBc, rfl, hO⟩
  have hbn : b.st.n - 1 = n := by rw [hb.sn]; rfl
  rw [hbn] at hc hBc
  have hBsN := hBc.bks hMb hbn
  have hoN : off N n = g.hd.n := by rw [hBc.cnt, hb.hn, ho]
  have hNe : N = rowsOf g n := hBk.back hm hn hb hBc
  have hcg : IsG n N g := by rw [hNe]; exact rowsOf_isG hm hn hG.1.2.1 hG.2.1.2.1 hG.2.2.2.1
  have hMe : M = refM g n := hBk.ref hm hn
  have hGC : ∀ w' l, R.Own [] w w' l → (∀ r ∈ bRows c, r ∈ l) → GGph w' c := fun w' l h1 h2 => hc.G hBsN (by omega) (by omega) h1 h2
  have hM : R.Own [] w w4 (.row c.hd.A c.hd.n c.hd.c 3 1 (c.hd.L.flatMap R.cI) :: .row c.wt.A c.wt.n c.wt.c 3 1 (c.wt.L.flatMap R.cI) :: .row c.st.A c.st.n c.st.c 3 1 (c.st.L.flatMap R.cI) :: .blk gb 24 (cGph b) :: .row b.hd.A b.hd.n b.hd.c 3 1 (b.hd.L.flatMap R.cI) :: .row b.wt.A b.wt.n b.wt.c 3 1 (b.wt.L.flatMap R.cI) :: .row b.st.A b.st.n b.st.c 3 1 (b.st.L.flatMap R.cI) :: [.blk ga 24 (cGph g)]) := (R.Own.giveN hM hO).perm (List.perm_append_comm (l₁ := bRows c))
  clear hO
  refine ⟨_, rfl, ?_⟩
  (refine R.stepN ?_; (repeat' (first | (with_reducible refine And.intro ?_ ?_) | (with_reducible intro _))); all_goals refine R.Lft.mk ?_)
  refine R.WC_planO [(0, false), (1, false), (2, false), (3, false), (4, false), (5, true), (6, true), (7, false), (8, false), (9, false), (10, false), (11, false), (12, false), (13, false), (14, false), (15, true), (16, false), (17, false), (18, true), (19, false), (20, false)] R.mixed (by decide +kernel) R.ohm ?_
  (refine R.stepN ?_; (repeat' (first | (with_reducible refine And.intro ?_ ?_) | (with_reducible intro _))); all_goals refine R.Lft.mk ?_)
  rename_i hM
  refine R.WO_call1 rfl rfl R.vv ?_
  refine (rback_any g _ (GGph.now hM hG) hm s1).mono ?_
  rintro _ w5 ⟨r, hr, rfl, hO⟩
  rw [hn, ← hMe] at hr
  have hGr := hr.G hBs (by omega) (by omega) hO (fun r hr => hr)
  have hM := (R.Own.giveN hM hO).perm (List.perm_append_comm (l₁ := bRows r))
  have hM := R.Own.tl (R.Own.tl (R.Own.tl hM))
  dsimp only [List.append] at hM
  refine ⟨_, rfl, hM, ?_⟩
  (refine R.stepN ?_; (repeat' (first | (with_reducible refine And.intro ?_ ?_) | (with_reducible intro _))); all_goals refine R.Lft.mk ?_)
  refine R.WO_call2 rfl rfl R.vv R.vv ?_
  refine (rsame_any b r _ (hGB _ _ hM fun r hr => by
    simp only [bRows, List.mem_cons, List.not_mem_nil, or_false] at hr
    rcases hr with rfl | rfl | rfl <;> exact R.memb) hGr ⟨by rw [hb.sn]; omega, by rw [hb.hn]; omega, by rw [hb.wn]; omega⟩).mono ?_
  rintro _ w6 ⟨rfl, hb6⟩
  rw [hb.eq hr]
  have hM := R.Own.call hM hb6
  refine ⟨_, rfl, hM, ?_⟩
  (refine R.stepN ?_; (repeat' (first | (with_reducible refine And.intro ?_ ?_) | (with_reducible intro _))); all_goals refine R.Lft.mk ?_)
  refine R.WO_call2 rfl rfl R.vv R.vv ?_
  refine (rsame_any c g _ (hGC _ _ hM fun r hr => by
    simp only [bRows, List.mem_cons, List.not_mem_nil, or_false] at hr
    rcases hr with rfl | rfl | rfl <;> exact R.memb) (GGph.now hM hG) ⟨by rw [hc.sn]; omega, by rw [hc.hn]; omega, by rw [hc.wn]; omega⟩).mono ?_
  rintro _ w7 ⟨rfl, hb7⟩
  rw [hc.eq hcg]
  have hM := R.Own.call hM hb7
  refine ⟨_, rfl, hM, ?_⟩
  (refine R.stepN ?_; (repeat' (first | (with_reducible refine And.intro ?_ ?_) | (with_reducible intro _))); all_goals refine R.Lft.mk ?_)
  exact ⟨rfl, R.Own.below R.ohm⟩
theorem arcsBack_any (g : Gph) (w : World) (hG : GGph w g) : Calls Try.prog 4 #[.agg (cGph g).toArray] w fun e w' => e = .returned (.bool true) ∧ Below w.heap.size w w' := by
  by_cases hs : g.st.n ≤ 40 ∧ g.hd.n ≤ 300 ∧ g.wt.n ≤ 300
  · by_cases hm : MayG g
    · exact arcsBack_in g w hG hs hm
    · exact arcsBack_no g w hG hs hm
  · have hM := R.Own.start [] w
    have i1 : R.ConB Try.prog 5 #[.agg (cGph g).toArray] Unit (fun _ _ => True) (fun _ => .bool false) := ⟨fun s w h => by
      have q := (con_small19 g).h s w h
      rw [decide_eq_false hs] at q
      exact q⟩
    refine R.calls_of_WC (fn := Try.f4) Try.func4 rfl Try.ntmps4 (Nat.le_of_ble_eq_true rfl) ?_
    (refine R.stepN ?_; (repeat' (first | (with_reducible refine And.intro ?_ ?_) | (with_reducible intro _))); all_goals refine R.Lft.mk ?_)
    exact ⟨rfl, R.Own.below R.ohm⟩
set_option maxRecDepth 100000 in
theorem walk_ArcsBack {H : Type} {enc : TypeId × Value → H} (W : World) (base : Nat) (args : Array Value) (ds : List (DataW H)) (ps : List MemPlace) (hA : DataW.TrodAll enc Try.prog W 0 (fun _ => true) true [24] args.toList ds ps)
    (hval : ∀ (j : Nat) t v, #[24][j]? = some t → args[j]? = some v → Value.okWide Try.prog W .any base t v) :
    Calls Try.prog 4 args W fun e W' => e = .returned (.bool true) ∧ Below W.heap.size W W' := by
  obtain ⟨v0, d0, rfl, rfl, h0⟩ := trodAll_one hA
  obtain ⟨z0, q0, g0, a0, b0⟩ := R.open_arg (hval 0 24 v0 rfl rfl) h0
  obtain rfl := a0 (by kernel_rfl)
  exact arcsBack_any z0 W g0
end Go.Proofs.Ytdiodefooipojaa
namespace Go.Proofs.Ytdiodefooipojaa
open Go.ChangeShapes Go.WideShapes Go.ChangeAt Go.RowKit
set_option maxRecDepth 100000 in
theorem arcsBack_lifted (os : Os) (started : os.Started) (H : Type) (enc : TypeId × Value → H) :
    ReturnsInHanded {} Try.checked os 4 .any (Rows.arcsBackSpec.pre6 enc Try.prog Try.f4 Rows.arcsBackRow.domain false) (Rows.arcsBackSpec.post enc Try.prog Try.f4 false true false false) := by
  refine returnsInHanded_of_change (C := Try.checked) ownKnob_none started (by kernel_rfl) Try.func4
    (ChangeSpec.witness6 (enc := enc) (C := Try.checked) false ⟨#[], #[.agg #[.slice none 0 0, .slice none 0 0, .slice none 0 0]], []⟩ 8 (by kernel_rfl) (by kernel_rfl) (by kernel_rfl) (by kernel_rfl)) ?_
  intro W base args ds gs before hval0 hW _ _
  have hval : ∀ (j : Nat) t v, Try.f4.params[j]? = some t → args[j]? = some v → Value.okWide Try.prog W .any base t v := hval0
  have hW' := hW
  obtain ⟨p, q, hA0, hV, rfl, hfz, hnd⟩ := hW
  have hA : DataW.TrodAll enc Try.prog W 0 (fun _ => true) true Try.f4.params.toList args.toList ds p := hA0
  obtain ⟨rfl, rfl⟩ := trodVars_none hV
  have hA1 := hA
  rw [Try.params4] at hA1 hval
  simp only [List.append_nil] at hW'
  refine (walk_ArcsBack W base args ds p hA1 hval).mono fun e W' ⟨he, hb⟩ => ?_
  subst he
  refine ⟨_, rfl, law_post rfl laidOut hW' hA (by kernel_rfl) rfl (by kernel_rfl) ?_ hb⟩
  clear hb hW' hA hfz hnd hV hval hval0 hA0
  obtain ⟨v0, vs0, d0, ds0, p0, q0, e0, rfl, g0, h0, r0⟩ := trodAll_cons hA1
  obtain ⟨_, rfl, _⟩ := trodAll_nil r0
  rfl

theorem arcsBack_holds : Rows.ArcsBackSaid :=
  OpenClaim.holds_of_wide 4 Try.f4 rfl rfl rfl rfl rfl rfl rfl ⟨rfl, rfl, rfl, rfl, rfl⟩ rfl rfl rfl rfl rfl (by kernel_rfl) Try.func4 (by kernel_rfl)
    (of_decide_eq_true (by kernel_rfl)) (by unfold Func.isWrapper; first | (rw [if_pos (by decide +kernel)]; kernel_rfl) | (rw [if_neg (by decide +kernel)]; exact ⟨rfl, rfl⟩))
    (fun os started H enc _ => arcsBack_lifted os started H enc)
#print axioms arcsBack_holds
end Go.Proofs.Ytdiodefooipojaa
