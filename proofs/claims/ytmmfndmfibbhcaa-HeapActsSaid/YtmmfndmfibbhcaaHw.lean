/- The laws of chapter 20: their own example. -/
import Derived.Test.YtmmfndmfibbhcaaHt
namespace Go.Proofs.Ytmmfndmfibbhcaa
open Go.RowKit
open R (In64 InU64 lo64 nth)
theorem min_uniq {κ : Int → Option Int} {x y : Item} (hx : isMin κ x) (hy : isMin κ y) : x = y := by
  obtain ⟨h1, h2⟩ := leP_anti (hy.2 x hx.1) (hx.2 y hy.1)
  cases x; cases y
  simp_all
theorem awake20 (w : World) : Calls Try.prog 26 #[] w fun e w' => e = .returned (.bool true) ∧ Below w.heap.size w w' := by
  have hM := R.Own.start [] w
  refine R.calls_of_WC (fn := Try.f26) Try.func26 rfl Try.ntmps26 (Nat.le_of_ble_eq_true rfl) ?_
  (refine R.stepH ?_; (repeat' (first | (with_reducible refine And.intro ?_ ?_) | (with_reducible intro _))); all_goals refine R.Lft.mk ?_)
  refine R.WO_call0 rfl rfl ?_
  refine (new_hp (R.ohm : R.Own [] w _ [])).mono ?_
  rintro _ w1 ⟨g, b, rfl, hH⟩
  obtain ⟨A, c, L, es, clk, m, h1, h2, h3, h4, hM⟩ := id hH
  refine ⟨_, rfl, ?_⟩
  (refine R.stepH ?_; (repeat' (first | (with_reducible refine And.intro ?_ ?_) | (with_reducible intro _))); all_goals refine R.Lft.mk ?_)
  clear hM h1 h2 h3 h4
  refine R.WO_call2 rfl rfl R.vv R.vv ?_
  refine (put_hp (x := ⟨5, 1⟩) hH (by unfold In64; decide) (by omega) (by unfold maxLen; omega)).mono ?_
  clear hH
  rintro _ w2 ⟨rfl, hH⟩
  have hH : Hp [] w w2 [] g b 1 1 (R.putM (fun _ => none) 1 5) := hH
  obtain ⟨A, c, L, es, clk, m, h1, h2, h3, h4, hM⟩ := id hH
  refine ⟨_, rfl, ?_⟩
  rw [show putB (fun _ => none) ⟨5, 1⟩ = true from rfl]
  (refine R.stepH ?_; (repeat' (first | (with_reducible refine And.intro ?_ ?_) | (with_reducible intro _))); all_goals refine R.Lft.mk ?_)
  clear hM h1 h2 h3 h4
  refine R.WO_call2 rfl rfl R.vv R.vv ?_
  refine (put_hp (x := ⟨3, 2⟩) hH (by unfold In64; decide) (by omega) (by unfold maxLen; omega)).mono ?_
  clear hH
  rintro _ w3 ⟨rfl, hH⟩
  have hH : Hp [] w w3 [] g b 2 2 (R.putM (R.putM (fun _ => none) 1 5) 2 3) := hH
  obtain ⟨A, c, L, es, clk, m, h1, h2, h3, h4, hM⟩ := id hH
  refine ⟨_, rfl, ?_⟩
  rw [show putB (R.putM (fun _ => none) 1 5) ⟨3, 2⟩ = true from rfl]
  (refine R.stepH ?_; (repeat' (first | (with_reducible refine And.intro ?_ ?_) | (with_reducible intro _))); all_goals refine R.Lft.mk ?_)
  clear hM h1 h2 h3 h4
  refine R.WO_call1 rfl rfl R.vv ?_
  refine (pop_hp hH (by omega) (by unfold maxLen; omega)).mono ?_
  clear hH
  rintro _ w4 ⟨x, hx, rfl, hH⟩
  have hxe : x = ⟨3, 2⟩ := by
    refine min_uniq hx ⟨rfl, fun y hy => ?_⟩
    unfold R.putM at hy
    unfold ltP
    dsimp only at hy ⊢
    split at hy
    · injection hy with hy; omega
    · split at hy
      · injection hy with hy; omega
      · cases hy
  subst hxe
  obtain ⟨A, c, L, es, clk, m, h1, h2, h3, h4, hM⟩ := id hH
  refine ⟨_, rfl, ?_⟩
  (refine R.stepH ?_; (repeat' (first | (with_reducible refine And.intro ?_ ?_) | (with_reducible intro _))); all_goals refine R.Lft.mk ?_)
  rename_i gx _ _ _ hM
  have hM := R.pk (r := .row A _ _ _ _ _) (R.pk (r := .map _ _ _) (R.pk (r := .blk g _ _) hM))
  refine R.WO_call1 rfl rfl R.vv ?_
  refine (len_own hM).mono ?_
  rintro _ w5 ⟨rfl, hM⟩
  refine ⟨_, rfl, ?_⟩
  (refine R.stepH ?_; (repeat' (first | (with_reducible refine And.intro ?_ ?_) | (with_reducible intro _))); all_goals refine R.Lft.mk ?_; (all_goals (try (exact ⟨rfl, R.Own.below (by assumption)⟩))))
instance con_awake20 : R.ConB Try.prog 26 #[] Unit (fun _ _ => True) (fun _ => .bool true) := ⟨fun _ w _ => awake20 w⟩
end Go.Proofs.Ytmmfndmfibbhcaa
