/- awake18. -/
import Derived.Test.YtgciglnkofoacaaGreatTu
import Derived.Test.YtgciglnkofoacaaGreatTv
import Derived.Test.YtgciglnkofoacaaGreatCx
import Derived.Test.YtgciglnkofoacaaGreatFrame
namespace Go.Proofs.YtgciglnkofoacaaGreat
open Go.ChangeShapes Go.WideShapes Go.ChangeAt Go.RowKit
open R (In64 InU64 lo64 nth)

section
variable (A B : Option Addr) (c d : Nat) (A1 : Option Addr) (c1 : Nat)
def rules18 (A1 : Option Addr) (c1 : Nat) : Rl := ⟨⟨A1, 1, c1, [⟨1, 4, true⟩]⟩, 1⟩
theorem c18_rules : rulesB (crossN A B c d) (rules18 A1 c1) = true := rulesB_t ⟨cross_netB A B c d, by show (1 : Nat) ≤ 2000; decide, by show (0 : Int) ≤ 1; decide, by show (1 : Int) ≤ 2; decide, fun i hi => by
  obtain rfl : i = 0 := by
    have hi : i < 1 := hi
    omega
  exact ⟨rfl, fun h => absurd h (by decide)⟩⟩
theorem c18_take14 : takeB (crossN A B c d) (rules18 A1 c1) 1 4 = true := rfl
theorem c18_take45 : takeB (crossN A B c d) (rules18 A1 c1) 4 5 = true := rfl
theorem c18_take56 : takeB (crossN A B c d) (rules18 A1 c1) 5 6 = true := rfl
theorem c18_take16 : takeB (crossN A B c d) (rules18 A1 c1) 1 6 = false := rfl
theorem c18_from : fromL (crossN A B c d) (rules18 A1 c1) 1 = [4] := by
  have e : fromL (crossN A B c d) (rules18 A1 c1) 1 = upL 8 fun u => takeB (crossN A B c d) (rules18 A1 c1) 1 u := by
    unfold fromL
    congr 1
    funext u
    exact mayT_t (c18_rules A B c d A1 c1) 1 u
  rw [e]
  rfl
theorem c18_bad {i : Nat} (h : i < 4) : badK (crossN A B c d) (rules18 A1 c1) [1, 4, 5, 6] i = false := by
  match i, h with
  | 0, _ => rfl
  | 1, _ => rfl
  | 2, _ => rfl
  | 3, _ => rfl
theorem c18_dead3 : deadB (crossN A B c d) 3 = true := by
  unfold deadB
  rw [cross_netB]
  rfl
theorem c18_dead0 : deadB (crossN A B c d) 0 = false := by
  unfold deadB
  rw [cross_netB]
  rfl
theorem c18_may45 : mayT (crossN A B c d) (rules18 A1 c1) 4 5 = true := by rw [mayT_t (c18_rules A B c d A1 c1)]; rfl
theorem c18_may16 : mayT (crossN A B c d) (rules18 A1 c1) 1 6 = false := by rw [mayT_t (c18_rules A B c d A1 c1)]; rfl
end
set_option maxHeartbeats 4000000 in
attribute [local irreducible] cS cR cSp cW folB wayB crossS crossE rulesB takeB turnB badK deadB mayT fromL in
theorem awake18 (w : World) : Calls Tryz.prog 9 #[] w fun e w' => e = .returned (.bool true) ∧ Below w.heap.size w w' := by
  have hM := R.Own.start [] w
  refine R.calls_of_WC (fn := Tryz.f9) Tryz.func9 rfl Tryz.ntmps9 (Nat.le_of_ble_eq_true rfl) ?_
  (refine R.stepV ?_; (repeat' (first | (with_reducible refine And.intro ?_ ?_) | (with_reducible intro _))); all_goals refine R.Lft.mk ?_)
  refine R.WO_call0 rfl rfl  ?_
  refine (cross_any _).mono ?_
  rintro _ w2 ⟨A, B, c, d, rfl, hO⟩
  have hG := cross_G A B c d hO (.head _) (.tail _ (.head _))
  clear hM
  have hM := R.Own.start [] w2
  have hL := hG.lasts
  refine ⟨_, rfl, ?_⟩
  (refine R.stepV ?_; (repeat' (first | (with_reducible refine And.intro ?_ ?_) | (with_reducible intro _))); all_goals refine R.Lft.mk ?_)
  rename_i A1 c1 _ _ g2 _ _ w3 hM
  have hR : GRl w3 (rules18 A1 c1) := GRl_own (M := [⟨1, 4, true⟩]) (p := 1) hM (.tail _ (.head _)) rfl (fun y hy => by rw [List.mem_singleton.1 hy]; exact ⟨rfl, rfl⟩) rfl
  refine R.WO_call3 rfl rfl R.vv R.vv R.vv ?_
  refine (from_any (crossN A B c d) (rules18 A1 c1) 1 _ (R.lasts hL hM) hR (by unfold In64; decide)).mono ?_
  rintro _ w4 ⟨A2, c2, he, hG2⟩
  rw [c18_from, show ([4] : List Int).length = 1 from rfl] at he hG2
  subst he
  have hM := R.Own.give hM hG2
  refine ⟨_, rfl, ?_⟩
  (refine R.stepV ?_; (repeat' (first | (with_reducible refine And.intro ?_ ?_) | (with_reducible intro _))); all_goals refine R.Lft.mk ?_)
  rename_i A3 c3 w5 hM
  have hR : GRl w5 (rules18 A1 c1) := GRl_own (M := [⟨1, 4, true⟩]) (p := 1) hM (.tail _ (.tail _ (.tail _ (.head _)))) rfl (fun y hy => by rw [List.mem_singleton.1 hy]; exact ⟨rfl, rfl⟩) rfl
  refine R.WO_call3 rfl rfl R.vv R.vv R.vv ?_
  refine (path_any (crossN A B c d) (rules18 A1 c1) A3 4 c3 [1, 4, 5, 6] _ (R.lasts hL hM) hR (R.Own.inp hM (.head _)) rfl (by decide) (fun y hy => by
    have : y = 1 ∨ y = 4 ∨ y = 5 ∨ y = 6 := by simpa using hy
    unfold In64
    omega) (c18_rules A B c d A1 c1) 4 (Nat.le_refl _) (fun i hi => c18_bad A B c d A1 c1 hi) (fun h => absurd h (Nat.lt_irrefl _))).mono ?_
  rintro _ w6 ⟨rfl, hb6⟩
  have hM := hM.call hb6
  rw [if_neg (Nat.lt_irrefl 4), decide_eq_true (Eq.refl 4)]
  refine ⟨_, rfl, ?_⟩
  have q1 := c18_dead3 A B c d
  have q2 := c18_dead0 A B c d
  (refine R.stepV ?_; (repeat' (first | (with_reducible refine And.intro ?_ ?_) | (with_reducible intro _))); all_goals refine R.Lft.mk ?_)
  all_goals first
    | exact nbw_f q2 (by assumption)
    | exact bbw_t q1 (by assumption)
    | skip
  rename_i hM _
  refine R.WO_call4 rfl rfl R.vv R.vv R.vv R.vv ?_
  refine ((con_tMay (crossN A B c d) (rules18 A1 c1) 4 5).h () _ ⟨R.lasts hL hM, GRl_own (M := [⟨1, 4, true⟩]) (p := 1) hM (.tail _ (.tail _ (.tail _ (.head _)))) rfl (fun y hy => by rw [List.mem_singleton.1 hy]; exact ⟨rfl, rfl⟩) rfl, by unfold In64; decide, by unfold In64; decide⟩).mono ?_
  rintro _ w7 ⟨rfl, hb7⟩
  have hM := hM.call hb7
  refine ⟨_, rfl, ?_⟩
  rw [c18_may45]
  (refine R.stepV ?_; (repeat' (first | (with_reducible refine And.intro ?_ ?_) | (with_reducible intro _))); all_goals refine R.Lft.mk ?_)
  rename_i hM
  refine R.WO_call4 rfl rfl R.vv R.vv R.vv R.vv ?_
  refine ((con_tMay (crossN A B c d) (rules18 A1 c1) 1 6).h () _ ⟨R.lasts hL hM, GRl_own (M := [⟨1, 4, true⟩]) (p := 1) hM (.tail _ (.tail _ (.tail _ (.head _)))) rfl (fun y hy => by rw [List.mem_singleton.1 hy]; exact ⟨rfl, rfl⟩) rfl, by unfold In64; decide, by unfold In64; decide⟩).mono ?_
  rintro _ w8 ⟨rfl, hb8⟩
  have hM := hM.call hb8
  refine ⟨_, rfl, ?_⟩
  rw [c18_may16]
  (refine R.stepV ?_; (repeat' (first | (with_reducible refine And.intro ?_ ?_) | (with_reducible intro _))); all_goals refine R.Lft.mk ?_)
  exact ⟨rfl, (hO.call (R.Own.below (by assumption))).below⟩
instance con_awake18 : R.ConB Tryz.prog 9 #[] Unit (fun _ _ => True) (fun _ => .bool true) := ⟨fun _ w _ => awake18 w⟩
end Go.Proofs.YtgciglnkofoacaaGreat
