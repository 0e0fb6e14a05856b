/- net.May and snicketref15.May. -/
import Derived.Test.YtiebimdjdmogkaaNt
namespace Go.Proofs.Ytiebimdjdmogkaa
open Go.RowKit
open R (In64 InU64 lo64 nth)

theorem pc_any (p : Pc) (B : Option Addr) (m d g : Nat) (w : World) (hg : g < w.heap.size) (hc : w.cell? ((⟨g, 0, none⟩ : Addr).add 1) = some (.slice B m d)) :
    Calls Try.prog 41 ([Value.agg (cPc p).toArray] ++ [Value.pointer (some ⟨g, 0, none⟩)]).toArray w fun e w' => e = .returned (.bool (pieceB m p)) ∧ Below w.heap.size w w' := by
  have hM := R.Own.start [] w
  refine R.calls_of_WC (fn := Try.f41) Try.func41 rfl Try.ntmps41 (Nat.le_of_ble_eq_true rfl) ?_
  (refine R.stepV ?_; (repeat' (first | (with_reducible refine And.intro ?_ ?_) | (with_reducible intro _))); all_goals refine R.Lft.mk ?_)
  · rename_i h
    refine ⟨?_, R.Own.below (by assumption)⟩
    unfold pieceB
    rw [decide_eq_true h]
    rfl
  rename_i hM h
  have hc2 := (hM.below.cell (p := (⟨g, 0, none⟩ : Addr).add 1) hg).trans hc
  (refine R.stepV ?_; (repeat' (first | (with_reducible refine And.intro ?_ ?_) | (with_reducible intro _))); all_goals refine R.Lft.mk ?_)
  · rename_i h2
    refine ⟨?_, R.Own.below (by assumption)⟩
    unfold pieceB
    rw [decide_eq_false h, decide_eq_true h2]
    rfl
  · rename_i h2 _ _
    refine ⟨?_, R.Own.below (by assumption)⟩
    unfold pieceB
    rw [decide_eq_false h, decide_eq_false h2]
    rfl
theorem pcs_any (l : R.Sl Pc) (B : Option Addr) (m d g : Nat) (w : World) (hg : g < w.heap.size) (hc : w.cell? ((⟨g, 0, none⟩ : Addr).add 1) = some (.slice B m d)) (hl : R.GSl cPc 3 GPc w l) :
    Calls Try.prog 39 ([Value.slice l.A l.n l.c] ++ [Value.pointer (some ⟨g, 0, none⟩)]).toArray w fun e w' => e = .returned (.bool (l.L.any (pieceB m))) ∧ Below w.heap.size w w' := by
  have hM := R.Own.start [] w
  obtain ⟨h1, h2, h3, -⟩ := hl
  refine R.calls_of_WC (fn := Try.f39) Try.func39 rfl Try.ntmps39 (Nat.le_of_ble_eq_true rfl) ?_
  (refine R.stepV ?_; (repeat' (first | (with_reducible refine And.intro ?_ ?_) | (with_reducible intro _))); all_goals refine R.Lft.mk ?_)
  refine R.WO_call2 rfl rfl R.vv R.vv ?_
  refine (containsFunc_Pc l.A l.n l.c l.L 41 [.pointer (some ⟨g, 0, none⟩)] (pieceB m) _ (hM.inpIn h1) h2 (by omega) (fun x w2 hx hb3 => ?_)).mono ?_
  · exact pc_any x B m d g w2 (Nat.lt_of_lt_of_le hg (hM.call hb3).below.size) (((hM.call hb3).below.cell (p := (⟨g, 0, none⟩ : Addr).add 1) hg).trans hc)
  rintro e w2 ⟨rfl, hb2⟩
  have hM := hM.call hb2
  refine ⟨_, rfl, ?_⟩
  (refine R.stepV ?_; (repeat' (first | (with_reducible refine And.intro ?_ ?_) | (with_reducible intro _))); all_goals refine R.Lft.mk ?_; (all_goals (try (exact ⟨rfl, R.Own.below (by assumption)⟩))))
theorem pieceB_iff {m : Nat} {p : Pc} : pieceB m p = false ↔ ¬ p.e < 0 ∧ ¬ (m : Int) ≤ p.e ∧ 0 ≤ p.w ∧ p.w ≤ 2147483648 := by
  unfold pieceB
  simp
theorem nbt_ {b : Bool} {p : Prop} (hd : b = true) (h : (!b) = true) : p := by rw [hd] at h; cases h
theorem nbf_ {b : Bool} (h : (!b) = false) : b = true := by cases b <;> simp at h ⊢
theorem edge_next {m : Nat} {E : List Ed} {k : Nat} (h : ∀ i, i < k → edgeP m E i) (hk : edgeP m E k) : ∀ i, i < k + 1 → edgeP m E i := fun i hi => by
  rcases Nat.lt_or_ge i k with h1 | h1
  · exact h i h1
  · obtain rfl : i = k := by omega
    exact hk
end Go.Proofs.Ytiebimdjdmogkaa
