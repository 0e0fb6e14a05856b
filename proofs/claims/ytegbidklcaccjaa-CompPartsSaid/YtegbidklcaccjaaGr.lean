/- Graphs as values and arguments; which may be. -/
import Derived.Test.YtegbidklcaccjaaHg
import Derived.Test.YtegbidklcaccjaaClosed2
import Derived.Test.YtegbidklcaccjaaSm
namespace Go.Proofs.Ytegbidklcaccjaa
open Go.RowKit
open R (In64 InU64 lo64 nth)
/-- A graph: where each vertex's arcs begin, their heads, their weights. -/
structure Gph where
  st : R.Sl Int
  hd : R.Sl Int
  wt : R.Sl Int
instance : Inhabited Gph := ⟨⟨default, default, default⟩⟩
def cGph (g : Gph) : List Value := [.slice g.st.A g.st.n g.st.c, .slice g.hd.A g.hd.n g.hd.c, .slice g.wt.A g.wt.n g.wt.c]
instance encc_Gph : R.EncC cGph 3 := ⟨fun _ => rfl, by simp [cGph, Value.oneCell'], by decide⟩
def GGph (W : World) (g : Gph) : Prop := R.GSl R.cI 1 GI W g.st ∧ R.GSl R.cI 1 GI W g.hd ∧ R.GSl R.cI 1 GI W g.wt
instance opn_Gph : R.Opn Try.prog 24 Gph cGph GGph := R.opn_struct3 (o0 := 0) (t0 := 22) (n0 := 1) (o1 := 1) (t1 := 22) (n1 := 1) (o2 := 2) (t2 := 22) (n2 := 1) (by kernel_rfl) (by kernel_rfl) (by kernel_rfl) rfl rfl rfl (by kernel_rfl) Gph.mk (fun _ _ _ => rfl) (fun _ _ _ _ h1 h2 h3 => ⟨h1, h2, h3⟩)
theorem GSl.now {W w : World} {F : List Nat} {W0 : World} {l : List R.Res} {x : R.Sl Int} (hM : R.Own F W0 w l) (h : R.Inp F W0 x.A x.n 1 (x.L.flatMap R.cI)) (h2 : R.GSl R.cI 1 GI W x) : R.GSl R.cI 1 GI w x := ⟨R.Own.inpIn hM h, h2.2.1, h2.2.2.1, h2.2.2.2⟩
theorem GGph.now {W w : World} {l : List R.Res} {g : Gph} (hM : R.Own [] W w l) (h : GGph W g) : GGph w g := ⟨GSl.now hM h.1.1 h.1, GSl.now hM h.2.1.1 h.2.1, GSl.now hM h.2.2.1 h.2.2⟩
def okArc (g : Gph) (v i : Nat) : Prop := 0 ≤ nth g.hd.L i ∧ nth g.hd.L i + 1 < g.st.n ∧ 0 ≤ nth g.wt.L i ∧ nth g.wt.L i ≤ 2147483648 ∧ (nth g.st.L v < (i : Nat) → nth g.hd.L (i - 1) < nth g.hd.L i)
structure StG (g : Gph) : Prop where
  n1 : 1 ≤ g.st.n
  n2 : g.st.n ≤ 4001
  n3 : g.hd.n ≤ 200000
  n4 : g.wt.n = g.hd.n
  s0 : nth g.st.L 0 = 0
  s1 : nth g.st.L (g.st.n - 1) = (g.hd.n : Nat)
  up : ∀ v, v + 1 < g.st.n → nth g.st.L v ≤ nth g.st.L (v + 1)
structure MayG (g : Gph) : Prop extends StG g where
  arc : ∀ v i : Nat, v + 1 < g.st.n → nth g.st.L v ≤ (i : Nat) → ((i : Nat) : Int) < nth g.st.L (v + 1) → okArc g v i
/-- The graph may be. -/
noncomputable def mayG (g : Gph) : Bool := @decide (MayG g) (Classical.propDecidable _)
theorem mayG_t {g : Gph} (h : MayG g) : mayG g = true := by unfold mayG; exact @decide_eq_true _ (Classical.propDecidable _) h
theorem mayG_f {g : Gph} (h : ¬ MayG g) : mayG g = false := by unfold mayG; exact @decide_eq_false _ (Classical.propDecidable _) h
theorem mayG_p {g : Gph} (h : mayG g = true) : MayG g := by
  rcases Classical.em (MayG g) with c | c
  · exact c
  · rw [mayG_f c] at h
    cases h
theorem mayG_n {g : Gph} (h : mayG g = false) : ¬ MayG g := fun c => by rw [mayG_t c] at h; cases h
noncomputable def stG (g : Gph) : Bool := @decide (StG g) (Classical.propDecidable _)
theorem stG_t {g : Gph} (h : StG g) : stG g = true := by unfold stG; exact @decide_eq_true _ (Classical.propDecidable _) h
theorem stG_f {g : Gph} (h : ¬ StG g) : stG g = false := by unfold stG; exact @decide_eq_false _ (Classical.propDecidable _) h
theorem StG.mono {g : Gph} (h : StG g) : ∀ {u v : Nat}, v ≤ u → u < g.st.n → nth g.st.L v ≤ nth g.st.L u := fun {u v} hvu hu => by
  induction u with
  | zero => rw [show v = 0 by omega]; exact Int.le_refl _
  | succ u ih =>
    rcases Nat.lt_or_ge v (u + 1) with c | c
    · have := ih (by omega) (by omega)
      have := h.up u hu
      omega
    · rw [show v = u + 1 by omega]; exact Int.le_refl _
theorem StG.lo {g : Gph} (h : StG g) {v : Nat} (hv : v < g.st.n) : 0 ≤ nth g.st.L v := by
  have := h.mono (Nat.zero_le v) hv
  rw [h.s0] at this
  exact this
theorem StG.hi {g : Gph} (h : StG g) {v : Nat} (hv : v < g.st.n) : nth g.st.L v ≤ (g.hd.n : Nat) := by
  have h1 := h.n1
  have := h.mono (v := v) (u := g.st.n - 1) (by omega) (by omega)
  rw [h.s1] at this
  exact this
instance con_small19 (g : Gph) : R.ConB Try.prog 11 #[.agg (cGph g).toArray] Unit (fun _ _ => True) (fun _ => .bool (decide (g.st.n ≤ 40 ∧ g.hd.n ≤ 300 ∧ g.wt.n ≤ 300))) := ⟨fun _ w _ => by
  have hM := R.Own.start [] w
  refine R.calls_of_WC (fn := Try.f11) Try.func11 rfl Try.ntmps11 (Nat.le_of_ble_eq_true rfl) ?_
  (refine R.stepH ?_; (repeat' (first | (with_reducible refine And.intro ?_ ?_) | (with_reducible intro _))); all_goals refine R.Lft.mk ?_)
  all_goals
    refine ⟨?_, R.Own.below R.ohm⟩
    by_cases h1 : g.st.n ≤ 40 <;> by_cases h2 : g.hd.n ≤ 300 <;> by_cases h3 : g.wt.n ≤ 300 <;> first | (exfalso; omega) | (simp [h1, h2, h3]; done) | (simp [h1, h2, h3]; omega)⟩
instance con_size19 (g : Gph) : R.ConB Try.prog 33 #[.agg (cGph g).toArray] Unit (fun _ _ => g.st.n ≤ 1000000) (fun _ => .int .i64 ((g.st.n : Int) - 1)) := ⟨fun _ w hn => by
  have hM := R.Own.start [] w
  refine R.calls_of_WC (fn := Try.f33) Try.func33 rfl Try.ntmps33 (Nat.le_of_ble_eq_true rfl) ?_
  (refine R.stepH ?_; (repeat' (first | (with_reducible refine And.intro ?_ ?_) | (with_reducible intro _))); all_goals refine R.Lft.mk ?_; (all_goals (try (exact ⟨rfl, R.Own.below (by assumption)⟩))))⟩
theorem sorted_any (A : Option Addr) (n c : Nat) (L : List Int) (w : World) (hA : R.Inp [] w A n 1 (L.flatMap R.cI)) (hn : n = L.length) (hb : n ≤ 1000000) (h1 : 1 ≤ n) : Calls Try.prog 95 #[.slice A n c] w fun e w' => (∃ b : Bool, e = .returned (.bool b) ∧ (b = true ↔ ∀ v, v + 1 < n → nth L v ≤ nth L (v + 1))) ∧ Below w.heap.size w w' := by
  have hM := R.Own.start [] w
  refine R.calls_of_WC (fn := Try.f95) Try.func95 rfl Try.ntmps95 (Nat.le_of_ble_eq_true rfl) ?_
  (refine R.stepH ?_; (repeat' (first | (with_reducible refine And.intro ?_ ?_) | (with_reducible intro _))); all_goals refine R.Lft.mk ?_)
  refine R.WC_loop (fun k : Nat => [(0, .slice A n c), (2, .bool false), (3, .int .i64 (k : Nat))])
    (fun k w1 => k < n ∧ R.Own [] w w1 [] ∧ ∀ v, k ≤ v → v + 1 < n → nth L v ≤ nth L (v + 1)) (fun k => k) ⟨n - 1, ⟨rfl, rfl, R.viaI rfl (by omega), trivial⟩, by omega, hM, fun v h1 h2 => by omega⟩ ?_
  clear hM
  rintro k f w1 ⟨hk, hM, hall⟩
  by_cases hlt : 0 < k
  · obtain ⟨j, rfl⟩ : ∃ j, k = j + 1 := ⟨k - 1, by omega⟩
    have e1 : (((j + 1 : Nat) : Int) - 1).toNat = j := by omega
    (refine R.stepH ?_; (repeat' (first | (with_reducible refine And.intro ?_ ?_) | (with_reducible intro _))); all_goals refine R.Lft.mk ?_)
    · rename_i hh
      rw [e1] at hh
      refine ⟨⟨false, rfl, fun h => (by cases h), fun h => ?_⟩, R.Own.below R.ohm⟩
      have := h j (by omega)
      omega
    · rename_i hh
      rw [e1] at hh
      refine ⟨j, ⟨rfl, rfl, R.viaI rfl (by omega), trivial⟩, ⟨by omega, R.ohm, fun v h2 h3 => ?_⟩, by omega⟩
      rcases Nat.lt_or_ge j v with c | c
      · exact hall v (by omega) h3
      · rw [show v = j by omega]
        omega
  · (refine R.stepH ?_; (repeat' (first | (with_reducible refine And.intro ?_ ?_) | (with_reducible intro _))); all_goals refine R.Lft.mk ?_)
    exact ⟨⟨true, rfl, fun _ v hv => hall v (by omega) hv, fun _ => rfl⟩, R.Own.below R.ohm⟩
set_option maxHeartbeats 2000000 in
theorem starts_any (g : Gph) (w : World) (hG : GGph w g) : Calls Try.prog 78 #[.agg (cGph g).toArray] w fun e w' => e = .returned (.bool (stG g)) ∧ Below w.heap.size w w' := by
  have hM := R.Own.start [] w
  obtain ⟨⟨hA, hal, hac, hag⟩, ⟨hB, hbl, hbc, hbg⟩, ⟨hC, hcl, hcc, hcg⟩⟩ := hG
  refine R.calls_of_WC (fn := Try.f78) Try.func78 rfl Try.ntmps78 (Nat.le_of_ble_eq_true rfl) ?_
  by_cases h0 : g.st.n = 0
  · (refine R.stepH ?_; (repeat' (first | (with_reducible refine And.intro ?_ ?_) | (with_reducible intro _))); all_goals refine R.Lft.mk ?_)
    exact ⟨by rw [stG_f fun h => by have := h.n1; omega], R.Own.below R.ohm⟩
  have e1 : ((g.st.n : Int) - 1).toNat = g.st.n - 1 := by omega
  have e0 : Int.toNat 0 = 0 := rfl
  (refine R.stepH ?_; (repeat' (first | (with_reducible refine And.intro ?_ ?_) | (with_reducible intro _))); all_goals refine R.Lft.mk ?_)
  all_goals first
    | exact ⟨by rw [stG_f fun h => by have := h.n1; have := h.n2; have := h.n3; have := h.n4; have := h.s0; have := h.s1; simp only [e1, e0] at *; first | contradiction | omega], R.Own.below R.ohm⟩
    | skip
  rename_i a1 a2 a3 a4 a5
  rw [e0] at a2
  rw [e1] at a3
  refine R.WO_call1 rfl rfl R.vv ?_
  refine (sorted_any g.st.A g.st.n g.st.c g.st.L _ (R.Own.inpIn R.ohm hA) hal (by omega) (by omega)).mono ?_
  rintro _ w3 ⟨⟨b, rfl, hb⟩, hb3⟩
  have hM := R.Own.call R.ohm hb3
  refine ⟨_, rfl, ?_⟩
  (refine R.stepH ?_; (repeat' (first | (with_reducible refine And.intro ?_ ?_) | (with_reducible intro _))); all_goals refine R.Lft.mk ?_)
  refine ⟨?_, R.Own.below R.ohm⟩
  cases b with
  | true => rw [stG_t ⟨by omega, by omega, by omega, by omega, Decidable.not_not.1 a2, Decidable.not_not.1 a3, hb.1 rfl⟩]
  | false => rw [stG_f fun h => by have := hb.2 h.up; cases this]
end Go.Proofs.Ytegbidklcaccjaa
