/- Graphs as values and arguments; which may be. Which graphs may be: the program's and the document's; a vertex's arcs. Arcs of a graph: snicketref19.Arc, slices.BinarySearchFunc on items, arcs.Arc. (not built yet) Are graphs alike: arcs.Same, snicketref19.Same. arcs.dead: at which nodes just one edge ends. arcs: what rules without bans say. A graph the other way round: rows of arcs, the plain law; rows of rows. -/
import Derived.Test.YtdiodefooipojaaGreatCl
import Derived.Test.YtdiodefooipojaaGreatVGo
import Derived.Test.YtdiodefooipojaaGreatDv
import Derived.Test.YtdiodefooipojaaGreatNt
import Derived.Test.YtdiodefooipojaaGreatBw
import Derived.Test.YtdiodefooipojaaGreatCx
import Derived.Maps.OwnSet
namespace Go.Proofs.YtdiodefooipojaaGreat
open Go.RowKit
open R (In64 InU64 lo64 nth)
/-- A graph: where each vertex's arcs begin, their heads, their weights. -/
structure Gph where
  st : R.Sl Int
  hd : R.Sl Int
  wt : R.Sl Int
instance : Inhabited Gph := ⟨⟨default, default, default⟩⟩
def cGph (g : Gph) : List Value := [.slice g.st.A g.st.n g.st.c, .slice g.hd.A g.hd.n g.hd.c, .slice g.wt.A g.wt.n g.wt.c]
instance encc_Gph : R.EncC cGph 3 := ⟨fun _ => rfl, by simp [cGph, Value.oneCell'], by decide⟩
def GGph (W : World) (g : Gph) : Prop := R.GSl R.cI 1 GI W g.st ∧ R.GSl R.cI 1 GI W g.hd ∧ R.GSl R.cI 1 GI W g.wt
instance opn_Gph : R.Opn Tryz.prog 34 Gph cGph GGph := R.opn_struct3 (o0 := 0) (t0 := 32) (n0 := 1) (o1 := 1) (t1 := 32) (n1 := 1) (o2 := 2) (t2 := 32) (n2 := 1) (by kernel_rfl) (by kernel_rfl) (by kernel_rfl) rfl rfl rfl (by kernel_rfl) Gph.mk (fun _ _ _ => rfl) (fun _ _ _ _ h1 h2 h3 => ⟨h1, h2, h3⟩)
theorem GSl.now {W w : World} {F : List Nat} {W0 : World} {l : List R.Res} {x : R.Sl Int} (hM : R.Own F W0 w l) (h : R.Inp F W0 x.A x.n 1 (x.L.flatMap R.cI)) (h2 : R.GSl R.cI 1 GI W x) : R.GSl R.cI 1 GI w x := ⟨R.Own.inpIn hM h, h2.2.1, h2.2.2.1, h2.2.2.2⟩
theorem GGph.now {W w : World} {l : List R.Res} {g : Gph} (hM : R.Own [] W w l) (h : GGph W g) : GGph w g := ⟨GSl.now hM h.1.1 h.1, GSl.now hM h.2.1.1 h.2.1, GSl.now hM h.2.2.1 h.2.2⟩
def okArc (g : Gph) (v i : Nat) : Prop := 0 ≤ nth g.hd.L i ∧ nth g.hd.L i + 1 < g.st.n ∧ 0 ≤ nth g.wt.L i ∧ nth g.wt.L i ≤ 2147483648 ∧ (nth g.st.L v < (i : Nat) → nth g.hd.L (i - 1) < nth g.hd.L i)
structure StG (g : Gph) : Prop where
  n1 : 1 ≤ g.st.n
  n2 : g.st.n ≤ 4001
  n3 : g.hd.n ≤ 200000
  n4 : g.wt.n = g.hd.n
  s0 : nth g.st.L 0 = 0
  s1 : nth g.st.L (g.st.n - 1) = (g.hd.n : Nat)
  up : ∀ v, v + 1 < g.st.n → nth g.st.L v ≤ nth g.st.L (v + 1)
structure MayG (g : Gph) : Prop extends StG g where
  arc : ∀ v i : Nat, v + 1 < g.st.n → nth g.st.L v ≤ (i : Nat) → ((i : Nat) : Int) < nth g.st.L (v + 1) → okArc g v i
/-- The graph may be. -/
noncomputable def mayG (g : Gph) : Bool := @decide (MayG g) (Classical.propDecidable _)
theorem mayG_t {g : Gph} (h : MayG g) : mayG g = true := by unfold mayG; exact @decide_eq_true _ (Classical.propDecidable _) h
theorem mayG_f {g : Gph} (h : ¬ MayG g) : mayG g = false := by unfold mayG; exact @decide_eq_false _ (Classical.propDecidable _) h
theorem mayG_p {g : Gph} (h : mayG g = true) : MayG g := by
  rcases Classical.em (MayG g) with c | c
  · exact c
  · rw [mayG_f c] at h
    cases h
theorem mayG_n {g : Gph} (h : mayG g = false) : ¬ MayG g := fun c => by rw [mayG_t c] at h; cases h
noncomputable def stG (g : Gph) : Bool := @decide (StG g) (Classical.propDecidable _)
theorem stG_t {g : Gph} (h : StG g) : stG g = true := by unfold stG; exact @decide_eq_true _ (Classical.propDecidable _) h
theorem stG_f {g : Gph} (h : ¬ StG g) : stG g = false := by unfold stG; exact @decide_eq_false _ (Classical.propDecidable _) h
theorem StG.mono {g : Gph} (h : StG g) : ∀ {u v : Nat}, v ≤ u → u < g.st.n → nth g.st.L v ≤ nth g.st.L u := fun {u v} hvu hu => by
  induction u with
  | zero => rw [show v = 0 by omega]; exact Int.le_refl _
  | succ u ih =>
    rcases Nat.lt_or_ge v (u + 1) with c | c
    · have := ih (by omega) (by omega)
      have := h.up u hu
      omega
    · rw [show v = u + 1 by omega]; exact Int.le_refl _
theorem StG.lo {g : Gph} (h : StG g) {v : Nat} (hv : v < g.st.n) : 0 ≤ nth g.st.L v := by
  have := h.mono (Nat.zero_le v) hv
  rw [h.s0] at this
  exact this
theorem StG.hi {g : Gph} (h : StG g) {v : Nat} (hv : v < g.st.n) : nth g.st.L v ≤ (g.hd.n : Nat) := by
  have h1 := h.n1
  have := h.mono (v := v) (u := g.st.n - 1) (by omega) (by omega)
  rw [h.s1] at this
  exact this
theorem nanc_int (a : Int) (w : World) : Calls Tryz.prog 42 #[.int .i64 a] w fun e w' => e = .returned (.bool false) ∧ w = w' := by
  refine R.calls_of_WC (fn := Tryz.f42) Tryz.func42 rfl Tryz.ntmps42 (Nat.le_of_ble_eq_true rfl) ?_
  (refine R.stepV ?_; (repeat' (first | (with_reducible refine And.intro ?_ ?_) | (with_reducible intro _))); all_goals refine R.Lft.mk ?_)
  exact ⟨by simp, rfl⟩
instance con_nanc (a : Int) : R.ConP Tryz.prog 42 #[.int .i64 a] Unit (fun _ _ => True) (fun _ => .bool false) := ⟨fun _ w _ => nanc_int a w⟩
theorem less_int (a b : Int) (w : World) : Calls Tryz.prog 59 #[.int .i64 a, .int .i64 b] w fun e w' => e = .returned (.bool (decide (a < b))) ∧ w = w' := by
  refine R.calls_of_WC (fn := Tryz.f59) Tryz.func59 rfl Tryz.ntmps59 (Nat.le_of_ble_eq_true rfl) ?_
  (refine R.stepV ?_; (repeat' (first | (with_reducible refine And.intro ?_ ?_) | (with_reducible intro _))); all_goals refine R.Lft.mk ?_)
  exact ⟨rfl, rfl⟩
instance con_less (a b : Int) : R.ConP Tryz.prog 59 #[.int .i64 a, .int .i64 b] Unit (fun _ _ => True) (fun _ => .bool (decide (a < b))) := ⟨fun _ w _ => less_int a b w⟩
theorem sorted_any (A : Option Addr) (n c : Nat) (L : List Int) (w : World) (hA : R.Inp [] w A n 1 (L.flatMap R.cI)) (hn : n = L.length) (hb : n ≤ 1000000) (h1 : 1 ≤ n) : Calls Tryz.prog 41 #[.slice A n c] w fun e w' => (∃ b : Bool, e = .returned (.bool b) ∧ (b = true ↔ ∀ v, v + 1 < n → nth L v ≤ nth L (v + 1))) ∧ Below w.heap.size w w' := by
  have hM := R.Own.start [] w
  refine R.calls_of_WC (fn := Tryz.f41) Tryz.func41 rfl Tryz.ntmps41 (Nat.le_of_ble_eq_true rfl) ?_
  (refine R.stepU ?_; (repeat' (first | (with_reducible refine And.intro ?_ ?_) | (with_reducible intro _))); all_goals refine R.Lft.mk ?_)
  refine R.WC_loop (fun k : Nat => [(0, .slice A n c), (2, .bool false), (3, .int .i64 (k : Nat))])
    (fun k w1 => k < n ∧ R.Own [] w w1 [] ∧ ∀ v, k ≤ v → v + 1 < n → nth L v ≤ nth L (v + 1)) (fun k => k) ⟨n - 1, ⟨rfl, rfl, R.viaI rfl (by omega), trivial⟩, by omega, hM, fun v h1 h2 => by omega⟩ ?_
  clear hM
  rintro k f w1 ⟨hk, hM, hall⟩
  by_cases hlt : 0 < k
  · obtain ⟨j, rfl⟩ : ∃ j, k = j + 1 := ⟨k - 1, by omega⟩
    have e1 : (((j + 1 : Nat) : Int) - 1).toNat = j := by omega
    (refine R.stepU ?_; (repeat' (first | (with_reducible refine And.intro ?_ ?_) | (with_reducible intro _))); all_goals refine R.Lft.mk ?_)
    · rename_i hh
      rw [e1] at hh
      refine ⟨⟨false, rfl, fun h => (by cases h), fun h => ?_⟩, R.Own.below R.ohm⟩
      have := h j (by omega)
      omega
    · rename_i hh
      rw [e1] at hh
      refine ⟨j, ⟨rfl, rfl, R.viaI rfl (by omega), trivial⟩, ⟨by omega, R.ohm, fun v h2 h3 => ?_⟩, by omega⟩
      rcases Nat.lt_or_ge j v with c | c
      · exact hall v (by omega) h3
      · rw [show v = j by omega]
        omega
  · (refine R.stepU ?_; (repeat' (first | (with_reducible refine And.intro ?_ ?_) | (with_reducible intro _))); all_goals refine R.Lft.mk ?_)
    exact ⟨⟨true, rfl, fun _ v hv => hall v (by omega) hv, fun _ => rfl⟩, R.Own.below R.ohm⟩
set_option maxHeartbeats 2000000 in
theorem starts_any (g : Gph) (w : World) (hG : GGph w g) : Calls Tryz.prog 26 #[.agg (cGph g).toArray] w fun e w' => e = .returned (.bool (stG g)) ∧ Below w.heap.size w w' := by
  have hM := R.Own.start [] w
  obtain ⟨⟨hA, hal, hac, hag⟩, ⟨hB, hbl, hbc, hbg⟩, ⟨hC, hcl, hcc, hcg⟩⟩ := hG
  refine R.calls_of_WC (fn := Tryz.f26) Tryz.func26 rfl Tryz.ntmps26 (Nat.le_of_ble_eq_true rfl) ?_
  by_cases h0 : g.st.n = 0
  · (refine R.stepU ?_; (repeat' (first | (with_reducible refine And.intro ?_ ?_) | (with_reducible intro _))); all_goals refine R.Lft.mk ?_)
    exact ⟨by rw [stG_f fun h => by have := h.n1; omega], R.Own.below R.ohm⟩
  have e1 : ((g.st.n : Int) - 1).toNat = g.st.n - 1 := by omega
  have e0 : Int.toNat 0 = 0 := rfl
  (refine R.stepU ?_; (repeat' (first | (with_reducible refine And.intro ?_ ?_) | (with_reducible intro _))); all_goals refine R.Lft.mk ?_)
  all_goals first
    | exact ⟨by rw [stG_f fun h => by have := h.n1; have := h.n2; have := h.n3; have := h.n4; have := h.s0; have := h.s1; simp only [e1, e0] at *; first | contradiction | omega], R.Own.below R.ohm⟩
    | skip
  rename_i a1 a2 a3 a4 a5
  rw [e0] at a2
  rw [e1] at a3
  refine R.WO_call1 rfl rfl R.vv ?_
  refine (sorted_any g.st.A g.st.n g.st.c g.st.L _ (R.Own.inpIn R.ohm hA) hal (by omega) (by omega)).mono ?_
  rintro _ w3 ⟨⟨b, rfl, hb⟩, hb3⟩
  have hM := R.Own.call R.ohm hb3
  refine ⟨_, rfl, ?_⟩
  (refine R.stepU ?_; (repeat' (first | (with_reducible refine And.intro ?_ ?_) | (with_reducible intro _))); all_goals refine R.Lft.mk ?_)
  refine ⟨?_, R.Own.below R.ohm⟩
  cases b with
  | true => rw [stG_t ⟨by omega, by omega, by omega, by omega, Decidable.not_not.1 a2, Decidable.not_not.1 a3, hb.1 rfl⟩]
  | false => rw [stG_f fun h => by have := hb.2 h.up; cases this]
end Go.Proofs.YtdiodefooipojaaGreat
namespace Go.Proofs.YtdiodefooipojaaGreat
open Go.RowKit
open R (In64 InU64 lo64 nth)
set_option maxHeartbeats 4000000 in
theorem amay_any (g : Gph) (w : World) (hG : GGph w g) : Calls Tryz.prog 10 #[.agg (cGph g).toArray] w fun e w' => e = .returned (.bool (mayG g)) ∧ Below w.heap.size w w' := by
  have hM := R.Own.start [] w
  have hG0 := hG
  obtain ⟨⟨hA, hal, hac, hag⟩, ⟨hB, hbl, hbc, hbg⟩, ⟨hC, hcl, hcc, hcg⟩⟩ := hG
  refine R.calls_of_WC (fn := Tryz.f10) Tryz.func10 rfl Tryz.ntmps10 (Nat.le_of_ble_eq_true rfl) ?_
  (refine R.stepU ?_; (repeat' (first | (with_reducible refine And.intro ?_ ?_) | (with_reducible intro _))); all_goals refine R.Lft.mk ?_)
  rename_i gb _ _
  refine R.WO_call1 rfl rfl R.vv ?_
  refine (starts_any g _ (GGph.now R.ohm hG0)).mono ?_
  rintro _ w3 ⟨rfl, hb3⟩
  have hM := R.Own.call R.ohm hb3
  refine ⟨_, rfl, ?_⟩
  rcases Classical.em (StG g) with hs | hs
  · have n1 := hs.n1
    have n2 := hs.n2
    have n3 := hs.n3
    have n4 := hs.n4
    rw [stG_t hs]
    (refine R.stepU ?_; (repeat' (first | (with_reducible refine And.intro ?_ ?_) | (with_reducible intro _))); all_goals refine R.Lft.mk ?_)
    refine R.WC_loop (fun k : Nat => [(1, .pointer (some ⟨gb, 0, none⟩)), (2, .bool false), (3, .int .i64 ((g.st.n : Int) - 1)), (15, .int .i64 ((g.st.n : Int) - 1)), (16, .int .i64 (k : Nat))])
      (fun k w1 => k + 1 ≤ g.st.n ∧ R.Own [] w w1 [.blk gb 34 (cGph g)] ∧ ∀ v i : Nat, v < k → nth g.st.L v ≤ (i : Nat) → ((i : Nat) : Int) < nth g.st.L (v + 1) → okArc g v i) (fun k => g.st.n - k) ⟨0, ⟨rfl, rfl, rfl, rfl, rfl, trivial⟩, n1, hM, fun v i hv => absurd hv (Nat.not_lt_zero _)⟩ ?_
    clear hM
    rintro k f w1 ⟨hk, hM, hall⟩
    by_cases hlt : k + 1 < g.st.n
    · have ek : ((k : Int) + 1).toNat = k + 1 := by omega
      have hlo := hs.lo (v := k) (by omega)
      have hup := hs.up k hlt
      have hhi := hs.hi (v := k + 1) (by omega)
      (refine R.stepU ?_; (repeat' (first | (with_reducible refine And.intro ?_ ?_) | (with_reducible intro _))); all_goals refine R.Lft.mk ?_)
      refine R.WC_loop (fun j : Nat => [(1, .pointer (some ⟨gb, 0, none⟩)), (2, .bool false), (3, .int .i64 ((g.st.n : Int) - 1)), (4, .int .i64 (k : Nat)), (5, .int .i64 (j : Nat)), (15, .int .i64 ((g.st.n : Int) - 1)), (16, .int .i64 (k : Nat))])
        (fun j w1 => nth g.st.L k ≤ (j : Nat) ∧ ((j : Nat) : Int) ≤ nth g.st.L (k + 1) ∧ R.Own [] w w1 [.blk gb 34 (cGph g)] ∧ ∀ i : Nat, nth g.st.L k ≤ (i : Nat) → i < j → okArc g k i) (fun j => g.hd.n - j) ⟨(nth g.st.L k).toNat, ⟨rfl, rfl, rfl, rfl, R.viaI rfl (by omega), rfl, rfl, trivial⟩, by omega, by omega, R.ohm, fun i h1 h2 => by omega⟩ ?_
      clear hM
      rintro j f w2 ⟨hj1, hj2, hM, harc⟩
      by_cases hjt : ((j : Nat) : Int) < nth g.st.L (k + 1)
      · have hno : ¬ okArc g k j → mayG g = false := fun h => mayG_f fun hm => h (hm.arc k j hlt hj1 hjt)
        have ej : ((j : Int) - 1).toNat = j - 1 := by omega
        have hjt' : ((j : Nat) : Int) < nth g.st.L ((k : Int) + 1).toNat := by rw [ek]; exact hjt
        by_cases hjk : nth g.st.L k < (j : Nat)
        · (refine R.stepU ?_; (repeat' (first | (with_reducible refine And.intro ?_ ?_) | (with_reducible intro _))); all_goals refine R.Lft.mk ?_)
          all_goals first
            | exact ⟨by rw [hno fun h => by obtain ⟨q1, q2, q3, q4, q5⟩ := h; have q5 := q5 hjk; (try simp only [ej] at *); omega], R.Own.below R.ohm⟩
            | skip
          rename_i b1 b2 b3 b4 b5
          rw [ej] at b5
          refine ⟨j + 1, ⟨rfl, rfl, rfl, rfl, R.viaI rfl (by omega), rfl, rfl, trivial⟩, ⟨by omega, by omega, R.ohm, fun i h1 h2 => ?_⟩, by omega⟩
          rcases Nat.lt_or_ge i j with c | c
          · exact harc i h1 c
          · obtain rfl : i = j := by omega
            exact ⟨by omega, by omega, by omega, by omega, fun _ => by omega⟩
        · (refine R.stepU ?_; (repeat' (first | (with_reducible refine And.intro ?_ ?_) | (with_reducible intro _))); all_goals refine R.Lft.mk ?_)
          all_goals first
            | exact ⟨by rw [hno fun h => by obtain ⟨q1, q2, q3, q4, q5⟩ := h; omega], R.Own.below R.ohm⟩
            | skip
          rename_i b1 b2 b3 b4
          refine ⟨j + 1, ⟨rfl, rfl, rfl, rfl, R.viaI rfl (by omega), rfl, rfl, trivial⟩, ⟨by omega, by omega, R.ohm, fun i h1 h2 => ?_⟩, by omega⟩
          rcases Nat.lt_or_ge i j with c | c
          · exact harc i h1 c
          · obtain rfl : i = j := by omega
            exact ⟨by omega, by omega, by omega, by omega, fun h => absurd h hjk⟩
      · have hjt' : ¬ ((j : Nat) : Int) < nth g.st.L ((k : Int) + 1).toNat := by rw [ek]; exact hjt
        (refine R.stepU ?_; (repeat' (first | (with_reducible refine And.intro ?_ ?_) | (with_reducible intro _))); all_goals refine R.Lft.mk ?_)
        refine ⟨k + 1, ⟨rfl, rfl, rfl, rfl, R.viaI rfl (by omega), trivial⟩, ⟨by omega, R.ohm, fun v i hv h1 h2 => ?_⟩, by omega⟩
        rcases Nat.lt_or_ge v k with c | c
        · exact hall v i c h1 h2
        · obtain rfl : v = k := by omega
          exact harc i h1 (by omega)
    · (refine R.stepU ?_; (repeat' (first | (with_reducible refine And.intro ?_ ?_) | (with_reducible intro _))); all_goals refine R.Lft.mk ?_)
      rw [mayG_t { hs with arc := fun v i hv h1 h2 => hall v i (by omega) h1 h2 }]
      exact ⟨rfl, R.Own.below R.ohm⟩
  · rw [stG_f hs, mayG_f fun h => hs h.toStG]
    (refine R.stepU ?_; (repeat' (first | (with_reducible refine And.intro ?_ ?_) | (with_reducible intro _))); all_goals refine R.Lft.mk ?_; (all_goals (try (exact ⟨rfl, R.Own.below (by assumption)⟩))))
end Go.Proofs.YtdiodefooipojaaGreat
namespace Go.Proofs.YtdiodefooipojaaGreat
open Go.RowKit
open R (In64 InU64 lo64 nth)
end Go.Proofs.YtdiodefooipojaaGreat
namespace Go.Proofs.YtdiodefooipojaaGreat
open Go.RowKit
open R (In64 InU64 lo64 nth)
/-- A vertex's arcs, as items: the weight is the key. -/
def outT (g : Gph) (v : Nat) (k : Nat) : List Item := (List.range k).map fun j => ⟨nth g.wt.L ((nth g.st.L v).toNat + j), nth g.hd.L ((nth g.st.L v).toNat + j)⟩
def degG (g : Gph) (v : Nat) : Nat := (nth g.st.L (v + 1)).toNat - (nth g.st.L v).toNat
theorem outT_len (g : Gph) (v k : Nat) : (outT g v k).length = k := by simp [outT]
theorem outT_nth (g : Gph) (v : Nat) {k j : Nat} (h : j < k) : nth (outT g v k) j = ⟨nth g.wt.L ((nth g.st.L v).toNat + j), nth g.hd.L ((nth g.st.L v).toNat + j)⟩ := by
  rw [R.nth_eq (by rw [outT_len]; exact h)]
  simp [outT]
theorem outT_succ (g : Gph) (v k : Nat) : outT g v (k + 1) = outT g v k ++ [⟨nth g.wt.L ((nth g.st.L v).toNat + k), nth g.hd.L ((nth g.st.L v).toNat + k)⟩] := by
  unfold outT
  rw [List.range_succ, List.map_append]
  rfl
section
variable (g : Gph) (v : Nat) (w : World) (hG : GGph w g) (hm : MayG g) (hv : v + 1 < g.st.n)
include hG hm hv
theorem aout_any : Calls Tryz.prog 33 #[.agg (cGph g).toArray, .int .i64 (v : Nat)] w fun e w' => ∃ A c, e = .returned (.slice A (degG g v) c) ∧ R.Gives w w' A (degG g v) c 61 2 ((outT g v (degG g v)).flatMap cItem) := by
  have hM := R.Own.start [] w
  have n2 := hm.n2
  have n3 := hm.n3
  have n4 := hm.n4
  have hlo := hm.lo (v := v) (by omega)
  have hup := hm.up v hv
  have hhi := hm.hi (v := v + 1) (by omega)
  have ek : ((v : Int) + 1).toNat = v + 1 := by omega
  obtain ⟨⟨hA, hal, hac, hag⟩, ⟨hB, hbl, hbc, hbg⟩, ⟨hC, hcl, hcc, hcg⟩⟩ := hG
  have hdg : degG g v = (nth g.st.L (v + 1)).toNat - (nth g.st.L v).toNat := rfl
  obtain ⟨s, hs⟩ : ∃ s, (nth g.st.L v).toNat = s := ⟨_, rfl⟩
  refine R.calls_of_WC (fn := Tryz.f33) Tryz.func33 rfl Tryz.ntmps33 (Nat.le_of_ble_eq_true rfl) ?_
  (refine R.stepU ?_; (repeat' (first | (with_reducible refine And.intro ?_ ?_) | (with_reducible intro _))); all_goals refine R.Lft.mk ?_)
  rename_i gb _ hM
  refine R.WC_loop (fun i : Nat × Option Addr × Nat => [(1, .int .i64 (v : Nat)), (2, .pointer (some ⟨gb, 0, none⟩)), (4, .slice none 0 0), (5, .slice i.2.1 i.1 i.2.2), (6, .int .i64 ((s + i.1 : Nat) : Int))])
    (fun i w1 => i.1 ≤ degG g v ∧ R.Own [] w w1 [.row i.2.1 i.1 i.2.2 61 2 ((outT g v i.1).flatMap cItem), .blk gb 34 (cGph g)]) (fun i => degG g v - i.1) ⟨(0, none, 0), ⟨rfl, rfl, rfl, rfl, R.viaI rfl (by dsimp only; omega), trivial⟩, Nat.zero_le _, R.Own.nil hM _ _⟩ ?_
  clear hM
  rintro ⟨i, A1, c1⟩ f w2 ⟨hi, hM⟩
  dsimp only at hi hM ⊢
  have hsu := outT_succ g v i
  rw [hs] at hsu
  by_cases hlt : i < degG g v
  · have hlt' : ((s + i : Nat) : Int) < nth g.st.L ((v : Int) + 1).toNat := by rw [ek]; omega
    have hb1 : s + i < g.hd.n := by omega
    (refine R.stepU ?_; (repeat' (first | (with_reducible refine And.intro ?_ ?_) | (with_reducible intro _))); all_goals refine R.Lft.mk ?_)
    refine R.WC_planD1 [(0, false), (1, false), (2, false), (3, false), (4, false), (5, false), (6, false), (7, false), (8, false), (9, false), (10, false), (11, false), (12, true), (13, true), (14, false)] R.mixed (by decide +kernel) R.ohm ?_
    (refine R.stepU ?_; (repeat' (first | (with_reducible refine And.intro ?_ ?_) | (with_reducible intro _))); all_goals refine R.Lft.mk ?_)
    rename_i A2 c2 _ hM
    refine ⟨(i + 1, A2, c2), ⟨rfl, rfl, rfl, rfl, R.viaI rfl (by dsimp only; omega), trivial⟩, ⟨by dsimp only; omega, ?_⟩, by dsimp only; omega⟩
    dsimp only
    rw [hsu]
    exact hM
  · obtain rfl : i = degG g v := by omega
    have hlt' : ¬ ((s + degG g v : Nat) : Int) < nth g.st.L ((v : Int) + 1).toNat := by rw [ek]; omega
    (refine R.stepU ?_; (repeat' (first | (with_reducible refine And.intro ?_ ?_) | (with_reducible intro _))); all_goals refine R.Lft.mk ?_)
    exact ⟨A1, c1, rfl, R.Own.gives R.ohm⟩
omit hv in
theorem asize_any : Calls Tryz.prog 11 #[.agg (cGph g).toArray] w fun e w' => e = .returned (.int .i64 ((g.st.n : Int) - 1)) ∧ Below w.heap.size w w' := by
  have hM := R.Own.start [] w
  have hn0 := hG.1.2.2.1
  have n1 := hm.n1
  refine R.calls_of_WC (fn := Tryz.f11) Tryz.func11 rfl Tryz.ntmps11 (Nat.le_of_ble_eq_true rfl) ?_
  (refine R.stepU ?_; (repeat' (first | (with_reducible refine And.intro ?_ ?_) | (with_reducible intro _))); all_goals refine R.Lft.mk ?_)
  refine R.WO_call1 rfl rfl R.vv ?_
  refine (amay_any g _ (GGph.now R.ohm hG)).mono ?_
  rintro _ w3 ⟨rfl, hb3⟩
  have hM := R.Own.call R.ohm hb3
  refine ⟨_, rfl, ?_⟩
  rw [mayG_t hm]
  (refine R.stepU ?_; (repeat' (first | (with_reducible refine And.intro ?_ ?_) | (with_reducible intro _))); all_goals refine R.Lft.mk ?_; (all_goals (try (exact ⟨rfl, R.Own.below (by assumption)⟩))))
theorem aOut_any : Calls Tryz.prog 15 #[.agg (cGph g).toArray, .int .i64 (v : Nat)] w fun e w' => ∃ A c, e = .returned (.slice A (degG g v) c) ∧ R.Gives w w' A (degG g v) c 61 2 ((outT g v (degG g v)).flatMap cItem) := by
  have hM := R.Own.start [] w
  have n2 := hm.n2
  have hv' : ¬ (g.st.n : Int) - 1 ≤ ((v : Nat) : Int) := by omega
  refine R.calls_of_WC (fn := Tryz.f15) Tryz.func15 rfl Tryz.ntmps15 (Nat.le_of_ble_eq_true rfl) ?_
  (refine R.stepU ?_; (repeat' (first | (with_reducible refine And.intro ?_ ?_) | (with_reducible intro _))); all_goals refine R.Lft.mk ?_)
  refine R.WO_call1 rfl rfl R.vv ?_
  refine (asize_any g _ (GGph.now R.ohm hG) hm).mono ?_
  rintro _ w3 ⟨rfl, hb3⟩
  have hM := R.Own.call R.ohm hb3
  refine ⟨_, rfl, ?_⟩
  (refine R.stepU ?_; (repeat' (first | (with_reducible refine And.intro ?_ ?_) | (with_reducible intro _))); all_goals refine R.Lft.mk ?_)
  refine R.WO_call2 rfl rfl R.vv R.vv ?_
  refine (aout_any g v _ (GGph.now R.ohm hG) hm hv).mono ?_
  rintro _ w4 ⟨A, c, rfl, hGv⟩
  have hM := R.Own.give R.ohm hGv
  refine ⟨_, rfl, ?_⟩
  (refine R.stepU ?_; (repeat' (first | (with_reducible refine And.intro ?_ ?_) | (with_reducible intro _))); all_goals refine R.Lft.mk ?_)
  exact ⟨A, c, rfl, R.Own.gives R.ohm⟩
end
end Go.Proofs.YtdiodefooipojaaGreat
namespace Go.Proofs.YtdiodefooipojaaGreat
open Go.RowKit
open R (In64 InU64 lo64 nth)

/-- An item that leads there: its key; -1 where there is none. -/
def arcF (L : List Item) (u : Int) : Int := match L.find? (fun x => decide (x.at_ = u)) with
  | some x => x.key
  | none => -1
theorem arcF_at {L : List Item} {u : Int} {k : Nat} (hk : k < L.length) (h1 : ∀ j, j < k → (nth L j).at_ ≠ u) (h2 : (nth L k).at_ = u) : arcF L u = (nth L k).key := by
  have e : L.find? (fun x => decide (x.at_ = u)) = some (nth L k) := by
    rw [List.find?_eq_some_iff_append]
    refine ⟨decide_eq_true h2, L.take k, L.drop (k + 1), ?_, fun a ha => ?_⟩
    · rw [R.nth_eq hk, ← List.drop_eq_getElem_cons hk, List.take_append_drop]
    · obtain ⟨q, hq, rfl⟩ := List.getElem_of_mem ha
      rw [List.length_take] at hq
      have := h1 q (by omega)
      rw [R.nth_eq (by omega)] at this
      rw [List.getElem_take]
      simpa using this
  unfold arcF
  rw [e]
theorem arcF_none {L : List Item} {u : Int} (h : ∀ j, j < L.length → (nth L j).at_ ≠ u) : arcF L u = -1 := by
  have e : L.find? (fun x => decide (x.at_ = u)) = none := by
    rw [List.find?_eq_none]
    intro x hx
    obtain ⟨q, hq, rfl⟩ := List.getElem_of_mem hx
    have := h q hq
    rw [R.nth_eq hq] at this
    simpa using this
  unfold arcF
  rw [e]
/-- Items whose ends rise. -/
def riseI (L : List Item) : Prop := ∀ i j, i < j → j < L.length → (nth L i).at_ < (nth L j).at_
theorem outT_rise {g : Gph} (hm : MayG g) {v : Nat} (hv : v + 1 < g.st.n) : riseI (outT g v (degG g v)) := fun i j hij hj => by
  rw [outT_len] at hj
  have hlo := hm.lo (v := v) (by omega)
  have hup := hm.up v hv
  have key : ∀ d, i + d + 1 ≤ j → (nth (outT g v (degG g v)) i).at_ < (nth (outT g v (degG g v)) (i + d + 1)).at_ := fun d => by
    induction d with
    | zero =>
      intro h
      rw [outT_nth g v (by omega), outT_nth g v (by omega)]
      have := (hm.arc v ((nth g.st.L v).toNat + (i + 0 + 1)) hv (by omega) (by unfold degG at hj; omega)).2.2.2.2 (by omega)
      rw [show (nth g.st.L v).toNat + (i + 0 + 1) - 1 = (nth g.st.L v).toNat + i by omega] at this
      exact this
    | succ d ih =>
      intro h
      have h1 := ih (by omega)
      rw [outT_nth g v (by omega), outT_nth g v (by omega)] at h1 ⊢
      have := (hm.arc v ((nth g.st.L v).toNat + (i + (d + 1) + 1)) hv (by omega) (by unfold degG at hj; omega)).2.2.2.2 (by omega)
      rw [show (nth g.st.L v).toNat + (i + (d + 1) + 1) - 1 = (nth g.st.L v).toNat + (i + d + 1) by omega] at this
      dsimp only at h1 ⊢
      omega
  have := key (j - i - 1) (by omega)
  rwa [show i + (j - i - 1) + 1 = j by omega] at this
theorem outT_key {g : Gph} (hm : MayG g) {v : Nat} (hv : v + 1 < g.st.n) {i : Nat} (hi : i < degG g v) : 0 ≤ (nth (outT g v (degG g v)) i).key := by
  have hlo := hm.lo (v := v) (by omega)
  have hup := hm.up v hv
  rw [outT_nth g v hi]
  exact (hm.arc v ((nth g.st.L v).toNat + i) hv (by omega) (by unfold degG at hi; omega)).2.2.1
instance con_arcc (x : Item) (u : Int) : R.ConB Tryz.prog 28 #[.agg (cItem x).toArray, .int .i64 u] Unit (fun _ _ => True) (fun _ => .int .i64 (cmpZ x.at_ u)) := ⟨fun _ w _ => by
  have hM := R.Own.start [] w
  refine R.calls_of_WC (fn := Tryz.f28) Tryz.func28 rfl Tryz.ntmps28 (Nat.le_of_ble_eq_true rfl) ?_
  (refine R.stepU ?_; (repeat' (first | (with_reducible refine And.intro ?_ ?_) | (with_reducible intro _))); all_goals refine R.Lft.mk ?_; (all_goals (try (exact ⟨rfl, R.Own.below (by assumption)⟩))))⟩
theorem cmpZ_ltc {x u : Int} : cmpZ x u < 0 ↔ x < u := by
  rcases Int.lt_trichotomy x u with h | h | h
  · rw [cmpZ_lt h]; exact ⟨fun _ => h, fun _ => by decide⟩
  · subst h; rw [cmpZ_self]; omega
  · rw [cmpZ_gt h]; omega
theorem cmpZ_eqc {x u : Int} : cmpZ x u = 0 ↔ x = u := by
  rcases Int.lt_trichotomy x u with h | h | h
  · rw [cmpZ_lt h]; omega
  · subst h; rw [cmpZ_self]; simp
  · rw [cmpZ_gt h]; omega
set_option maxHeartbeats 1000000 in
attribute [local irreducible] cmpZ in
theorem searchI (A : Option Addr) (n c : Nat) (L : List Item) (u : Int) (w : World) (hA : R.Inp [] w A n 2 (L.flatMap cItem)) (hn : n = L.length) (hb : n ≤ 1000000000) (hr : riseI L) :
    Calls Tryz.prog 27 #[.slice A n c, .int .i64 u, .func (.func 28) #[] #[]] w fun e w' => (∃ (i : Nat) (b : Bool), e = .returned (.tuple #[.int .i64 (i : Nat), .bool b]) ∧ (b = true → i < n ∧ (nth L i).at_ = u) ∧ (b = false → ∀ j, j < n → (nth L j).at_ ≠ u)) ∧ Below w.heap.size w w' := by
  have hM := R.Own.start [] w
  refine R.calls_of_WC (fn := Tryz.f27) Tryz.func27 rfl Tryz.ntmps27 (Nat.le_of_ble_eq_true rfl) ?_
  (refine R.stepU ?_; (repeat' (first | (with_reducible refine And.intro ?_ ?_) | (with_reducible intro _))); all_goals refine R.Lft.mk ?_)
  refine R.WC_loop (fun (i : Nat × Nat) => [(0, .slice A n c), (1, .int .i64 u), (2, .func (.func 28) #[] #[]), (6, .int .i64 0), (7, .bool false), (8, .int .i64 (n : Nat)), (9, .int .i64 (i.1 : Nat)), (10, .int .i64 (i.2 : Nat))])
    (fun i w1 => i.1 ≤ i.2 ∧ i.2 ≤ n ∧ R.Own [] w w1 [] ∧ (∀ j, j < i.1 → (nth L j).at_ < u) ∧ (∀ j, i.2 ≤ j → j < L.length → u ≤ (nth L j).at_)) (fun i => i.2 - i.1)
    ⟨(0, n), ⟨rfl, rfl, rfl, rfl, rfl, rfl, rfl, rfl, trivial⟩, by simp, by simp, hM, by simp, by intro j h1 h2; simp at h1; omega⟩ ?_
  clear hM
  rintro ⟨i, j⟩ f w1 ⟨hij, hj, hM, h1, h2⟩
  simp only at hij hj hM h1 h2 ⊢
  by_cases hlt : i < j
  · obtain ⟨h, hh⟩ : ∃ h : Nat, ((i : Int) + j) / 2 = h := ⟨(i + j) / 2, by omega⟩
    have hh1 : i ≤ h := by omega
    have hh2 : h < j := by omega
    have hth : ((h : Nat) : Int).toNat = h := Int.toNat_natCast h
    (refine R.stepV ?_; (repeat' (first | (with_reducible refine And.intro ?_ ?_) | (with_reducible intro _))); all_goals refine R.Lft.mk ?_)
    · rename_i hx
      rw [hh, hth] at hx
      have hx := cmpZ_ltc.1 hx
      exact ⟨(h + 1, j), ⟨rfl, rfl, rfl, rfl, rfl, rfl, R.viaI rfl (by simp only; omega), rfl, trivial⟩, ⟨by simp only; omega, hj, R.ohm, fun q hq => by
        simp only at hq
        rcases Nat.lt_or_ge q h with g | g
        · have := hr q h g (by omega)
          omega
        · obtain rfl : q = h := by omega
          exact hx, h2⟩, by simp only; omega⟩
    · rename_i hx
      rw [hh, hth] at hx
      have hx : ¬ (nth L h).at_ < u := fun g => hx (cmpZ_ltc.2 g)
      exact ⟨(i, h), ⟨rfl, rfl, rfl, rfl, rfl, rfl, rfl, R.viaI rfl (by simp only; omega), trivial⟩, ⟨by simp only; omega, by simp only; omega, R.ohm, h1, fun q hq hq2 => by
        simp only at hq
        rcases Nat.lt_or_ge h q with g | g
        · have := hr h q g hq2
          omega
        · obtain rfl : q = h := by omega
          omega⟩, by simp only; omega⟩
  · obtain rfl : i = j := by omega
    by_cases hin : i < n
    · have hall : (nth L i).at_ ≠ u → ∀ j, j < n → (nth L j).at_ ≠ u := fun hne q hq e => by
        rcases Nat.lt_trichotomy q i with g | g | g
        · have := h1 q g
          omega
        · subst g
          exact hne e
        · have h3 := hr i q g (by omega)
          have h4 := h2 i (Nat.le_refl _) (by omega)
          omega
      by_cases he : (nth L i).at_ = u
      · have hc : cmpZ (nth L i).at_ u = 0 := cmpZ_eqc.2 he
        (refine R.stepU ?_; (repeat' (first | (with_reducible refine And.intro ?_ ?_) | (with_reducible intro _))); all_goals refine R.Lft.mk ?_)
        exact ⟨⟨i, true, by rw [decide_eq_true hc], fun _ => ⟨hin, he⟩, fun h => (by cases h)⟩, R.Own.below (by assumption)⟩
      · have hc : ¬ cmpZ (nth L i).at_ u = 0 := fun g => he (cmpZ_eqc.1 g)
        (refine R.stepU ?_; (repeat' (first | (with_reducible refine And.intro ?_ ?_) | (with_reducible intro _))); all_goals refine R.Lft.mk ?_)
        exact ⟨⟨i, false, by rw [decide_eq_false hc], fun h => (by cases h), fun _ => hall he⟩, R.Own.below (by assumption)⟩
    · have hall : ∀ j, j < n → (nth L j).at_ ≠ u := fun q hq e => by
        have := h1 q (by omega)
        omega
      (refine R.stepU ?_; (repeat' (first | (with_reducible refine And.intro ?_ ?_) | (with_reducible intro _))); all_goals refine R.Lft.mk ?_)
      exact ⟨⟨i, false, rfl, fun h => (by cases h), fun _ => hall⟩, R.Own.below (by assumption)⟩
section
variable (g : Gph) (v : Nat) (u : Int) (w : World) (hG : GGph w g) (hm : MayG g) (hv : v + 1 < g.st.n)
include hG hm hv
theorem aarc_any : Calls Tryz.prog 12 #[.agg (cGph g).toArray, .int .i64 (v : Nat), .int .i64 u] w fun e w' => e = .returned (.tuple #[.int .i64 (if 0 ≤ arcF (outT g v (degG g v)) u then arcF (outT g v (degG g v)) u else 0), .bool (decide (0 ≤ arcF (outT g v (degG g v)) u))]) ∧ Below w.heap.size w w' := by
  have hM := R.Own.start [] w
  have hdl : degG g v ≤ 200000 := by
    have := hm.n3
    have := hm.hi (v := v + 1) (by omega)
    unfold degG
    omega
  refine R.calls_of_WC (fn := Tryz.f12) Tryz.func12 rfl Tryz.ntmps12 (Nat.le_of_ble_eq_true rfl) ?_
  (refine R.stepU ?_; (repeat' (first | (with_reducible refine And.intro ?_ ?_) | (with_reducible intro _))); all_goals refine R.Lft.mk ?_)
  rename_i hM
  refine R.WO_call2 rfl rfl R.vv R.vv ?_
  refine (aOut_any g v _ (GGph.now hM hG) hm hv).mono ?_
  rintro _ w3 ⟨A, c, rfl, hGv⟩
  have hM := R.Own.give hM hGv
  refine ⟨_, rfl, ?_⟩
  (refine R.stepU ?_; (repeat' (first | (with_reducible refine And.intro ?_ ?_) | (with_reducible intro _))); all_goals refine R.Lft.mk ?_)
  refine R.WO_call3 rfl rfl R.vv R.vv R.vv ?_
  refine (searchI A (degG g v) c (outT g v (degG g v)) u _ (R.Own.inp R.ohm R.memb) (outT_len g v _).symm (by omega) (outT_rise hm hv)).mono ?_
  rintro _ w4 ⟨⟨i, b, rfl, k1, k2⟩, hb4⟩
  have hM := hM.call hb4
  refine ⟨_, rfl, ?_⟩
  have hol := outT_len g v (degG g v)
  cases b with
  | true =>
    obtain ⟨i1, i2⟩ := k1 rfl
    have hk := outT_key hm hv i1
    have he : arcF (outT g v (degG g v)) u = (nth (outT g v (degG g v)) i).key := arcF_at (by omega) (fun j hj e => by
      have := outT_rise hm hv j i hj (by omega)
      omega) i2
    rw [he, if_pos hk, decide_eq_true hk]
    (refine R.stepU ?_; (repeat' (first | (with_reducible refine And.intro ?_ ?_) | (with_reducible intro _))); all_goals refine R.Lft.mk ?_)
    exact ⟨rfl, R.Own.below (by assumption)⟩
  | false =>
    rw [arcF_none (by rw [hol]; exact k2 rfl)]
    (refine R.stepU ?_; (repeat' (first | (with_reducible refine And.intro ?_ ?_) | (with_reducible intro _))); all_goals refine R.Lft.mk ?_)
    exact ⟨rfl, R.Own.below (by assumption)⟩
end
end Go.Proofs.YtdiodefooipojaaGreat
namespace Go.Proofs.YtdiodefooipojaaGreat
open Go.RowKit
open R (In64 InU64 lo64 nth)

theorem same_next {L M : List Int} {k : Nat} (h : ∀ i, i < k → nth L i = nth M i) (hk : nth L k = nth M k) : ∀ i, i < k + 1 → nth L i = nth M i := fun i hi => by
  rcases Nat.lt_or_ge i k with h1 | h1
  · exact h i h1
  · obtain rfl : i = k := by omega
    exact hk
theorem same_list {L M : List Int} (hl : L.length = M.length) (h : ∀ i, i < L.length → nth L i = nth M i) : L = M :=
  List.ext_getElem hl fun i h1 h2 => by rw [← R.nth_eq h1, ← R.nth_eq h2]; exact h i h1
/-- Are lists of numbers the same? -/
theorem same01 (A B : Option Addr) (n c m d : Nat) (L M : List Int) (w : World) (hA : R.Inp [] w A n 1 (L.flatMap R.cI)) (hn : n = L.length) (hnb : n ≤ 9223372036854775807) (hB : R.Inp [] w B m 1 (M.flatMap R.cI)) (hm : m = M.length) : Calls Tryz.prog 25 #[.slice A n c, .slice B m d] w fun e w' => e = .returned (.bool (decide (L = M))) ∧ Below w.heap.size w w' := by
  have hM := R.Own.start [] w
  by_cases hl : n = m
  · refine R.calls_of_WC (fn := Tryz.f25) Tryz.func25 rfl Tryz.ntmps25 (Nat.le_of_ble_eq_true rfl) ?_
    (refine R.stepV ?_; (repeat' (first | (with_reducible refine And.intro ?_ ?_) | (with_reducible intro _))); all_goals refine R.Lft.mk ?_)
    refine R.WC_loop (fun k : Nat => [(0, .slice A n c), (1, .slice B m d), (4, .bool false), (5, .int .i64 (k : Nat))])
      (fun k w2 => k ≤ n ∧ R.Own [] w w2 [] ∧ ∀ i, i < k → nth L i = nth M i) (fun k => n - k) ⟨0, ⟨rfl, rfl, rfl, rfl, trivial⟩, by omega, hM, fun i hi => absurd hi (Nat.not_lt_zero _)⟩ ?_
    clear hM
    rintro k f w2 ⟨hk, hM, hall⟩
    by_cases hlt : k < n
    · (refine R.stepV ?_; (repeat' (first | (with_reducible refine And.intro ?_ ?_) | (with_reducible intro _))); all_goals refine R.Lft.mk ?_)
      · have h : nth L k ≠ nth M k := by assumption
        rw [decide_eq_false (fun g : L = M => h (by rw [g]))]
        exact ⟨rfl, R.Own.below (by assumption)⟩
      · have h : ¬ nth L k ≠ nth M k := by assumption
        exact ⟨k + 1, ⟨rfl, rfl, rfl, R.viaI rfl (by omega), trivial⟩, ⟨by omega, by assumption, same_next hall (by simpa using h)⟩, by omega⟩
    · obtain rfl : k = n := by omega
      (refine R.stepV ?_; (repeat' (first | (with_reducible refine And.intro ?_ ?_) | (with_reducible intro _))); all_goals refine R.Lft.mk ?_)
      rw [decide_eq_true (same_list (by omega) (by rw [← hn]; exact hall))]
      exact ⟨rfl, R.Own.below (by assumption)⟩
  · rw [decide_eq_false (fun g : L = M => hl (by rw [hn, hm, g]))]
    refine R.calls_of_WC (fn := Tryz.f25) Tryz.func25 rfl Tryz.ntmps25 (Nat.le_of_ble_eq_true rfl) ?_
    (refine R.stepV ?_; (repeat' (first | (with_reducible refine And.intro ?_ ?_) | (with_reducible intro _))); all_goals refine R.Lft.mk ?_)
    all_goals first
      | exact ⟨rfl, R.Own.below (by assumption)⟩
      | (exfalso; omega)
theorem GGph.lasts {W : World} {g : Gph} (h : GGph W g) : R.Lasts GGph W g := fun _ hb => ⟨⟨h.1.1.ext hb, h.1.2⟩, ⟨h.2.1.1.ext hb, h.2.1.2⟩, ⟨h.2.2.1.ext hb, h.2.2.2⟩⟩
instance con_amay (g : Gph) : R.ConB Tryz.prog 10 #[.agg (cGph g).toArray] Unit (fun _ w => GGph w g) (fun _ => .bool (mayG g)) := ⟨fun _ w h => amay_any g w h⟩
def sizeG (g : Gph) : Int := (g.st.n : Int) - 1
noncomputable def sizeB (g : Gph) : Int := if mayG g then sizeG g else 0
instance con_asize (g : Gph) : R.ConB Tryz.prog 11 #[.agg (cGph g).toArray] Unit (fun _ w => GGph w g) (fun _ => .int .i64 (sizeB g)) := ⟨fun _ w h => by
  have hM := R.Own.start [] w
  have hL := h.lasts
  have hn := h.1.2.2.1
  unfold sizeB sizeG
  cases hm : mayG g with
  | true =>
    have n1 := (mayG_p hm).n1
    rw [if_pos rfl]
    refine R.calls_of_WC (fn := Tryz.f11) Tryz.func11 rfl Tryz.ntmps11 (Nat.le_of_ble_eq_true rfl) ?_
    (refine R.stepU ?_; (repeat' (first | (with_reducible refine And.intro ?_ ?_) | (with_reducible intro _))); all_goals refine R.Lft.mk ?_)
    all_goals first
      | exact ⟨rfl, R.Own.below (by assumption)⟩
      | exact nbw_t hm (by assumption)
  | false =>
    rw [if_neg (by decide)]
    refine R.calls_of_WC (fn := Tryz.f11) Tryz.func11 rfl Tryz.ntmps11 (Nat.le_of_ble_eq_true rfl) ?_
    (refine R.stepU ?_; (repeat' (first | (with_reducible refine And.intro ?_ ?_) | (with_reducible intro _))); all_goals refine R.Lft.mk ?_)
    all_goals first
      | exact ⟨rfl, R.Own.below (by assumption)⟩
      | exact nbw_f hm (by assumption)⟩
theorem aOut_no (g : Gph) (v : Int) (w : World) (h : GGph w g) (hv : v < 0 ∨ sizeB g ≤ v) : Calls Tryz.prog 15 #[.agg (cGph g).toArray, .int .i64 v] w fun e w' => e = .returned (.slice none 0 0) ∧ Below w.heap.size w w' := by
  have hM := R.Own.start [] w
  have hL := h.lasts
  refine R.calls_of_WC (fn := Tryz.f15) Tryz.func15 rfl Tryz.ntmps15 (Nat.le_of_ble_eq_true rfl) ?_
  (refine R.stepU ?_; (repeat' (first | (with_reducible refine And.intro ?_ ?_) | (with_reducible intro _))); all_goals refine R.Lft.mk ?_)
  all_goals first
    | exact ⟨rfl, R.Own.below (by assumption)⟩
    | (exfalso; omega)
def eqG (a b : Gph) : Bool := decide (a.st.L = b.st.L) && (decide (a.hd.L = b.hd.L) && decide (a.wt.L = b.wt.L))
theorem rsame_any (a b : Gph) (w : World) (ha : GGph w a) (hb : GGph w b) (hs : a.st.n ≤ 1000000 ∧ a.hd.n ≤ 1000000 ∧ a.wt.n ≤ 1000000) : Calls Tryz.prog 8 #[.agg (cGph a).toArray, .agg (cGph b).toArray] w fun e w' => e = .returned (.bool (eqG a b)) ∧ Below w.heap.size w w' := by
  have hM := R.Own.start [] w
  refine R.calls_of_WC (fn := Tryz.f8) Tryz.func8 rfl Tryz.ntmps8 (Nat.le_of_ble_eq_true rfl) ?_
  (refine R.stepU ?_; (repeat' (first | (with_reducible refine And.intro ?_ ?_) | (with_reducible intro _))); all_goals refine R.Lft.mk ?_)
  rename_i hM
  refine R.WO_call2 rfl rfl R.vv R.vv ?_
  refine (same01 a.st.A b.st.A a.st.n a.st.c b.st.n b.st.c a.st.L b.st.L _ (hM.inpIn ha.1.1) ha.1.2.1 (by omega) (hM.inpIn hb.1.1) hb.1.2.1).mono ?_
  rintro _ w2 ⟨rfl, hb2⟩
  have hM := hM.call hb2
  refine ⟨_, rfl, ?_⟩
  by_cases n0 : ¬ a.st.L = b.st.L
  · rw [decide_eq_false n0]
    (refine R.stepU ?_; (repeat' (first | (with_reducible refine And.intro ?_ ?_) | (with_reducible intro _))); all_goals refine R.Lft.mk ?_)
    exact ⟨by unfold eqG; rw [decide_eq_false n0]; simp, R.Own.below (by assumption)⟩
  have e0 := Decidable.not_not.1 n0
  rw [decide_eq_true e0]
  (refine R.stepU ?_; (repeat' (first | (with_reducible refine And.intro ?_ ?_) | (with_reducible intro _))); all_goals refine R.Lft.mk ?_)
  rename_i hM
  refine R.WO_call2 rfl rfl R.vv R.vv ?_
  refine (same01 a.hd.A b.hd.A a.hd.n a.hd.c b.hd.n b.hd.c a.hd.L b.hd.L _ (hM.inpIn ha.2.1.1) ha.2.1.2.1 (by omega) (hM.inpIn hb.2.1.1) hb.2.1.2.1).mono ?_
  rintro _ w3 ⟨rfl, hb3⟩
  have hM := hM.call hb3
  refine ⟨_, rfl, ?_⟩
  by_cases n1 : ¬ a.hd.L = b.hd.L
  · rw [decide_eq_false n1]
    (refine R.stepU ?_; (repeat' (first | (with_reducible refine And.intro ?_ ?_) | (with_reducible intro _))); all_goals refine R.Lft.mk ?_)
    exact ⟨by unfold eqG; rw [decide_eq_false n1]; simp, R.Own.below (by assumption)⟩
  have e1 := Decidable.not_not.1 n1
  rw [decide_eq_true e1]
  (refine R.stepU ?_; (repeat' (first | (with_reducible refine And.intro ?_ ?_) | (with_reducible intro _))); all_goals refine R.Lft.mk ?_)
  rename_i hM
  refine R.WO_call2 rfl rfl R.vv R.vv ?_
  refine (same01 a.wt.A b.wt.A a.wt.n a.wt.c b.wt.n b.wt.c a.wt.L b.wt.L _ (hM.inpIn ha.2.2.1) ha.2.2.2.1 (by omega) (hM.inpIn hb.2.2.1) hb.2.2.2.1).mono ?_
  rintro _ w4 ⟨rfl, hb4⟩
  have hM := hM.call hb4
  refine ⟨_, rfl, ?_⟩
  (refine R.stepU ?_; (repeat' (first | (with_reducible refine And.intro ?_ ?_) | (with_reducible intro _))); all_goals refine R.Lft.mk ?_)
  exact ⟨by unfold eqG; rw [decide_eq_true e0, decide_eq_true e1]; rfl, R.Own.below (by assumption)⟩
instance con_rsame (a b : Gph) : R.ConB Tryz.prog 8 #[.agg (cGph a).toArray, .agg (cGph b).toArray] Unit (fun _ w => GGph w a ∧ GGph w b ∧ a.st.n ≤ 1000000 ∧ a.hd.n ≤ 1000000 ∧ a.wt.n ≤ 1000000) (fun _ => .bool (eqG a b)) := ⟨fun _ w h => rsame_any a b w h.1 h.2.1 h.2.2⟩
end Go.Proofs.YtdiodefooipojaaGreat
namespace Go.Proofs.YtdiodefooipojaaGreat
open Go.RowKit
open R (In64 InU64 lo64 nth)

/-- At how many of the first k edges a node ends. -/
def cntE (E : List Ed) (v : Nat) : Nat → Nat
  | 0 => 0
  | k + 1 => cntE E v k + if (nth E k).a = (v : Nat) ∨ (nth E k).b = (v : Nat) then 1 else 0
def degL (E : List Ed) (m k : Nat) : List Int := (List.range m).map fun v => ((cntE E v k : Nat) : Int)
theorem cntE_le (E : List Ed) (v : Nat) : ∀ k, cntE E v k ≤ k
  | 0 => Nat.le_refl _
  | k + 1 => by
    have := cntE_le E v k
    unfold cntE
    split <;> omega
theorem degL_len (E : List Ed) (m k : Nat) : (degL E m k).length = m := by simp [degL]
theorem degL_nth {E : List Ed} {m k v : Nat} (h : v < m) : nth (degL E m k) v = ((cntE E v k : Nat) : Int) := by
  rw [R.nth_eq (by rw [degL_len]; exact h)]
  simp [degL]
theorem degL_zero (E : List Ed) (m : Nat) : degL E m 0 = List.replicate m 0 := by
  refine List.ext_getElem (by simp [degL]) fun i h1 h2 => ?_
  simp [degL, cntE]
theorem nth_setI {L : List Int} {v u : Nat} {x : Int} (hv : v < L.length) : nth (L.set v x) u = if v = u then x else nth L u := by
  unfold R.nth
  rw [List.getD_eq_getElem?_getD, List.getD_eq_getElem?_getD, List.getElem?_set]
  by_cases e : v = u
  · subst e; rw [if_pos rfl, if_pos hv, if_pos rfl]; rfl
  · rw [if_neg e, if_neg e]
theorem list_eqI {L L' : List Int} (hl : L.length = L'.length) (h : ∀ i, i < L.length → nth L i = nth L' i) : L = L' := List.ext_getElem hl fun i h1 h2 => by
  have := h i h1
  rwa [R.nth_eq h1, R.nth_eq h2] at this
theorem degL_succ {E : List Ed} {m k a b : Nat} (ha : (nth E k).a = (a : Nat)) (hb : (nth E k).b = (b : Nat)) (hab : a ≠ b) (ham : a < m) (hbm : b < m) : degL E m (k + 1) = ((degL E m k).set a (nth (degL E m k) a + 1)).set b (nth ((degL E m k).set a (nth (degL E m k) a + 1)) b + 1) := by
  refine list_eqI (by simp [degL]) fun v hv => ?_
  rw [degL_len] at hv
  rw [degL_nth hv, nth_setI (by rw [List.length_set, degL_len]; exact hbm), nth_setI (by rw [degL_len]; exact ham), nth_setI (by rw [degL_len]; exact ham), if_neg hab, degL_nth hv, degL_nth ham, degL_nth hbm]
  show (((cntE E v k + if (nth E k).a = (v : Nat) ∨ (nth E k).b = (v : Nat) then 1 else 0 : Nat)) : Int) = _
  rw [ha, hb]
  by_cases e1 : b = v
  · subst e1
    rw [if_pos (.inr rfl), if_pos rfl]
    omega
  · rw [if_neg e1]
    by_cases e2 : a = v
    · subst e2
      rw [if_pos (.inl rfl), if_pos rfl]
      omega
    · rw [if_neg e2, if_neg (by omega)]
      omega
theorem edge_ab {x : Nt} {i : Nat} (h : netB x = true) (hi : i < x.e.n) : ∃ a b : Nat, (nth x.e.L i).a = (a : Nat) ∧ (nth x.e.L i).b = (b : Nat) ∧ a ≠ b ∧ a < x.s.n ∧ b < x.s.n := by
  obtain ⟨h1, h2, h3, _⟩ := (netB_iff.1 h).2.2.2.2.1 i hi
  exact ⟨(nth x.e.L i).a.toNat, (nth x.e.L i).b.toNat, by omega, by omega, by omega, by omega, by omega⟩
theorem row_form {w : World} {A : Option Addr} {n c sz : Nat} {e : TypeId} {cs : List Value} (h : w.ownsRow 0 e sz (.slice A n c) n cs) (hn : 0 < n) : ∃ g, A = some ⟨g, 0, none⟩ := by
  rcases h.2 with ⟨hv, h0⟩ | ⟨g, cap, cur, hv, _, h1, h2, h3, h4, h5⟩
  · omega
  · injection hv with a1 a2 a3
    exact ⟨g, a1⟩
/-- Of each node, whether just one edge ends there. -/
def deadL (E : List Ed) (m k : Nat) : List Bool := (List.range m).map fun v => decide (((cntE E v k : Nat) : Int) = 1)
theorem deadL_succ (E : List Ed) (m k : Nat) : deadL E (m + 1) k = deadL E m k ++ [decide (((cntE E m k : Nat) : Int) = 1)] := by
  unfold deadL
  rw [List.range_succ, List.map_append]
  rfl
theorem deadL_len (E : List Ed) (m k : Nat) : (deadL E m k).length = m := by simp [deadL]
set_option maxHeartbeats 4000000 in
theorem dead_any (x : Nt) (w : World) (hG : GNt w x) (hb : netB x = true) : Calls Tryz.prog 17 #[.agg (cNt x).toArray] w fun e w' => ∃ A c, e = .returned (.slice A x.s.n c) ∧ R.Gives w w' A x.s.n c 4 1 ((deadL x.e.L x.s.n x.e.n).flatMap R.cB) := by
  have hM := R.Own.start [] w
  have hL := hG.lasts
  have hk := netB_e hb
  have hsn : x.s.n ≤ 200000 := (netB_iff.1 hb).1
  obtain ⟨⟨s1, s2, s3, -⟩, ⟨h1, h2, h3, -⟩, -⟩ := hG
  refine R.calls_of_WC (fn := Tryz.f17) Tryz.func17 rfl Tryz.ntmps17 (Nat.le_of_ble_eq_true rfl) ?_
  (refine R.stepV ?_; (repeat' (first | (with_reducible refine And.intro ?_ ?_) | (with_reducible intro _))); all_goals refine R.Lft.mk ?_)
  rename_i A _ hM
  refine R.WC_loop (fun k : Nat => [(2, .slice none 0 0), (3, .slice A x.s.n x.s.n), (14, .slice x.e.A x.e.n x.e.c), (15, .int .i64 (x.e.n : Nat)), (16, .int .i64 (k : Nat))])
    (fun k w2 => k ≤ x.e.n ∧ R.Own [] w w2 [.row A x.s.n x.s.n 3 1 ((degL x.e.L x.s.n k).flatMap R.cI)]) (fun k => x.e.n - k)
    ⟨0, ⟨rfl, rfl, rfl, rfl, rfl, trivial⟩, Nat.zero_le _, by rw [degL_zero]; exact R.Own.sub hM (List.sublist_append_left [_] _)⟩ ?_
  clear hM
  rintro k f w2 ⟨hkn, hM⟩
  by_cases hlt : k < x.e.n
  · obtain ⟨a, b, ha, hb2, hab, ham, hbm⟩ := edge_ab hb hlt
    obtain ⟨gA, rfl⟩ := row_form (R.Own.ok hM _ (.head _)) (by omega)
    have hat : (nth x.e.L k).a.toNat = a := by omega
    have hbt : (nth x.e.L k).b.toNat = b := by omega
    have hdl := degL_len x.e.L x.s.n k
    have c1 := cntE_le x.e.L a k
    have c2 := cntE_le x.e.L b k
    have d1 : nth (degL x.e.L x.s.n k) (nth x.e.L k).a.toNat = ((cntE x.e.L a k : Nat) : Int) := by rw [hat, degL_nth ham]
    have d2 : nth ((degL x.e.L x.s.n k).set (nth x.e.L k).a.toNat (nth (degL x.e.L x.s.n k) (nth x.e.L k).a.toNat + 1)) (nth x.e.L k).b.toNat = ((cntE x.e.L b k : Nat) : Int) := by
      rw [hat, hbt, nth_setI (by omega), if_neg hab, degL_nth hbm]
    have hl2 : ((degL x.e.L x.s.n k).set (nth x.e.L k).a.toNat (nth (degL x.e.L x.s.n k) (nth x.e.L k).a.toNat + 1)).length = x.s.n := by rw [List.length_set, hdl]
    (refine R.stepV ?_; (repeat' (first | (with_reducible refine And.intro ?_ ?_) | (with_reducible intro _))); all_goals refine R.Lft.mk ?_)
    rename_i hM
    rw [hat, hbt, ← degL_succ ha hb2 hab ham hbm] at hM
    exact ⟨k + 1, ⟨rfl, rfl, rfl, rfl, R.viaI rfl (by omega), trivial⟩, ⟨by omega, R.Own.tl hM⟩, by omega⟩
  · obtain rfl : k = x.e.n := by omega
    (refine R.stepV ?_; (repeat' (first | (with_reducible refine And.intro ?_ ?_) | (with_reducible intro _))); all_goals refine R.Lft.mk ?_)
    rename_i hM
    have hdl := degL_len x.e.L x.s.n x.e.n
    have hM := R.Own.nil hM 4 1
    refine R.WC_loop (fun i : Nat × Option Addr × Nat => [(2, .slice none 0 0), (6, .slice i.2.1 i.1 i.2.2), (35, .slice A x.s.n x.s.n), (36, .int .i64 (x.s.n : Nat)), (37, .int .i64 (i.1 : Nat))])
      (fun i w3 => i.1 ≤ x.s.n ∧ R.Own [] w w3 [.row i.2.1 i.1 i.2.2 4 1 ((deadL x.e.L i.1 x.e.n).flatMap R.cB), .row A x.s.n x.s.n 3 1 ((degL x.e.L x.s.n x.e.n).flatMap R.cI)]) (fun i => x.s.n - i.1)
      ⟨(0, none, 0), ⟨rfl, rfl, rfl, rfl, rfl, trivial⟩, Nat.zero_le _, hM⟩ ?_
    clear hM
    rintro ⟨i, B, d⟩ f w3 ⟨hi, hM⟩
    dsimp only at hi hM ⊢
    by_cases hlt2 : i < x.s.n
    · have hs := deadL_succ x.e.L i x.e.n
      have hl3 := deadL_len x.e.L i x.e.n
      have d3 : nth (degL x.e.L x.s.n x.e.n) i = ((cntE x.e.L i x.e.n : Nat) : Int) := degL_nth hlt2
      (refine R.stepV ?_; (repeat' (first | (with_reducible refine And.intro ?_ ?_) | (with_reducible intro _))); all_goals refine R.Lft.mk ?_)
      rename_i B2 d2 _ hM
      rw [d3, ← hs] at hM
      exact ⟨(i + 1, B2, d2), ⟨rfl, rfl, rfl, rfl, R.viaI rfl (by dsimp only; omega), trivial⟩, ⟨by dsimp only; omega, hM⟩, by dsimp only; omega⟩
    · obtain rfl : i = x.s.n := by omega
      (refine R.stepV ?_; (repeat' (first | (with_reducible refine And.intro ?_ ?_) | (with_reducible intro _))); all_goals refine R.Lft.mk ?_)
      exact ⟨_, _, rfl, R.Own.gives (by assumption)⟩
end Go.Proofs.YtdiodefooipojaaGreat
namespace Go.Proofs.YtdiodefooipojaaGreat
open Go.RowKit
open R (In64 InU64 lo64 nth)

section
variable {C : R.CallH} {o : Oper} {f : R.Fr} {F : List Nat} {W0 w : World} {K : Value → World → Prop} {l : List R.Res} {t : TypeId} {x y : Operand} {a : Int}
theorem WO_mkMap0 (hop : o.op = .makeMap t none) (hM : R.Own F W0 w l) (hk : ∀ b w', R.Own F W0 w' (.map b #[] 0 :: l) → K (.map (some b)) w') : R.WO Tryz.prog C o f w K := by
  refine R.WO_eff (v := .map (some w.heap.size)) (w' := w.alloc (.map #[] 0)) ?_ (hk _ _ (hM.add (World.grownBy_alloc w _ none) (heap_alloc_new w _) (fun k e => by cases e; exact Nat.le_refl _)))
  simp [execOp, hop, Instr.makeMap]
theorem wf64a (ha : In64 a) : (Lit.int .i64 a).wf = true := by
  unfold In64 at ha
  simp [Lit.wf, IntKind.min, IntKind.max, IntKind.signed, IntKind.bits]
  omega
theorem WO_lkNil (hop : o.op = .lookup 56 x y false) (hx : R.ev f x = .map none) (hy : R.ev f y = .int .i64 a) (ha : In64 a) (hk : K (.bool false) w) : R.WO Tryz.prog C o f w K := by
  have hi : Tryz.prog.underlying 3 = some (.int .i64) := by kernel_rfl
  have h := Go.Maps.look_nil (P := Tryz.prog) (w := w) false (Go.Maps.int_keyed hi) (show Tryz.prog.underlying 56 = some (.map 3 4) by kernel_rfl) (z := .bool false) (by kernel_rfl) (Go.Maps.keyOf_int_mk hi (wf64a ha))
  refine R.WO_val ?_ hk
  simp [execOp, hop, hx, hy, h]
theorem WO_lenNil (hop : o.op = .call { callee := .builtin .len, args := #[x], argTypes := #[56] }) (hx : R.ev f x = .map none) (hk : K (.int .i64 0) w) : R.WO Tryz.prog C o f w K := by
  have hr := Go.Maps.len_nil (P := Tryz.prog) (w := w) (show Tryz.prog.underlying 56 = some (.map 3 4) by kernel_rfl) o.type
  refine R.WO_val ?_ hk
  simp [execOp, hop, hx, resolve, invoke, builtin, hr]
end
theorem sorted0 (p : Int) (w : World) : Calls Tryz.prog 19 #[.agg #[.slice none 0 0, .int .i64 p]] w fun e w' => ∃ b, e = .returned (.map (some b)) ∧ R.Own [] w w' [.map b #[] 0] := by
  have hM := R.Own.start [] w
  refine R.calls_of_WC (fn := Tryz.f19) Tryz.func19 rfl Tryz.ntmps19 (Nat.le_of_ble_eq_true rfl) ?_
  (refine R.stepU ?_; (repeat' (first | (with_reducible refine And.intro ?_ ?_) | (with_reducible intro _))); all_goals refine R.Lft.mk ?_)
  refine WO_mkMap0 rfl R.ohm fun b w2 hM => ?_
  (refine R.stepU ?_; (repeat' (first | (with_reducible refine And.intro ?_ ?_) | (with_reducible intro _))); all_goals refine R.Lft.mk ?_)
  refine R.WC_loop (fun _ : Nat => [(2, .map none), (3, .map (some b)), (11, .int .i64 0), (12, .int .i64 0)]) (fun _ w3 => R.Own [] w w3 [.map b #[] 0]) (fun _ => 0) ⟨0, ⟨rfl, rfl, rfl, rfl, trivial⟩, R.Own.sub (by assumption) R.subl⟩ ?_
  clear hM
  rintro _ f w3 hM
  (refine R.stepU ?_; (repeat' (first | (with_reducible refine And.intro ?_ ?_) | (with_reducible intro _))); all_goals refine R.Lft.mk ?_)
  exact ⟨b, rfl, by assumption⟩
theorem rules0 (v u : Int) (ab : Bool) (w : World) (hv : 0 ≤ v) (hu : 0 ≤ u) (hu2 : In64 u) (hv2 : In64 v) : Calls Tryz.prog 20 #[.agg #[.map none, .map none], .int .i64 v, .int .i64 u, .bool ab] w fun e w' => e = .returned (.bool (decide (v / 2 ≠ u / 2) || ab)) ∧ Below w.heap.size w w' := by
  have hM := R.Own.start [] w
  have hv3 := hv2
  have hu3 := hu2
  unfold In64 at hv3 hu3
  refine R.calls_of_WC (fn := Tryz.f20) Tryz.func20 rfl Tryz.ntmps20 (Nat.le_of_ble_eq_true rfl) ?_
  (refine R.stepU ?_; (repeat' (first | (with_reducible refine And.intro ?_ ?_) | (with_reducible intro _))); all_goals refine R.Lft.mk ?_)
  refine WO_lkNil rfl rfl rfl hu2 ?_
  (refine R.stepU ?_; (repeat' (first | (with_reducible refine And.intro ?_ ?_) | (with_reducible intro _))); all_goals refine R.Lft.mk ?_)
  refine WO_lenNil rfl rfl ?_
  (refine R.stepU ?_; (repeat' (first | (with_reducible refine And.intro ?_ ?_) | (with_reducible intro _))); all_goals refine R.Lft.mk ?_)
  all_goals
    refine ⟨?_, R.Own.below (by assumption)⟩
    simp [*]
end Go.Proofs.YtdiodefooipojaaGreat
namespace Go.Proofs.YtdiodefooipojaaGreat
open Go.RowKit
open R (In64 InU64 lo64 nth)
theorem MayG.rise {g : Gph} (h : MayG g) {u a b : Nat} (hu : u + 1 < g.st.n) (ha : nth g.st.L u ≤ (a : Nat)) (hab : a < b) (hb : ((b : Nat) : Int) < nth g.st.L (u + 1)) : nth g.hd.L a < nth g.hd.L b := by
  induction b with
  | zero => omega
  | succ b ih =>
    have h1 := (h.arc u (b + 1) hu (by omega) hb).2.2.2.2 (by omega)
    rw [Nat.add_sub_cancel] at h1
    rcases Nat.lt_or_ge a b with c | c
    · have := ih c (by omega)
      omega
    · rw [show a = b by omega]
      exact h1
/-- A graph's arcs by number: those of v are S v up to S (v + 1), H i is where i leads to. -/
structure Ac where
  n : Nat
  m : Nat
  S : Nat → Nat
  H : Nat → Nat
structure Ac.Ok (I : Ac) : Prop where
  s0 : I.S 0 = 0
  s1 : I.S I.n = I.m
  up : ∀ v, v < I.n → I.S v ≤ I.S (v + 1)
  hd : ∀ i, i < I.m → I.H i < I.n
def Ac.of (I : Ac) (u i : Nat) : Prop := I.S u ≤ i ∧ i < I.S (u + 1)
def Ac.leads (I : Ac) (u w : Nat) : Prop := ∃ i, I.of u i ∧ I.H i = w
section
variable {I : Ac}
theorem Ac.Ok.mono (h : I.Ok) : ∀ {u v : Nat}, u ≤ v → v ≤ I.n → I.S u ≤ I.S v := fun {u v} huv hv => by
  induction v with
  | zero => rw [show u = 0 by omega]; exact Nat.le_refl _
  | succ v ih =>
    rcases Nat.lt_or_ge v u with c | c
    · rw [show u = v + 1 by omega]; exact Nat.le_refl _
    · have := ih c (by omega)
      have := h.up v (by omega)
      omega
theorem Ac.Ok.lt (h : I.Ok) {u i : Nat} (hu : u < I.n) (hi : I.of u i) : i < I.m := by
  have := h.mono (u := u + 1) (v := I.n) (by omega) (Nat.le_refl _)
  rw [h.s1] at this
  have := hi.2
  omega
theorem Ac.Ok.same (h : I.Ok) {u v i : Nat} (hu : u < I.n) (hv : v < I.n) (h1 : I.of u i) (h2 : I.of v i) : u = v := by
  obtain ⟨a1, a2⟩ := h1
  obtain ⟨b1, b2⟩ := h2
  rcases Nat.lt_or_ge u v with c | c
  · have := h.mono (u := u + 1) (v := v) (by omega) (by omega)
    omega
  · rcases Nat.lt_or_ge v u with d | d
    · have := h.mono (u := v + 1) (v := u) (by omega) (by omega)
      omega
    · omega
theorem Ac.tail_ (h0 : I.S 0 = 0) {i : Nat} : ∀ k, i < I.S k → ∃ u, u < k ∧ I.of u i := by
  intro k
  induction k with
  | zero => intro h1; rw [h0] at h1; omega
  | succ k ih =>
    intro h1
    rcases Nat.lt_or_ge i (I.S k) with c | c
    · obtain ⟨u, h2, h3⟩ := ih c
      exact ⟨u, by omega, h3⟩
    · exact ⟨k, by omega, c, h1⟩
theorem Ac.Ok.tail (h : I.Ok) {i : Nat} (hi : i < I.m) : ∃ u, u < I.n ∧ I.of u i := by
  have key : ∀ k, k ≤ I.n → i < I.S k → ∃ u, u < I.n ∧ I.of u i := by
    intro k
    induction k with
    | zero => intro _ h0; rw [h.s0] at h0; omega
    | succ k ih =>
      intro hk h1
      rcases Nat.lt_or_ge i (I.S k) with c | c
      · exact ih (by omega) c
      · exact ⟨k, by omega, c, h1⟩
  exact key I.n (Nat.le_refl _) (by rw [h.s1]; exact hi)
end
def Ac.arc (I : Ac) (u w : Nat) : Prop := u < I.n ∧ I.leads u w
def acG (g : Gph) : Ac := ⟨g.st.n - 1, g.hd.n, fun v => (nth g.st.L v).toNat, fun i => (nth g.hd.L i).toNat⟩
theorem acG_ok {g : Gph} (h : MayG g) : (acG g).Ok := by
  have n1 := h.n1
  have h0 : (acG g).S 0 = 0 := by show (nth g.st.L 0).toNat = 0; rw [h.s0]; rfl
  have h1 : (acG g).S (acG g).n = (acG g).m := by show (nth g.st.L (g.st.n - 1)).toNat = g.hd.n; rw [h.s1]; exact Int.toNat_natCast _
  refine ⟨h0, h1, fun v hv => ?_, fun i hi => ?_⟩
  · have hv : v < g.st.n - 1 := hv
    have a := h.up v (by omega)
    have b := h.lo (v := v) (by omega)
    show (nth g.st.L v).toNat ≤ (nth g.st.L (v + 1)).toNat
    omega
  · obtain ⟨u, hu, q1, q2⟩ := Ac.tail_ (I := acG g) h0 (i := i) (acG g).n (by rw [h1]; exact hi)
    have hu : u < g.st.n - 1 := hu
    have q1 : (nth g.st.L u).toNat ≤ i := q1
    have q2 : i < (nth g.st.L (u + 1)).toNat := q2
    have a := h.arc u i (by omega) (by omega) (by omega)
    obtain ⟨a1, a2, _⟩ := a
    show (nth g.hd.L i).toNat < g.st.n - 1
    omega
instance decOf (I : Ac) (u i : Nat) : Decidable (I.of u i) := by unfold Ac.of; infer_instance
/-- How many things lie in the first j rows. -/
def off (M : List (List Item)) (j : Nat) : Nat := ((M.take j).map List.length).sum
def stM (M : List (List Item)) (k : Nat) : List Int := (List.range (k + 1)).map fun j => ((off M j : Nat) : Int)
def hdM (M : List (List Item)) (k : Nat) : List Int := (M.take k).flatMap fun l => l.map Item.at_
def wtM (M : List (List Item)) (k : Nat) : List Int := (M.take k).flatMap fun l => l.map Item.key
theorem off_zero (M : List (List Item)) : off M 0 = 0 := rfl
theorem off_succ {M : List (List Item)} {j : Nat} (h : j < M.length) : off M (j + 1) = off M j + (nth M j).length := by
  unfold off
  rw [List.take_succ_eq_append_getElem h, List.map_append, List.sum_append, R.nth_eq h]
  simp
theorem off_cons (l : List Item) (M : List (List Item)) (j : Nat) : off (l :: M) (j + 1) = l.length + off M j := by
  unfold off
  simp
theorem off_mono {M : List (List Item)} {j k : Nat} (h : j ≤ k) (hk : k ≤ M.length) : off M j ≤ off M k := by
  induction k with
  | zero => rw [show j = 0 by omega]; exact Nat.le_refl _
  | succ k ih =>
    rcases Nat.lt_or_ge k j with c | c
    · rw [show j = k + 1 by omega]; exact Nat.le_refl _
    · have := ih c (by omega)
      have := off_succ (M := M) (j := k) (by omega)
      omega
theorem len_off {M : List (List Item)} {j k : Nat} (h : j < k) (hk : k ≤ M.length) : (nth M j).length ≤ off M k := by
  have a := off_succ (M := M) (j := j) (by omega)
  have b := off_mono (M := M) (j := j + 1) (k := k) h hk
  omega
theorem nth_appL {T : Type} [Inhabited T] {A B : List T} {i : Nat} (h : i < A.length) : nth (A ++ B) i = nth A i := by
  unfold R.nth
  rw [List.getD_eq_getElem?_getD, List.getD_eq_getElem?_getD, List.getElem?_append_left h]
theorem nth_appR {T : Type} [Inhabited T] {A B : List T} {i : Nat} : nth (A ++ B) (A.length + i) = nth B i := by
  unfold R.nth
  rw [List.getD_eq_getElem?_getD, List.getD_eq_getElem?_getD, List.getElem?_append_right (by omega), Nat.add_sub_cancel_left]
theorem nth_mapF {T U : Type} [Inhabited T] [Inhabited U] {f : T → U} {L : List T} {i : Nat} (h : i < L.length) : nth (L.map f) i = f (nth L i) := by
  rw [R.nth_eq (by rw [List.length_map]; exact h), R.nth_eq h, List.getElem_map]
theorem flat_at {T : Type} [Inhabited T] (f : Item → T) : ∀ (M : List (List Item)) (j t : Nat), j < M.length → t < (nth M j).length → nth (M.flatMap fun l => l.map f) (off M j + t) = f (nth (nth M j) t)
  | [], j, t, h, _ => absurd h (Nat.not_lt_zero _)
  | l :: M, 0, t, _, ht => by
    have ht : t < l.length := ht
    rw [off_zero, Nat.zero_add, List.flatMap_cons, nth_appL (by rw [List.length_map]; exact ht), nth_mapF ht]
    rfl
  | l :: M, j + 1, t, h, ht => by
    have h : j + 1 < M.length + 1 := h
    have ht : t < (nth M j).length := ht
    have := flat_at f M j t (by omega) ht
    rw [off_cons, List.flatMap_cons, show l.length + off M j + t = (l.map f).length + (off M j + t) by rw [List.length_map]; omega, nth_appR, this]
    rfl
theorem flat_lenM {T : Type} (f : Item → T) : ∀ (M : List (List Item)), (M.flatMap fun l => l.map f).length = off M M.length
  | [] => rfl
  | l :: M => by
    have := flat_lenM f M
    rw [List.flatMap_cons, List.length_append, List.length_map, this, List.length_cons, off_cons]
theorem take_all {M : List (List Item)} : M.take M.length = M := List.take_length
theorem off_take {M : List (List Item)} {k j : Nat} (h : j ≤ k) : off (M.take k) j = off M j := by
  unfold off
  rw [List.take_take, Nat.min_eq_left h]
theorem hdM_len {M : List (List Item)} {k : Nat} (h : k ≤ M.length) : (hdM M k).length = off M k := by
  unfold hdM
  rw [flat_lenM, List.length_take, Nat.min_eq_left h, off_take (Nat.le_refl _)]
theorem wtM_len {M : List (List Item)} {k : Nat} (h : k ≤ M.length) : (wtM M k).length = off M k := by
  unfold wtM
  rw [flat_lenM, List.length_take, Nat.min_eq_left h, off_take (Nat.le_refl _)]
theorem hdM_succ {M : List (List Item)} {k : Nat} (h : k < M.length) : hdM M (k + 1) = hdM M k ++ (nth M k).map Item.at_ := by
  unfold hdM
  rw [List.take_succ_eq_append_getElem h, List.flatMap_append, R.nth_eq h]
  simp
theorem wtM_succ {M : List (List Item)} {k : Nat} (h : k < M.length) : wtM M (k + 1) = wtM M k ++ (nth M k).map Item.key := by
  unfold wtM
  rw [List.take_succ_eq_append_getElem h, List.flatMap_append, R.nth_eq h]
  simp
theorem stM_succ (M : List (List Item)) (k : Nat) : stM M (k + 1) = stM M k ++ [((off M (k + 1) : Nat) : Int)] := by
  unfold stM
  rw [List.range_succ, List.map_append]
  rfl
theorem stM_zero (M : List (List Item)) : stM M 0 = [0] := rfl
theorem stM_len (M : List (List Item)) (k : Nat) : (stM M k).length = k + 1 := by simp [stM]
theorem stM_nth {M : List (List Item)} {k j : Nat} (h : j ≤ k) : nth (stM M k) j = ((off M j : Nat) : Int) := by
  rw [R.nth_eq (by rw [stM_len]; omega)]
  simp [stM]
theorem hdM_nth {M : List (List Item)} {n j t : Nat} (hn : M.length = n) (h : j < n) (ht : t < (nth M j).length) : nth (hdM M n) (off M j + t) = (nth (nth M j) t).at_ := by
  unfold hdM
  rw [← hn, List.take_length]
  exact flat_at Item.at_ M j t (by omega) ht
theorem wtM_nth {M : List (List Item)} {n j t : Nat} (hn : M.length = n) (h : j < n) (ht : t < (nth M j).length) : nth (wtM M n) (off M j + t) = (nth (nth M j) t).key := by
  unfold wtM
  rw [← hn, List.take_length]
  exact flat_at Item.key M j t (by omega) ht
/-- Rows of arcs that may be. -/
structure Bks (n : Nat) (M : List (List Item)) : Prop where
  len : M.length = n
  it : ∀ j, j < n → ∀ x ∈ nth M j, 0 ≤ x.at_ ∧ x.at_ < (n : Nat) ∧ 0 ≤ x.key ∧ x.key ≤ 2147483648
  up : ∀ j, j < n → (nth M j).Pairwise fun x y => x.at_ < y.at_
structure IsG (n : Nat) (M : List (List Item)) (g : Gph) : Prop where
  sn : g.st.n = n + 1
  hn : g.hd.n = off M n
  wn : g.wt.n = off M n
  sl : g.st.L = stM M n
  hl : g.hd.L = hdM M n
  wl : g.wt.L = wtM M n
section
variable {n : Nat} {M : List (List Item)} {g : Gph}
theorem Bks.may (h : Bks n M) (hg : IsG n M g) (hn : n ≤ 4000) (hm : off M n ≤ 200000) : MayG g := by
  have hst : ∀ j, j ≤ n → nth g.st.L j = ((off M j : Nat) : Int) := fun j hj => by rw [hg.sl, stM_nth hj]
  have hl := h.len
  refine ⟨⟨by rw [hg.sn]; omega, by rw [hg.sn]; omega, by rw [hg.hn]; exact hm, by rw [hg.wn, hg.hn], by rw [hst 0 (Nat.zero_le _), off_zero]; rfl, by rw [hg.sn, Nat.add_sub_cancel, hst n (Nat.le_refl _), hg.hn], fun v hv => ?_⟩, fun v i hv h1 h2 => ?_⟩
  · rw [hg.sn] at hv
    rw [hst v (by omega), hst (v + 1) (by omega)]
    have := off_succ (M := M) (j := v) (by omega)
    omega
  · rw [hg.sn] at hv
    rw [hst v (by omega)] at h1
    rw [hst (v + 1) (by omega)] at h2
    have hs := off_succ (M := M) (j := v) (by omega)
    obtain ⟨t, rfl⟩ : ∃ t, i = off M v + t := ⟨i - off M v, by omega⟩
    have ht : t < (nth M v).length := by omega
    have hx := h.it v (by omega) _ (R.nth_mem ht)
    unfold okArc
    rw [hg.hl, hg.wl, hdM_nth hl (by omega) ht, wtM_nth hl (by omega) ht, hst v (by omega), hg.sn]
    refine ⟨hx.1, by omega, hx.2.2.1, hx.2.2.2, fun h3 => ?_⟩
    obtain ⟨q, rfl⟩ : ∃ q, t = q + 1 := ⟨t - 1, by omega⟩
    rw [show off M v + (q + 1) - 1 = off M v + q by omega, hdM_nth hl (by omega) (by omega)]
    have := List.pairwise_iff_getElem.1 (h.up v (by omega)) q (q + 1) (by omega) ht (by omega)
    rw [R.nth_eq (by omega), R.nth_eq ht]
    exact this
theorem Bks.leads (h : Bks n M) (hg : IsG n M g) {u w : Nat} (hu : u < n) : (acG g).leads u w ↔ ∃ x ∈ nth M u, x.at_ = (w : Nat) := by
  have hst : ∀ j, j ≤ n → (nth g.st.L j).toNat = off M j := fun j hj => by rw [hg.sl, stM_nth hj]; exact Int.toNat_natCast _
  have hl := h.len
  have hs := off_succ (M := M) (j := u) (by omega)
  have hS : (acG g).S u = off M u := hst u (by omega)
  have hS1 : (acG g).S (u + 1) = off M (u + 1) := hst (u + 1) (by omega)
  constructor
  · rintro ⟨i, ⟨h1, h2⟩, e⟩
    rw [hS] at h1
    rw [hS1] at h2
    obtain ⟨t, rfl⟩ : ∃ t, i = off M u + t := ⟨i - off M u, by omega⟩
    have ht : t < (nth M u).length := by omega
    have hx := h.it u hu _ (R.nth_mem ht)
    have e : (nth g.hd.L (off M u + t)).toNat = w := e
    rw [hg.hl, hdM_nth hl hu ht] at e
    exact ⟨_, R.nth_mem ht, by omega⟩
  · rintro ⟨x, hx, e⟩
    obtain ⟨t, ht, e2⟩ := List.getElem_of_mem hx
    refine ⟨off M u + t, ⟨by rw [hS]; omega, by rw [hS1]; omega⟩, ?_⟩
    show (nth g.hd.L (off M u + t)).toNat = w
    rw [hg.hl, hdM_nth hl hu ht, R.nth_eq ht, e2]
    omega
end
/-- The rows behind the first i arcs. -/
structure BkI (g : Gph) (n i : Nat) (M : List (List Item)) : Prop where
  len : M.length = n
  mem : ∀ j, j < n → ∀ x : Item, x ∈ nth M j ↔ ∃ v t : Nat, v < n ∧ (acG g).of v t ∧ t < i ∧ (acG g).H t = j ∧ x = ⟨nth g.wt.L t, (v : Nat)⟩
  up : ∀ j, j < n → (nth M j).Pairwise fun x y => x.at_ < y.at_
  cnt : off M n = i
theorem off_all : ∀ (M : List (List Item)) (j : Nat), M.length ≤ j → off M j = (M.map List.length).sum := fun M j h => by
  unfold off
  rw [List.take_of_length_le h]
theorem sum_set : ∀ (M : List (List Item)) (j : Nat) (x : Item), j < M.length → ((M.set j (nth M j ++ [x])).map List.length).sum = (M.map List.length).sum + 1
  | [], _, _, h => absurd h (Nat.not_lt_zero _)
  | l :: M, 0, x, _ => by
    show (List.map List.length ((l ++ [x]) :: M)).sum = (List.map List.length (l :: M)).sum + 1
    simp
    omega
  | l :: M, j + 1, x, h => by
    have h : j + 1 < M.length + 1 := h
    have := sum_set M j x (by omega)
    show (l.length :: ((M.set j (nth M j ++ [x])).map List.length)).sum = _
    rw [List.sum_cons, this, List.map_cons, List.sum_cons]
    omega
theorem nth_setR {M : List (List Item)} {j k : Nat} {l : List Item} (hj : j < M.length) : nth (M.set j l) k = if j = k then l else nth M k := by
  unfold R.nth
  rw [List.getD_eq_getElem?_getD, List.getD_eq_getElem?_getD, List.getElem?_set]
  by_cases e : j = k
  · subst e; rw [if_pos rfl, if_pos hj, if_pos rfl]; rfl
  · rw [if_neg e, if_neg e]
section
variable {g : Gph} {n i : Nat} {M : List (List Item)}
theorem nth_repN {n k : Nat} : nth (List.replicate n ([] : List Item)) k = [] := by
  unfold R.nth
  rw [List.getD_eq_getElem?_getD, List.getElem?_replicate]
  split <;> rfl
theorem sum_rep : ∀ n : Nat, ((List.replicate n ([] : List Item)).map List.length).sum = 0
  | 0 => rfl
  | n + 1 => by rw [List.replicate_succ, List.map_cons, List.sum_cons, sum_rep n]; rfl
theorem BkI.nil (g : Gph) (n : Nat) : BkI g n 0 (List.replicate n []) := by
  refine ⟨List.length_replicate .., fun j hj x => ?_, fun j hj => ?_, ?_⟩
  · rw [nth_repN]
    constructor
    · intro q; cases q
    · rintro ⟨_, t, _, _, q, _⟩
      exact absurd q (Nat.not_lt_zero _)
  · rw [nth_repN]; exact List.Pairwise.nil
  · rw [off_all _ _ (by rw [List.length_replicate]; exact Nat.le_refl _), sum_rep]
theorem BkI.add (h : BkI g n i M) (hm : MayG g) (hn : g.st.n - 1 = n) {v j : Nat} (hv : v < n) (hi : (acG g).of v i) (hj : (acG g).H i = j) (hjn : j < n) : BkI g n (i + 1) (M.set j (nth M j ++ [⟨nth g.wt.L i, (v : Nat)⟩])) := by
  have hI := acG_ok hm
  have hIn : (acG g).n = n := hn
  have hl := h.len
  have n1 := hm.n1
  refine ⟨by rw [List.length_set]; exact hl, fun k hk x => ?_, fun k hk => ?_, ?_⟩
  · rw [nth_setR (by omega)]
    split
    · rename_i e
      subst e
      rw [List.mem_append, List.mem_singleton, h.mem j hk]
      constructor
      · rintro (⟨a, t, q1, q2, q3, q4, q5⟩ | q)
        · exact ⟨a, t, q1, q2, by omega, q4, q5⟩
        · exact ⟨v, i, hv, hi, by omega, hj, q⟩
      · rintro ⟨a, t, q1, q2, q3, q4, q5⟩
        rcases Nat.lt_or_ge t i with c | c
        · exact .inl ⟨a, t, q1, q2, c, q4, q5⟩
        · have : t = i := by omega
          subst this
          have : a = v := hI.same (by rw [hIn]; exact q1) (by rw [hIn]; exact hv) q2 hi
          subst this
          exact .inr q5
    · rename_i e
      rw [h.mem k hk]
      constructor
      · rintro ⟨a, t, q1, q2, q3, q4, q5⟩
        exact ⟨a, t, q1, q2, by omega, q4, q5⟩
      · rintro ⟨a, t, q1, q2, q3, q4, q5⟩
        refine ⟨a, t, q1, q2, ?_, q4, q5⟩
        rcases Nat.lt_or_ge t i with c | c
        · exact c
        · have : t = i := by omega
          subst this
          exact absurd (hj.symm.trans q4) e
  · rw [nth_setR (by omega)]
    split
    · rename_i e
      subst e
      refine List.pairwise_append.2 ⟨h.up j hk, List.pairwise_singleton _ _, fun a ha b hb => ?_⟩
      rw [List.mem_singleton.1 hb]
      obtain ⟨u, t, q1, q2, q3, q4, rfl⟩ := (h.mem j hk a).1 ha
      show ((u : Nat) : Int) < ((v : Nat) : Int)
      rcases Nat.lt_trichotomy u v with c | c | c
      · omega
      · exfalso
        subst c
        have hlo := hm.lo (v := u) (by omega)
        have hhi := hm.lo (v := u + 1) (by omega)
        have a1 : (nth g.st.L u).toNat ≤ t := q2.1
        have a2 : i < (nth g.st.L (u + 1)).toNat := hi.2
        have b1 : (nth g.hd.L t).toNat = j := q4
        have b2 : (nth g.hd.L i).toNat = j := hj
        have := hm.rise (u := u) (a := t) (b := i) (by omega) (by omega) q3 (by omega)
        have g1 := (hm.arc u t (by omega) (by omega) (by omega)).1
        omega
      · exfalso
        have := hI.mono (u := v + 1) (v := u) (by omega) (by rw [hIn]; omega)
        have a1 := q2.1
        have a2 := hi.2
        omega
    · exact h.up k hk
  · rw [off_all _ _ (by rw [List.length_set]; omega), sum_set _ _ _ (by omega), ← off_all M n (by omega), h.cnt]
theorem BkI.bks (h : BkI g n g.hd.n M) (hm : MayG g) (hn : g.st.n - 1 = n) : Bks n M := by
  have n1 := hm.n1
  refine ⟨h.len, fun j hj x hx => ?_, h.up⟩
  obtain ⟨v, t, q1, q2, q3, q4, rfl⟩ := (h.mem j hj x).1 hx
  have hlo := hm.lo (v := v) (by omega)
  have hlo1 := hm.lo (v := v + 1) (by omega)
  have a1 : (nth g.st.L v).toNat ≤ t := q2.1
  have a2 : t < (nth g.st.L (v + 1)).toNat := q2.2
  have g1 := hm.arc v t (by omega) (by omega) (by omega)
  exact ⟨by dsimp only; omega, by dsimp only; omega, g1.2.2.1, g1.2.2.2.1⟩
theorem BkI.leads (h : BkI g n g.hd.n M) (hm : MayG g) (hn : g.st.n - 1 = n) {b : Gph} (hb : IsG n M b) {u w : Nat} (hu : u < n) : (acG b).leads u w ↔ w < n ∧ (acG g).leads w u := by
  have hI := acG_ok hm
  have hIn : (acG g).n = n := hn
  rw [(h.bks hm hn).leads hb hu]
  constructor
  · rintro ⟨x, hx, e⟩
    obtain ⟨v, t, q1, q2, q3, q4, rfl⟩ := (h.mem u hu x).1 hx
    have e : ((v : Nat) : Int) = (w : Nat) := e
    have : v = w := by omega
    subst this
    exact ⟨q1, t, q2, q4⟩
  · rintro ⟨hw, t, ht, e⟩
    exact ⟨_, (h.mem u hu ⟨nth g.wt.L t, (w : Nat)⟩).2 ⟨w, t, hw, ht, hI.lt (by rw [hIn]; exact hw) ht, e, rfl⟩, rfl⟩
theorem BkI.arc (h : BkI g n g.hd.n M) (hm : MayG g) (hn : g.st.n - 1 = n) {b : Gph} (hb : IsG n M b) {u w : Nat} : (acG b).arc u w ↔ (acG g).arc w u := by
  have hI := acG_ok hm
  have hIn : (acG g).n = n := hn
  have hbn : (acG b).n = n := by show b.st.n - 1 = n; rw [hb.sn]; rfl
  unfold Ac.arc
  rw [hIn, hbn]
  constructor
  · rintro ⟨hu, q⟩
    exact (h.leads hm hn hb hu).1 q
  · rintro ⟨hw, q⟩
    have hu : u < n := by
      obtain ⟨t, ht, e⟩ := q
      have := hI.hd t (hI.lt (by rw [hIn]; exact hw) ht)
      omega
    exact ⟨hu, (h.leads hm hn hb hu).2 ⟨hw, q⟩⟩
end
section
variable {T : Type} {e : TypeId} {sz : Nat} {enc : T → List Value} {F : List Nat} {W0 w : World} {l : List R.Res} {M : List (R.Sl T)} {j : Nat}
/-- Rows whose slices are M. -/
def nst1 (e : TypeId) (sz : Nat) (enc : T → List Value) (x : R.Sl T) : R.Res := .row x.A x.n x.c e sz (x.L.flatMap enc)
def nst (e : TypeId) (sz : Nat) (enc : T → List Value) (M : List (R.Sl T)) : List R.Res := M.map (nst1 e sz enc)
theorem nst_app (M N : List (R.Sl T)) : nst e sz enc (M ++ N) = nst e sz enc M ++ nst e sz enc N := List.map_append
theorem split_at (hj : j < M.length) : M = M.take j ++ nth M j :: M.drop (j + 1) := by
  rw [R.nth_eq hj, List.getElem_cons_drop, List.take_append_drop]
theorem nst_pick (hj : j < M.length) : (nst e sz enc M).Perm (nst1 e sz enc (nth M j) :: (nst e sz enc (M.take j) ++ nst e sz enc (M.drop (j + 1)))) := by
  conv => lhs; rw [split_at hj, nst_app]
  exact List.perm_middle
theorem nst_set (hj : j < M.length) (x : R.Sl T) : (nst e sz enc (M.set j x)).Perm (nst1 e sz enc x :: (nst e sz enc (M.take j) ++ nst e sz enc (M.drop (j + 1)))) := by
  rw [List.set_eq_take_append_cons_drop, if_pos hj, nst_app]
  exact List.perm_middle
theorem own_nils (hM : R.Own F W0 w l) (e : TypeId) (sz : Nat) (enc : T → List Value) : ∀ n : Nat, R.Own F W0 w (nst e sz enc (List.replicate n (default : R.Sl T)) ++ l)
  | 0 => hM
  | n + 1 => by
    rw [List.replicate_succ]
    exact R.Own.nil (own_nils hM e sz enc n) e sz
theorem nst_focus {pre : List R.Res} (hM : R.Own F W0 w (pre ++ nst e sz enc M)) (hj : j < M.length) : R.Own F W0 w (nst1 e sz enc (nth M j) :: (pre ++ (nst e sz enc (M.take j) ++ nst e sz enc (M.drop (j + 1))))) :=
  hM.perm (List.perm_middle.symm.trans (List.Perm.append_left pre (nst_pick hj).symm))
theorem nst_back {pre : List R.Res} {x : R.Sl T} (hM : R.Own F W0 w (nst1 e sz enc x :: (pre ++ (nst e sz enc (M.take j) ++ nst e sz enc (M.drop (j + 1)))))) (hj : j < M.length) : R.Own F W0 w (pre ++ nst e sz enc (M.set j x)) :=
  hM.perm ((List.Perm.append_left pre (nst_set hj x)).trans List.perm_middle)
theorem nst_mem (hj : j < M.length) : nst1 e sz enc (nth M j) ∈ nst e sz enc M := List.mem_map.2 ⟨_, R.nth_mem hj, rfl⟩
end
instance enct_ItemsS : R.EncT Tryz.prog 46 (R.Sl Item) R.cSl 1 := {}
end Go.Proofs.YtdiodefooipojaaGreat
