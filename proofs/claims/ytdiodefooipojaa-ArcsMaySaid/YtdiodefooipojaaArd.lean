/- Graphs as values and arguments; which may be. Which graphs may be: the program's and the document's; a vertex's arcs. Arcs of a graph: snicketref19.Arc, slices.BinarySearchFunc on items, arcs.Arc. (not built yet) Are graphs alike: arcs.Same, snicketref19.Same. -/
import Derived.Test.YtdiodefooipojaaCl
import Derived.Test.YtdiodefooipojaaVGo
import Derived.Test.YtdiodefooipojaaDv
import Derived.Test.YtdiodefooipojaaNt
import Derived.Test.YtdiodefooipojaaBw
namespace Go.Proofs.Ytdiodefooipojaa
open Go.RowKit
open R (In64 InU64 lo64 nth)
/-- A graph: where each vertex's arcs begin, their heads, their weights. -/
structure Gph where
  st : R.Sl Int
  hd : R.Sl Int
  wt : R.Sl Int
instance : Inhabited Gph := ⟨⟨default, default, default⟩⟩
def cGph (g : Gph) : List Value := [.slice g.st.A g.st.n g.st.c, .slice g.hd.A g.hd.n g.hd.c, .slice g.wt.A g.wt.n g.wt.c]
instance encc_Gph : R.EncC cGph 3 := ⟨fun _ => rfl, by simp [cGph, Value.oneCell'], by decide⟩
def GGph (W : World) (g : Gph) : Prop := R.GSl R.cI 1 GI W g.st ∧ R.GSl R.cI 1 GI W g.hd ∧ R.GSl R.cI 1 GI W g.wt
instance opn_Gph : R.Opn Try.prog 24 Gph cGph GGph := R.opn_struct3 (o0 := 0) (t0 := 22) (n0 := 1) (o1 := 1) (t1 := 22) (n1 := 1) (o2 := 2) (t2 := 22) (n2 := 1) (by kernel_rfl) (by kernel_rfl) (by kernel_rfl) rfl rfl rfl (by kernel_rfl) Gph.mk (fun _ _ _ => rfl) (fun _ _ _ _ h1 h2 h3 => ⟨h1, h2, h3⟩)
theorem GSl.now {W w : World} {F : List Nat} {W0 : World} {l : List R.Res} {x : R.Sl Int} (hM : R.Own F W0 w l) (h : R.Inp F W0 x.A x.n 1 (x.L.flatMap R.cI)) (h2 : R.GSl R.cI 1 GI W x) : R.GSl R.cI 1 GI w x := ⟨R.Own.inpIn hM h, h2.2.1, h2.2.2.1, h2.2.2.2⟩
theorem GGph.now {W w : World} {l : List R.Res} {g : Gph} (hM : R.Own [] W w l) (h : GGph W g) : GGph w g := ⟨GSl.now hM h.1.1 h.1, GSl.now hM h.2.1.1 h.2.1, GSl.now hM h.2.2.1 h.2.2⟩
def okArc (g : Gph) (v i : Nat) : Prop := 0 ≤ nth g.hd.L i ∧ nth g.hd.L i + 1 < g.st.n ∧ 0 ≤ nth g.wt.L i ∧ nth g.wt.L i ≤ 2147483648 ∧ (nth g.st.L v < (i : Nat) → nth g.hd.L (i - 1) < nth g.hd.L i)
structure StG (g : Gph) : Prop where
  n1 : 1 ≤ g.st.n
  n2 : g.st.n ≤ 4001
  n3 : g.hd.n ≤ 200000
  n4 : g.wt.n = g.hd.n
  s0 : nth g.st.L 0 = 0
  s1 : nth g.st.L (g.st.n - 1) = (g.hd.n : Nat)
  up : ∀ v, v + 1 < g.st.n → nth g.st.L v ≤ nth g.st.L (v + 1)
structure MayG (g : Gph) : Prop extends StG g where
  arc : ∀ v i : Nat, v + 1 < g.st.n → nth g.st.L v ≤ (i : Nat) → ((i : Nat) : Int) < nth g.st.L (v + 1) → okArc g v i
/-- The graph may be. -/
noncomputable def mayG (g : Gph) : Bool := @decide (MayG g) (Classical.propDecidable _)
theorem mayG_t {g : Gph} (h : MayG g) : mayG g = true := by unfold mayG; exact @decide_eq_true _ (Classical.propDecidable _) h
theorem mayG_f {g : Gph} (h : ¬ MayG g) : mayG g = false := by unfold mayG; exact @decide_eq_false _ (Classical.propDecidable _) h
theorem mayG_p {g : Gph} (h : mayG g = true) : MayG g := by
  rcases Classical.em (MayG g) with c | c
  · exact c
  · rw [mayG_f c] at h
    cases h
theorem mayG_n {g : Gph} (h : mayG g = false) : ¬ MayG g := fun c => by rw [mayG_t c] at h; cases h
noncomputable def stG (g : Gph) : Bool := @decide (StG g) (Classical.propDecidable _)
theorem stG_t {g : Gph} (h : StG g) : stG g = true := by unfold stG; exact @decide_eq_true _ (Classical.propDecidable _) h
theorem stG_f {g : Gph} (h : ¬ StG g) : stG g = false := by unfold stG; exact @decide_eq_false _ (Classical.propDecidable _) h
theorem StG.mono {g : Gph} (h : StG g) : ∀ {u v : Nat}, v ≤ u → u < g.st.n → nth g.st.L v ≤ nth g.st.L u := fun {u v} hvu hu => by
  induction u with
  | zero => rw [show v = 0 by omega]; exact Int.le_refl _
  | succ u ih =>
    rcases Nat.lt_or_ge v (u + 1) with c | c
    · have := ih (by omega) (by omega)
      have := h.up u hu
      omega
    · rw [show v = u + 1 by omega]; exact Int.le_refl _
theorem StG.lo {g : Gph} (h : StG g) {v : Nat} (hv : v < g.st.n) : 0 ≤ nth g.st.L v := by
  have := h.mono (Nat.zero_le v) hv
  rw [h.s0] at this
  exact this
theorem StG.hi {g : Gph} (h : StG g) {v : Nat} (hv : v < g.st.n) : nth g.st.L v ≤ (g.hd.n : Nat) := by
  have h1 := h.n1
  have := h.mono (v := v) (u := g.st.n - 1) (by omega) (by omega)
  rw [h.s1] at this
  exact this
instance con_small19 (g : Gph) : R.ConB Try.prog 5 #[.agg (cGph g).toArray] Unit (fun _ _ => True) (fun _ => .bool (decide (g.st.n ≤ 40 ∧ g.hd.n ≤ 300 ∧ g.wt.n ≤ 300))) := ⟨fun _ w _ => by
  have hM := R.Own.start [] w
  refine R.calls_of_WC (fn := Try.f5) Try.func5 rfl Try.ntmps5 (Nat.le_of_ble_eq_true rfl) ?_
  (refine R.stepU ?_; (repeat' (first | (with_reducible refine And.intro ?_ ?_) | (with_reducible intro _))); all_goals refine R.Lft.mk ?_)
  all_goals
    refine ⟨?_, R.Own.below R.ohm⟩
    by_cases h1 : g.st.n ≤ 40 <;> by_cases h2 : g.hd.n ≤ 300 <;> by_cases h3 : g.wt.n ≤ 300 <;> first | (exfalso; omega) | (simp [h1, h2, h3]; done) | (simp [h1, h2, h3]; omega)⟩
instance con_size19 (g : Gph) : R.ConB Try.prog 13 #[.agg (cGph g).toArray] Unit (fun _ _ => g.st.n ≤ 1000000) (fun _ => .int .i64 ((g.st.n : Int) - 1)) := ⟨fun _ w hn => by
  have hM := R.Own.start [] w
  refine R.calls_of_WC (fn := Try.f13) Try.func13 rfl Try.ntmps13 (Nat.le_of_ble_eq_true rfl) ?_
  (refine R.stepU ?_; (repeat' (first | (with_reducible refine And.intro ?_ ?_) | (with_reducible intro _))); all_goals refine R.Lft.mk ?_; (all_goals (try (exact ⟨rfl, R.Own.below (by assumption)⟩))))⟩
theorem nanc_int (a : Int) (w : World) : Calls Try.prog 34 #[.int .i64 a] w fun e w' => e = .returned (.bool false) ∧ w = w' := by
  refine R.calls_of_WC (fn := Try.f34) Try.func34 rfl Try.ntmps34 (Nat.le_of_ble_eq_true rfl) ?_
  (refine R.stepV ?_; (repeat' (first | (with_reducible refine And.intro ?_ ?_) | (with_reducible intro _))); all_goals refine R.Lft.mk ?_)
  exact ⟨by simp, rfl⟩
instance con_nanc (a : Int) : R.ConP Try.prog 34 #[.int .i64 a] Unit (fun _ _ => True) (fun _ => .bool false) := ⟨fun _ w _ => nanc_int a w⟩
theorem less_int (a b : Int) (w : World) : Calls Try.prog 40 #[.int .i64 a, .int .i64 b] w fun e w' => e = .returned (.bool (decide (a < b))) ∧ w = w' := by
  refine R.calls_of_WC (fn := Try.f40) Try.func40 rfl Try.ntmps40 (Nat.le_of_ble_eq_true rfl) ?_
  (refine R.stepV ?_; (repeat' (first | (with_reducible refine And.intro ?_ ?_) | (with_reducible intro _))); all_goals refine R.Lft.mk ?_)
  exact ⟨rfl, rfl⟩
instance con_less (a b : Int) : R.ConP Try.prog 40 #[.int .i64 a, .int .i64 b] Unit (fun _ _ => True) (fun _ => .bool (decide (a < b))) := ⟨fun _ w _ => less_int a b w⟩
theorem sorted_any (A : Option Addr) (n c : Nat) (L : List Int) (w : World) (hA : R.Inp [] w A n 1 (L.flatMap R.cI)) (hn : n = L.length) (hb : n ≤ 1000000) (h1 : 1 ≤ n) : Calls Try.prog 35 #[.slice A n c] w fun e w' => (∃ b : Bool, e = .returned (.bool b) ∧ (b = true ↔ ∀ v, v + 1 < n → nth L v ≤ nth L (v + 1))) ∧ Below w.heap.size w w' := by
  have hM := R.Own.start [] w
  refine R.calls_of_WC (fn := Try.f35) Try.func35 rfl Try.ntmps35 (Nat.le_of_ble_eq_true rfl) ?_
  (refine R.stepU ?_; (repeat' (first | (with_reducible refine And.intro ?_ ?_) | (with_reducible intro _))); all_goals refine R.Lft.mk ?_)
  refine R.WC_loop (fun k : Nat => [(0, .slice A n c), (2, .bool false), (3, .int .i64 (k : Nat))])
    (fun k w1 => k < n ∧ R.Own [] w w1 [] ∧ ∀ v, k ≤ v → v + 1 < n → nth L v ≤ nth L (v + 1)) (fun k => k) ⟨n - 1, ⟨rfl, rfl, R.viaI rfl (by omega), trivial⟩, by omega, hM, fun v h1 h2 => by omega⟩ ?_
  clear hM
  rintro k f w1 ⟨hk, hM, hall⟩
  by_cases hlt : 0 < k
  · obtain ⟨j, rfl⟩ : ∃ j, k = j + 1 := ⟨k - 1, by omega⟩
    have e1 : (((j + 1 : Nat) : Int) - 1).toNat = j := by omega
    (refine R.stepU ?_; (repeat' (first | (with_reducible refine And.intro ?_ ?_) | (with_reducible intro _))); all_goals refine R.Lft.mk ?_)
    · rename_i hh
      rw [e1] at hh
      refine ⟨⟨false, rfl, fun h => (by cases h), fun h => ?_⟩, R.Own.below R.ohm⟩
      have := h j (by omega)
      omega
    · rename_i hh
      rw [e1] at hh
      refine ⟨j, ⟨rfl, rfl, R.viaI rfl (by omega), trivial⟩, ⟨by omega, R.ohm, fun v h2 h3 => ?_⟩, by omega⟩
      rcases Nat.lt_or_ge j v with c | c
      · exact hall v (by omega) h3
      · rw [show v = j by omega]
        omega
  · (refine R.stepU ?_; (repeat' (first | (with_reducible refine And.intro ?_ ?_) | (with_reducible intro _))); all_goals refine R.Lft.mk ?_)
    exact ⟨⟨true, rfl, fun _ v hv => hall v (by omega) hv, fun _ => rfl⟩, R.Own.below R.ohm⟩
set_option maxHeartbeats 2000000 in
theorem starts_any (g : Gph) (w : World) (hG : GGph w g) : Calls Try.prog 24 #[.agg (cGph g).toArray] w fun e w' => e = .returned (.bool (stG g)) ∧ Below w.heap.size w w' := by
  have hM := R.Own.start [] w
  obtain ⟨⟨hA, hal, hac, hag⟩, ⟨hB, hbl, hbc, hbg⟩, ⟨hC, hcl, hcc, hcg⟩⟩ := hG
  refine R.calls_of_WC (fn := Try.f24) Try.func24 rfl Try.ntmps24 (Nat.le_of_ble_eq_true rfl) ?_
  by_cases h0 : g.st.n = 0
  · (refine R.stepU ?_; (repeat' (first | (with_reducible refine And.intro ?_ ?_) | (with_reducible intro _))); all_goals refine R.Lft.mk ?_)
    exact ⟨by rw [stG_f fun h => by have := h.n1; omega], R.Own.below R.ohm⟩
  have e1 : ((g.st.n : Int) - 1).toNat = g.st.n - 1 := by omega
  have e0 : Int.toNat 0 = 0 := rfl
  (refine R.stepU ?_; (repeat' (first | (with_reducible refine And.intro ?_ ?_) | (with_reducible intro _))); all_goals refine R.Lft.mk ?_)
  all_goals first
    | exact ⟨by rw [stG_f fun h => by have := h.n1; have := h.n2; have := h.n3; have := h.n4; have := h.s0; have := h.s1; simp only [e1, e0] at *; first | contradiction | omega], R.Own.below R.ohm⟩
    | skip
  rename_i a1 a2 a3 a4 a5
  rw [e0] at a2
  rw [e1] at a3
  refine R.WO_call1 rfl rfl R.vv ?_
  refine (sorted_any g.st.A g.st.n g.st.c g.st.L _ (R.Own.inpIn R.ohm hA) hal (by omega) (by omega)).mono ?_
  rintro _ w3 ⟨⟨b, rfl, hb⟩, hb3⟩
  have hM := R.Own.call R.ohm hb3
  refine ⟨_, rfl, ?_⟩
  (refine R.stepU ?_; (repeat' (first | (with_reducible refine And.intro ?_ ?_) | (with_reducible intro _))); all_goals refine R.Lft.mk ?_)
  refine ⟨?_, R.Own.below R.ohm⟩
  cases b with
  | true => rw [stG_t ⟨by omega, by omega, by omega, by omega, Decidable.not_not.1 a2, Decidable.not_not.1 a3, hb.1 rfl⟩]
  | false => rw [stG_f fun h => by have := hb.2 h.up; cases this]
end Go.Proofs.Ytdiodefooipojaa
namespace Go.Proofs.Ytdiodefooipojaa
open Go.RowKit
open R (In64 InU64 lo64 nth)
set_option maxHeartbeats 4000000 in
theorem amay_any (g : Gph) (w : World) (hG : GGph w g) : Calls Try.prog 10 #[.agg (cGph g).toArray] w fun e w' => e = .returned (.bool (mayG g)) ∧ Below w.heap.size w w' := by
  have hM := R.Own.start [] w
  have hG0 := hG
  obtain ⟨⟨hA, hal, hac, hag⟩, ⟨hB, hbl, hbc, hbg⟩, ⟨hC, hcl, hcc, hcg⟩⟩ := hG
  refine R.calls_of_WC (fn := Try.f10) Try.func10 rfl Try.ntmps10 (Nat.le_of_ble_eq_true rfl) ?_
  (refine R.stepU ?_; (repeat' (first | (with_reducible refine And.intro ?_ ?_) | (with_reducible intro _))); all_goals refine R.Lft.mk ?_)
  rename_i gb _ _
  refine R.WO_call1 rfl rfl R.vv ?_
  refine (starts_any g _ (GGph.now R.ohm hG0)).mono ?_
  rintro _ w3 ⟨rfl, hb3⟩
  have hM := R.Own.call R.ohm hb3
  refine ⟨_, rfl, ?_⟩
  rcases Classical.em (StG g) with hs | hs
  · have n1 := hs.n1
    have n2 := hs.n2
    have n3 := hs.n3
    have n4 := hs.n4
    rw [stG_t hs]
    (refine R.stepU ?_; (repeat' (first | (with_reducible refine And.intro ?_ ?_) | (with_reducible intro _))); all_goals refine R.Lft.mk ?_)
    refine R.WC_loop (fun k : Nat => [(1, .pointer (some ⟨gb, 0, none⟩)), (2, .bool false), (3, .int .i64 ((g.st.n : Int) - 1)), (15, .int .i64 ((g.st.n : Int) - 1)), (16, .int .i64 (k : Nat))])
      (fun k w1 => k + 1 ≤ g.st.n ∧ R.Own [] w w1 [.blk gb 24 (cGph g)] ∧ ∀ v i : Nat, v < k → nth g.st.L v ≤ (i : Nat) → ((i : Nat) : Int) < nth g.st.L (v + 1) → okArc g v i) (fun k => g.st.n - k) ⟨0, ⟨rfl, rfl, rfl, rfl, rfl, trivial⟩, n1, hM, fun v i hv => absurd hv (Nat.not_lt_zero _)⟩ ?_
    clear hM
    rintro k f w1 ⟨hk, hM, hall⟩
    by_cases hlt : k + 1 < g.st.n
    · have ek : ((k : Int) + 1).toNat = k + 1 := by omega
      have hlo := hs.lo (v := k) (by omega)
      have hup := hs.up k hlt
      have hhi := hs.hi (v := k + 1) (by omega)
      (refine R.stepU ?_; (repeat' (first | (with_reducible refine And.intro ?_ ?_) | (with_reducible intro _))); all_goals refine R.Lft.mk ?_)
      refine R.WC_loop (fun j : Nat => [(1, .pointer (some ⟨gb, 0, none⟩)), (2, .bool false), (3, .int .i64 ((g.st.n : Int) - 1)), (4, .int .i64 (k : Nat)), (5, .int .i64 (j : Nat)), (15, .int .i64 ((g.st.n : Int) - 1)), (16, .int .i64 (k : Nat))])
        (fun j w1 => nth g.st.L k ≤ (j : Nat) ∧ ((j : Nat) : Int) ≤ nth g.st.L (k + 1) ∧ R.Own [] w w1 [.blk gb 24 (cGph g)] ∧ ∀ i : Nat, nth g.st.L k ≤ (i : Nat) → i < j → okArc g k i) (fun j => g.hd.n - j) ⟨(nth g.st.L k).toNat, ⟨rfl, rfl, rfl, rfl, R.viaI rfl (by omega), rfl, rfl, trivial⟩, by omega, by omega, R.ohm, fun i h1 h2 => by omega⟩ ?_
      clear hM
      rintro j f w2 ⟨hj1, hj2, hM, harc⟩
      by_cases hjt : ((j : Nat) : Int) < nth g.st.L (k + 1)
      · have hno : ¬ okArc g k j → mayG g = false := fun h => mayG_f fun hm => h (hm.arc k j hlt hj1 hjt)
        have ej : ((j : Int) - 1).toNat = j - 1 := by omega
        have hjt' : ((j : Nat) : Int) < nth g.st.L ((k : Int) + 1).toNat := by rw [ek]; exact hjt
        by_cases hjk : nth g.st.L k < (j : Nat)
        · (refine R.stepU ?_; (repeat' (first | (with_reducible refine And.intro ?_ ?_) | (with_reducible intro _))); all_goals refine R.Lft.mk ?_)
          all_goals first
            | exact ⟨by rw [hno fun h => by obtain ⟨q1, q2, q3, q4, q5⟩ := h; have q5 := q5 hjk; (try simp only [ej] at *); omega], R.Own.below R.ohm⟩
            | skip
          rename_i b1 b2 b3 b4 b5
          rw [ej] at b5
          refine ⟨j + 1, ⟨rfl, rfl, rfl, rfl, R.viaI rfl (by omega), rfl, rfl, trivial⟩, ⟨by omega, by omega, R.ohm, fun i h1 h2 => ?_⟩, by omega⟩
          rcases Nat.lt_or_ge i j with c | c
          · exact harc i h1 c
          · obtain rfl : i = j := by omega
            exact ⟨by omega, by omega, by omega, by omega, fun _ => by omega⟩
        · (refine R.stepU ?_; (repeat' (first | (with_reducible refine And.intro ?_ ?_) | (with_reducible intro _))); all_goals refine R.Lft.mk ?_)
          all_goals first
            | exact ⟨by rw [hno fun h => by obtain ⟨q1, q2, q3, q4, q5⟩ := h; omega], R.Own.below R.ohm⟩
            | skip
          rename_i b1 b2 b3 b4
          refine ⟨j + 1, ⟨rfl, rfl, rfl, rfl, R.viaI rfl (by omega), rfl, rfl, trivial⟩, ⟨by omega, by omega, R.ohm, fun i h1 h2 => ?_⟩, by omega⟩
          rcases Nat.lt_or_ge i j with c | c
          · exact harc i h1 c
          · obtain rfl : i = j := by omega
            exact ⟨by omega, by omega, by omega, by omega, fun h => absurd h hjk⟩
      · have hjt' : ¬ ((j : Nat) : Int) < nth g.st.L ((k : Int) + 1).toNat := by rw [ek]; exact hjt
        (refine R.stepU ?_; (repeat' (first | (with_reducible refine And.intro ?_ ?_) | (with_reducible intro _))); all_goals refine R.Lft.mk ?_)
        refine ⟨k + 1, ⟨rfl, rfl, rfl, rfl, R.viaI rfl (by omega), trivial⟩, ⟨by omega, R.ohm, fun v i hv h1 h2 => ?_⟩, by omega⟩
        rcases Nat.lt_or_ge v k with c | c
        · exact hall v i c h1 h2
        · obtain rfl : v = k := by omega
          exact harc i h1 (by omega)
    · (refine R.stepU ?_; (repeat' (first | (with_reducible refine And.intro ?_ ?_) | (with_reducible intro _))); all_goals refine R.Lft.mk ?_)
      rw [mayG_t { hs with arc := fun v i hv h1 h2 => hall v i (by omega) h1 h2 }]
      exact ⟨rfl, R.Own.below R.ohm⟩
  · rw [stG_f hs, mayG_f fun h => hs h.toStG]
    (refine R.stepU ?_; (repeat' (first | (with_reducible refine And.intro ?_ ?_) | (with_reducible intro _))); all_goals refine R.Lft.mk ?_; (all_goals (try (exact ⟨rfl, R.Own.below (by assumption)⟩))))
end Go.Proofs.Ytdiodefooipojaa
namespace Go.Proofs.Ytdiodefooipojaa
open Go.RowKit
open R (In64 InU64 lo64 nth)
set_option maxHeartbeats 8000000 in
theorem rmay19_any (g : Gph) (w : World) (hG : GGph w g) : Calls Try.prog 7 #[.agg (cGph g).toArray] w fun e w' => e = .returned (.bool (mayG g)) ∧ Below w.heap.size w w' := by
  have hM := R.Own.start [] w
  obtain ⟨⟨hA, hal, hac, hag⟩, ⟨hB, hbl, hbc, hbg⟩, ⟨hC, hcl, hcc, hcg⟩⟩ := hG
  refine R.calls_of_WC (fn := Try.f7) Try.func7 rfl Try.ntmps7 (Nat.le_of_ble_eq_true rfl) ?_
  by_cases h0 : g.st.n = 0
  · (refine R.stepU ?_; (repeat' (first | (with_reducible refine And.intro ?_ ?_) | (with_reducible intro _))); all_goals refine R.Lft.mk ?_)
    exact ⟨by rw [mayG_f fun h => by have := h.n1; omega], R.Own.below R.ohm⟩
  have e1 : ((g.st.n : Int) - 1).toNat = g.st.n - 1 := by omega
  have e0 : Int.toNat 0 = 0 := rfl
  (refine R.stepU ?_; (repeat' (first | (with_reducible refine And.intro ?_ ?_) | (with_reducible intro _))); all_goals refine R.Lft.mk ?_)
  all_goals first
    | exact ⟨by rw [mayG_f fun h => by have := h.n1; have := h.n2; have := h.n3; have := h.n4; have := h.s0; have := h.s1; simp only [e1, e0] at *; first | contradiction | omega], R.Own.below R.ohm⟩
    | skip
  rename_i gb _ _ _ hM a1 a2 a3 a4 a5
  rw [e0] at a4
  rw [e1] at a5
  have n1 : 1 ≤ g.st.n := by omega
  have n2 : g.st.n ≤ 4001 := by omega
  have n3 : g.hd.n ≤ 200000 := by omega
  have n4 : g.wt.n = g.hd.n := by omega
  have s0 := Decidable.not_not.1 a4
  have s1 := Decidable.not_not.1 a5
  clear a4 a5
  refine R.WC_loop (fun k : Nat => [(1, .pointer (some ⟨gb, 0, none⟩)), (2, .bool false), (3, .int .i64 ((g.st.n : Int) - 1)), (4, .int .i64 (k : Nat))])
    (fun k w1 => k + 1 ≤ g.st.n ∧ R.Own [] w w1 [.blk gb 24 (cGph g)] ∧ ∀ v : Nat, v < k → nth g.st.L v ≤ nth g.st.L (v + 1)) (fun k => g.st.n - k) ⟨0, ⟨rfl, rfl, rfl, rfl, trivial⟩, n1, hM, fun v hv => absurd hv (Nat.not_lt_zero _)⟩ ?_
  clear hM
  rintro k f w1 ⟨hk, hM, hall⟩
  by_cases hlt : k + 1 < g.st.n
  · have ek : ((k : Int) + 1).toNat = k + 1 := by omega
    (refine R.stepU ?_; (repeat' (first | (with_reducible refine And.intro ?_ ?_) | (with_reducible intro _))); all_goals refine R.Lft.mk ?_)
    · rename_i hh
      rw [ek] at hh
      exact ⟨by rw [mayG_f fun h => by have := h.up k hlt; omega], R.Own.below R.ohm⟩
    · rename_i hh
      rw [ek] at hh
      refine ⟨k + 1, ⟨rfl, rfl, rfl, R.viaI rfl (by omega), trivial⟩, ⟨by omega, R.ohm, fun v hv => ?_⟩, by omega⟩
      rcases Nat.lt_or_ge v k with c | c
      · exact hall v c
      · rw [show v = k by omega]
        omega
  have hs : StG g := ⟨n1, n2, n3, n4, s0, s1, fun v hv => hall v (by omega)⟩
  clear hall
  (refine R.stepU ?_; (repeat' (first | (with_reducible refine And.intro ?_ ?_) | (with_reducible intro _))); all_goals refine R.Lft.mk ?_)
  refine R.WC_loop (fun k : Nat => [(1, .pointer (some ⟨gb, 0, none⟩)), (2, .bool false), (3, .int .i64 ((g.st.n : Int) - 1)), (5, .int .i64 (k : Nat))])
    (fun k w1 => k + 1 ≤ g.st.n ∧ R.Own [] w w1 [.blk gb 24 (cGph g)] ∧ ∀ v i : Nat, v < k → nth g.st.L v ≤ (i : Nat) → ((i : Nat) : Int) < nth g.st.L (v + 1) → okArc g v i) (fun k => g.st.n - k) ⟨0, ⟨rfl, rfl, rfl, rfl, trivial⟩, n1, R.ohm, fun v i hv => absurd hv (Nat.not_lt_zero _)⟩ ?_
  clear hM hlt hk
  rintro k f w1 ⟨hk, hM, hall⟩
  by_cases hlt : k + 1 < g.st.n
  · have ek : ((k : Int) + 1).toNat = k + 1 := by omega
    have hlo := hs.lo (v := k) (by omega)
    have hup := hs.up k hlt
    have hhi := hs.hi (v := k + 1) (by omega)
    (refine R.stepU ?_; (repeat' (first | (with_reducible refine And.intro ?_ ?_) | (with_reducible intro _))); all_goals refine R.Lft.mk ?_)
    refine R.WC_loop (fun j : Nat => [(1, .pointer (some ⟨gb, 0, none⟩)), (2, .bool false), (3, .int .i64 ((g.st.n : Int) - 1)), (5, .int .i64 (k : Nat)), (6, .int .i64 (j : Nat))])
      (fun j w1 => nth g.st.L k ≤ (j : Nat) ∧ ((j : Nat) : Int) ≤ nth g.st.L (k + 1) ∧ R.Own [] w w1 [.blk gb 24 (cGph g)] ∧ ∀ i : Nat, nth g.st.L k ≤ (i : Nat) → i < j → okArc g k i) (fun j => g.hd.n - j) ⟨(nth g.st.L k).toNat, ⟨rfl, rfl, rfl, rfl, R.viaI rfl (by omega), trivial⟩, by omega, by omega, R.ohm, fun i h1 h2 => by omega⟩ ?_
    clear hM
    rintro j f w2 ⟨hj1, hj2, hM, harc⟩
    by_cases hjt : ((j : Nat) : Int) < nth g.st.L (k + 1)
    · have hno : ¬ okArc g k j → mayG g = false := fun h => mayG_f fun hm => h (hm.arc k j hlt hj1 hjt)
      have ej : ((j : Int) - 1).toNat = j - 1 := by omega
      have hjt' : ((j : Nat) : Int) < nth g.st.L ((k : Int) + 1).toNat := by rw [ek]; exact hjt
      by_cases hjk : nth g.st.L k < (j : Nat)
      · (refine R.stepU ?_; (repeat' (first | (with_reducible refine And.intro ?_ ?_) | (with_reducible intro _))); all_goals refine R.Lft.mk ?_)
        all_goals first
          | exact ⟨by rw [hno fun h => by obtain ⟨q1, q2, q3, q4, q5⟩ := h; have q5 := q5 hjk; (try simp only [ej] at *); omega], R.Own.below R.ohm⟩
          | skip
        rename_i b1 b2 b3 b4 b5
        rw [ej] at b5
        refine ⟨j + 1, ⟨rfl, rfl, rfl, rfl, R.viaI rfl (by omega), trivial⟩, ⟨by omega, by omega, R.ohm, fun i h1 h2 => ?_⟩, by omega⟩
        rcases Nat.lt_or_ge i j with c | c
        · exact harc i h1 c
        · obtain rfl : i = j := by omega
          exact ⟨by omega, by omega, by omega, by omega, fun _ => by omega⟩
      · (refine R.stepU ?_; (repeat' (first | (with_reducible refine And.intro ?_ ?_) | (with_reducible intro _))); all_goals refine R.Lft.mk ?_)
        all_goals first
          | exact ⟨by rw [hno fun h => by obtain ⟨q1, q2, q3, q4, q5⟩ := h; omega], R.Own.below R.ohm⟩
          | skip
        rename_i b1 b2 b3 b4
        refine ⟨j + 1, ⟨rfl, rfl, rfl, rfl, R.viaI rfl (by omega), trivial⟩, ⟨by omega, by omega, R.ohm, fun i h1 h2 => ?_⟩, by omega⟩
        rcases Nat.lt_or_ge i j with c | c
        · exact harc i h1 c
        · obtain rfl : i = j := by omega
          exact ⟨by omega, by omega, by omega, by omega, fun h => absurd h hjk⟩
    · have hjt' : ¬ ((j : Nat) : Int) < nth g.st.L ((k : Int) + 1).toNat := by rw [ek]; exact hjt
      (refine R.stepU ?_; (repeat' (first | (with_reducible refine And.intro ?_ ?_) | (with_reducible intro _))); all_goals refine R.Lft.mk ?_)
      refine ⟨k + 1, ⟨rfl, rfl, rfl, R.viaI rfl (by omega), trivial⟩, ⟨by omega, R.ohm, fun v i hv h1 h2 => ?_⟩, by omega⟩
      rcases Nat.lt_or_ge v k with c | c
      · exact hall v i c h1 h2
      · obtain rfl : v = k := by omega
        exact harc i h1 (by omega)
  · (refine R.stepU ?_; (repeat' (first | (with_reducible refine And.intro ?_ ?_) | (with_reducible intro _))); all_goals refine R.Lft.mk ?_)
    rw [mayG_t { hs with arc := fun v i hv h1 h2 => hall v i (by omega) h1 h2 }]
    exact ⟨rfl, R.Own.below R.ohm⟩
end Go.Proofs.Ytdiodefooipojaa
namespace Go.Proofs.Ytdiodefooipojaa
open Go.RowKit
open R (In64 InU64 lo64 nth)
/-- A vertex's arcs, as items: the weight is the key. -/
def outT (g : Gph) (v : Nat) (k : Nat) : List Item := (List.range k).map fun j => ⟨nth g.wt.L ((nth g.st.L v).toNat + j), nth g.hd.L ((nth g.st.L v).toNat + j)⟩
def degG (g : Gph) (v : Nat) : Nat := (nth g.st.L (v + 1)).toNat - (nth g.st.L v).toNat
theorem outT_len (g : Gph) (v k : Nat) : (outT g v k).length = k := by simp [outT]
theorem outT_nth (g : Gph) (v : Nat) {k j : Nat} (h : j < k) : nth (outT g v k) j = ⟨nth g.wt.L ((nth g.st.L v).toNat + j), nth g.hd.L ((nth g.st.L v).toNat + j)⟩ := by
  rw [R.nth_eq (by rw [outT_len]; exact h)]
  simp [outT]
theorem outT_succ (g : Gph) (v k : Nat) : outT g v (k + 1) = outT g v k ++ [⟨nth g.wt.L ((nth g.st.L v).toNat + k), nth g.hd.L ((nth g.st.L v).toNat + k)⟩] := by
  unfold outT
  rw [List.range_succ, List.map_append]
  rfl
section
variable (g : Gph) (v : Nat) (w : World) (hG : GGph w g) (hm : MayG g) (hv : v + 1 < g.st.n)
include hG hm hv
theorem aout_any : Calls Try.prog 20 #[.agg (cGph g).toArray, .int .i64 (v : Nat)] w fun e w' => ∃ A c, e = .returned (.slice A (degG g v) c) ∧ R.Gives w w' A (degG g v) c 35 2 ((outT g v (degG g v)).flatMap cItem) := by
  have hM := R.Own.start [] w
  have n2 := hm.n2
  have n3 := hm.n3
  have n4 := hm.n4
  have hlo := hm.lo (v := v) (by omega)
  have hup := hm.up v hv
  have hhi := hm.hi (v := v + 1) (by omega)
  have ek : ((v : Int) + 1).toNat = v + 1 := by omega
  obtain ⟨⟨hA, hal, hac, hag⟩, ⟨hB, hbl, hbc, hbg⟩, ⟨hC, hcl, hcc, hcg⟩⟩ := hG
  have hdg : degG g v = (nth g.st.L (v + 1)).toNat - (nth g.st.L v).toNat := rfl
  obtain ⟨s, hs⟩ : ∃ s, (nth g.st.L v).toNat = s := ⟨_, rfl⟩
  refine R.calls_of_WC (fn := Try.f20) Try.func20 rfl Try.ntmps20 (Nat.le_of_ble_eq_true rfl) ?_
  (refine R.stepU ?_; (repeat' (first | (with_reducible refine And.intro ?_ ?_) | (with_reducible intro _))); all_goals refine R.Lft.mk ?_)
  rename_i gb _ hM
  refine R.WC_loop (fun i : Nat × Option Addr × Nat => [(1, .int .i64 (v : Nat)), (2, .pointer (some ⟨gb, 0, none⟩)), (4, .slice none 0 0), (5, .slice i.2.1 i.1 i.2.2), (6, .int .i64 ((s + i.1 : Nat) : Int))])
    (fun i w1 => i.1 ≤ degG g v ∧ R.Own [] w w1 [.row i.2.1 i.1 i.2.2 35 2 ((outT g v i.1).flatMap cItem), .blk gb 24 (cGph g)]) (fun i => degG g v - i.1) ⟨(0, none, 0), ⟨rfl, rfl, rfl, rfl, R.viaI rfl (by dsimp only; omega), trivial⟩, Nat.zero_le _, R.Own.nil hM _ _⟩ ?_
  clear hM
  rintro ⟨i, A1, c1⟩ f w2 ⟨hi, hM⟩
  dsimp only at hi hM ⊢
  have hsu := outT_succ g v i
  rw [hs] at hsu
  by_cases hlt : i < degG g v
  · have hlt' : ((s + i : Nat) : Int) < nth g.st.L ((v : Int) + 1).toNat := by rw [ek]; omega
    have hb1 : s + i < g.hd.n := by omega
    (refine R.stepU ?_; (repeat' (first | (with_reducible refine And.intro ?_ ?_) | (with_reducible intro _))); all_goals refine R.Lft.mk ?_)
    refine R.WC_planD1 [(0, false), (1, false), (2, false), (3, false), (4, false), (5, false), (6, false), (7, false), (8, false), (9, false), (10, false), (11, false), (12, true), (13, true), (14, false)] R.mixed (by decide +kernel) R.ohm ?_
    (refine R.stepU ?_; (repeat' (first | (with_reducible refine And.intro ?_ ?_) | (with_reducible intro _))); all_goals refine R.Lft.mk ?_)
    rename_i A2 c2 _ hM
    refine ⟨(i + 1, A2, c2), ⟨rfl, rfl, rfl, rfl, R.viaI rfl (by dsimp only; omega), trivial⟩, ⟨by dsimp only; omega, ?_⟩, by dsimp only; omega⟩
    dsimp only
    rw [hsu]
    exact hM
  · obtain rfl : i = degG g v := by omega
    have hlt' : ¬ ((s + degG g v : Nat) : Int) < nth g.st.L ((v : Int) + 1).toNat := by rw [ek]; omega
    (refine R.stepU ?_; (repeat' (first | (with_reducible refine And.intro ?_ ?_) | (with_reducible intro _))); all_goals refine R.Lft.mk ?_)
    exact ⟨A1, c1, rfl, R.Own.gives R.ohm⟩
omit hv in
theorem asize_any : Calls Try.prog 14 #[.agg (cGph g).toArray] w fun e w' => e = .returned (.int .i64 ((g.st.n : Int) - 1)) ∧ Below w.heap.size w w' := by
  have hM := R.Own.start [] w
  have hn0 := hG.1.2.2.1
  have n1 := hm.n1
  refine R.calls_of_WC (fn := Try.f14) Try.func14 rfl Try.ntmps14 (Nat.le_of_ble_eq_true rfl) ?_
  (refine R.stepU ?_; (repeat' (first | (with_reducible refine And.intro ?_ ?_) | (with_reducible intro _))); all_goals refine R.Lft.mk ?_)
  refine R.WO_call1 rfl rfl R.vv ?_
  refine (amay_any g _ (GGph.now R.ohm hG)).mono ?_
  rintro _ w3 ⟨rfl, hb3⟩
  have hM := R.Own.call R.ohm hb3
  refine ⟨_, rfl, ?_⟩
  rw [mayG_t hm]
  (refine R.stepU ?_; (repeat' (first | (with_reducible refine And.intro ?_ ?_) | (with_reducible intro _))); all_goals refine R.Lft.mk ?_; (all_goals (try (exact ⟨rfl, R.Own.below (by assumption)⟩))))
theorem aOut_any : Calls Try.prog 8 #[.agg (cGph g).toArray, .int .i64 (v : Nat)] w fun e w' => ∃ A c, e = .returned (.slice A (degG g v) c) ∧ R.Gives w w' A (degG g v) c 35 2 ((outT g v (degG g v)).flatMap cItem) := by
  have hM := R.Own.start [] w
  have n2 := hm.n2
  have hv' : ¬ (g.st.n : Int) - 1 ≤ ((v : Nat) : Int) := by omega
  refine R.calls_of_WC (fn := Try.f8) Try.func8 rfl Try.ntmps8 (Nat.le_of_ble_eq_true rfl) ?_
  (refine R.stepU ?_; (repeat' (first | (with_reducible refine And.intro ?_ ?_) | (with_reducible intro _))); all_goals refine R.Lft.mk ?_)
  refine R.WO_call1 rfl rfl R.vv ?_
  refine (asize_any g _ (GGph.now R.ohm hG) hm).mono ?_
  rintro _ w3 ⟨rfl, hb3⟩
  have hM := R.Own.call R.ohm hb3
  refine ⟨_, rfl, ?_⟩
  (refine R.stepU ?_; (repeat' (first | (with_reducible refine And.intro ?_ ?_) | (with_reducible intro _))); all_goals refine R.Lft.mk ?_)
  refine R.WO_call2 rfl rfl R.vv R.vv ?_
  refine (aout_any g v _ (GGph.now R.ohm hG) hm hv).mono ?_
  rintro _ w4 ⟨A, c, rfl, hGv⟩
  have hM := R.Own.give R.ohm hGv
  refine ⟨_, rfl, ?_⟩
  (refine R.stepU ?_; (repeat' (first | (with_reducible refine And.intro ?_ ?_) | (with_reducible intro _))); all_goals refine R.Lft.mk ?_)
  exact ⟨A, c, rfl, R.Own.gives R.ohm⟩
end
end Go.Proofs.Ytdiodefooipojaa
namespace Go.Proofs.Ytdiodefooipojaa
open Go.RowKit
open R (In64 InU64 lo64 nth)

/-- An item that leads there: its key; -1 where there is none. -/
def arcF (L : List Item) (u : Int) : Int := match L.find? (fun x => decide (x.at_ = u)) with
  | some x => x.key
  | none => -1
theorem arcF_at {L : List Item} {u : Int} {k : Nat} (hk : k < L.length) (h1 : ∀ j, j < k → (nth L j).at_ ≠ u) (h2 : (nth L k).at_ = u) : arcF L u = (nth L k).key := by
  have e : L.find? (fun x => decide (x.at_ = u)) = some (nth L k) := by
    rw [List.find?_eq_some_iff_append]
    refine ⟨decide_eq_true h2, L.take k, L.drop (k + 1), ?_, fun a ha => ?_⟩
    · rw [R.nth_eq hk, ← List.drop_eq_getElem_cons hk, List.take_append_drop]
    · obtain ⟨q, hq, rfl⟩ := List.getElem_of_mem ha
      rw [List.length_take] at hq
      have := h1 q (by omega)
      rw [R.nth_eq (by omega)] at this
      rw [List.getElem_take]
      simpa using this
  unfold arcF
  rw [e]
theorem arcF_none {L : List Item} {u : Int} (h : ∀ j, j < L.length → (nth L j).at_ ≠ u) : arcF L u = -1 := by
  have e : L.find? (fun x => decide (x.at_ = u)) = none := by
    rw [List.find?_eq_none]
    intro x hx
    obtain ⟨q, hq, rfl⟩ := List.getElem_of_mem hx
    have := h q hq
    rw [R.nth_eq hq] at this
    simpa using this
  unfold arcF
  rw [e]
/-- Items whose ends rise. -/
def riseI (L : List Item) : Prop := ∀ i j, i < j → j < L.length → (nth L i).at_ < (nth L j).at_
theorem outT_rise {g : Gph} (hm : MayG g) {v : Nat} (hv : v + 1 < g.st.n) : riseI (outT g v (degG g v)) := fun i j hij hj => by
  rw [outT_len] at hj
  have hlo := hm.lo (v := v) (by omega)
  have hup := hm.up v hv
  have key : ∀ d, i + d + 1 ≤ j → (nth (outT g v (degG g v)) i).at_ < (nth (outT g v (degG g v)) (i + d + 1)).at_ := fun d => by
    induction d with
    | zero =>
      intro h
      rw [outT_nth g v (by omega), outT_nth g v (by omega)]
      have := (hm.arc v ((nth g.st.L v).toNat + (i + 0 + 1)) hv (by omega) (by unfold degG at hj; omega)).2.2.2.2 (by omega)
      rw [show (nth g.st.L v).toNat + (i + 0 + 1) - 1 = (nth g.st.L v).toNat + i by omega] at this
      exact this
    | succ d ih =>
      intro h
      have h1 := ih (by omega)
      rw [outT_nth g v (by omega), outT_nth g v (by omega)] at h1 ⊢
      have := (hm.arc v ((nth g.st.L v).toNat + (i + (d + 1) + 1)) hv (by omega) (by unfold degG at hj; omega)).2.2.2.2 (by omega)
      rw [show (nth g.st.L v).toNat + (i + (d + 1) + 1) - 1 = (nth g.st.L v).toNat + (i + d + 1) by omega] at this
      dsimp only at h1 ⊢
      omega
  have := key (j - i - 1) (by omega)
  rwa [show i + (j - i - 1) + 1 = j by omega] at this
theorem outT_key {g : Gph} (hm : MayG g) {v : Nat} (hv : v + 1 < g.st.n) {i : Nat} (hi : i < degG g v) : 0 ≤ (nth (outT g v (degG g v)) i).key := by
  have hlo := hm.lo (v := v) (by omega)
  have hup := hm.up v hv
  rw [outT_nth g v hi]
  exact (hm.arc v ((nth g.st.L v).toNat + i) hv (by omega) (by unfold degG at hi; omega)).2.2.1
instance con_arcc (x : Item) (u : Int) : R.ConB Try.prog 22 #[.agg (cItem x).toArray, .int .i64 u] Unit (fun _ _ => True) (fun _ => .int .i64 (cmpZ x.at_ u)) := ⟨fun _ w _ => by
  have hM := R.Own.start [] w
  refine R.calls_of_WC (fn := Try.f22) Try.func22 rfl Try.ntmps22 (Nat.le_of_ble_eq_true rfl) ?_
  (refine R.stepU ?_; (repeat' (first | (with_reducible refine And.intro ?_ ?_) | (with_reducible intro _))); all_goals refine R.Lft.mk ?_; (all_goals (try (exact ⟨rfl, R.Own.below (by assumption)⟩))))⟩
theorem cmpZ_ltc {x u : Int} : cmpZ x u < 0 ↔ x < u := by
  rcases Int.lt_trichotomy x u with h | h | h
  · rw [cmpZ_lt h]; exact ⟨fun _ => h, fun _ => by decide⟩
  · subst h; rw [cmpZ_self]; omega
  · rw [cmpZ_gt h]; omega
theorem cmpZ_eqc {x u : Int} : cmpZ x u = 0 ↔ x = u := by
  rcases Int.lt_trichotomy x u with h | h | h
  · rw [cmpZ_lt h]; omega
  · subst h; rw [cmpZ_self]; simp
  · rw [cmpZ_gt h]; omega
set_option maxHeartbeats 1000000 in
attribute [local irreducible] cmpZ in
theorem searchI (A : Option Addr) (n c : Nat) (L : List Item) (u : Int) (w : World) (hA : R.Inp [] w A n 2 (L.flatMap cItem)) (hn : n = L.length) (hb : n ≤ 1000000000) (hr : riseI L) :
    Calls Try.prog 21 #[.slice A n c, .int .i64 u, .func (.func 22) #[] #[]] w fun e w' => (∃ (i : Nat) (b : Bool), e = .returned (.tuple #[.int .i64 (i : Nat), .bool b]) ∧ (b = true → i < n ∧ (nth L i).at_ = u) ∧ (b = false → ∀ j, j < n → (nth L j).at_ ≠ u)) ∧ Below w.heap.size w w' := by
  have hM := R.Own.start [] w
  refine R.calls_of_WC (fn := Try.f21) Try.func21 rfl Try.ntmps21 (Nat.le_of_ble_eq_true rfl) ?_
  (refine R.stepU ?_; (repeat' (first | (with_reducible refine And.intro ?_ ?_) | (with_reducible intro _))); all_goals refine R.Lft.mk ?_)
  refine R.WC_loop (fun (i : Nat × Nat) => [(0, .slice A n c), (1, .int .i64 u), (2, .func (.func 22) #[] #[]), (6, .int .i64 0), (7, .bool false), (8, .int .i64 (n : Nat)), (9, .int .i64 (i.1 : Nat)), (10, .int .i64 (i.2 : Nat))])
    (fun i w1 => i.1 ≤ i.2 ∧ i.2 ≤ n ∧ R.Own [] w w1 [] ∧ (∀ j, j < i.1 → (nth L j).at_ < u) ∧ (∀ j, i.2 ≤ j → j < L.length → u ≤ (nth L j).at_)) (fun i => i.2 - i.1)
    ⟨(0, n), ⟨rfl, rfl, rfl, rfl, rfl, rfl, rfl, rfl, trivial⟩, by simp, by simp, hM, by simp, by intro j h1 h2; simp at h1; omega⟩ ?_
  clear hM
  rintro ⟨i, j⟩ f w1 ⟨hij, hj, hM, h1, h2⟩
  simp only at hij hj hM h1 h2 ⊢
  by_cases hlt : i < j
  · obtain ⟨h, hh⟩ : ∃ h : Nat, ((i : Int) + j) / 2 = h := ⟨(i + j) / 2, by omega⟩
    have hh1 : i ≤ h := by omega
    have hh2 : h < j := by omega
    have hth : ((h : Nat) : Int).toNat = h := Int.toNat_natCast h
    (refine R.stepV ?_; (repeat' (first | (with_reducible refine And.intro ?_ ?_) | (with_reducible intro _))); all_goals refine R.Lft.mk ?_)
    · rename_i hx
      rw [hh, hth] at hx
      have hx := cmpZ_ltc.1 hx
      exact ⟨(h + 1, j), ⟨rfl, rfl, rfl, rfl, rfl, rfl, R.viaI rfl (by simp only; omega), rfl, trivial⟩, ⟨by simp only; omega, hj, R.ohm, fun q hq => by
        simp only at hq
        rcases Nat.lt_or_ge q h with g | g
        · have := hr q h g (by omega)
          omega
        · obtain rfl : q = h := by omega
          exact hx, h2⟩, by simp only; omega⟩
    · rename_i hx
      rw [hh, hth] at hx
      have hx : ¬ (nth L h).at_ < u := fun g => hx (cmpZ_ltc.2 g)
      exact ⟨(i, h), ⟨rfl, rfl, rfl, rfl, rfl, rfl, rfl, R.viaI rfl (by simp only; omega), trivial⟩, ⟨by simp only; omega, by simp only; omega, R.ohm, h1, fun q hq hq2 => by
        simp only at hq
        rcases Nat.lt_or_ge h q with g | g
        · have := hr h q g hq2
          omega
        · obtain rfl : q = h := by omega
          omega⟩, by simp only; omega⟩
  · obtain rfl : i = j := by omega
    by_cases hin : i < n
    · have hall : (nth L i).at_ ≠ u → ∀ j, j < n → (nth L j).at_ ≠ u := fun hne q hq e => by
        rcases Nat.lt_trichotomy q i with g | g | g
        · have := h1 q g
          omega
        · subst g
          exact hne e
        · have h3 := hr i q g (by omega)
          have h4 := h2 i (Nat.le_refl _) (by omega)
          omega
      by_cases he : (nth L i).at_ = u
      · have hc : cmpZ (nth L i).at_ u = 0 := cmpZ_eqc.2 he
        (refine R.stepU ?_; (repeat' (first | (with_reducible refine And.intro ?_ ?_) | (with_reducible intro _))); all_goals refine R.Lft.mk ?_)
        exact ⟨⟨i, true, by rw [decide_eq_true hc], fun _ => ⟨hin, he⟩, fun h => (by cases h)⟩, R.Own.below (by assumption)⟩
      · have hc : ¬ cmpZ (nth L i).at_ u = 0 := fun g => he (cmpZ_eqc.1 g)
        (refine R.stepU ?_; (repeat' (first | (with_reducible refine And.intro ?_ ?_) | (with_reducible intro _))); all_goals refine R.Lft.mk ?_)
        exact ⟨⟨i, false, by rw [decide_eq_false hc], fun h => (by cases h), fun _ => hall he⟩, R.Own.below (by assumption)⟩
    · have hall : ∀ j, j < n → (nth L j).at_ ≠ u := fun q hq e => by
        have := h1 q (by omega)
        omega
      (refine R.stepU ?_; (repeat' (first | (with_reducible refine And.intro ?_ ?_) | (with_reducible intro _))); all_goals refine R.Lft.mk ?_)
      exact ⟨⟨i, false, rfl, fun h => (by cases h), fun _ => hall⟩, R.Own.below (by assumption)⟩
section
variable (g : Gph) (v : Nat) (u : Int) (w : World) (hG : GGph w g) (hm : MayG g) (hv : v + 1 < g.st.n)
include hG hm hv
theorem rarc_any : Calls Try.prog 15 #[.agg (cGph g).toArray, .int .i64 (v : Nat), .int .i64 u] w fun e w' => e = .returned (.int .i64 (arcF (outT g v (degG g v)) u)) ∧ Below w.heap.size w w' := by
  have hM := R.Own.start [] w
  have n2 := hm.n2
  have n3 := hm.n3
  have n4 := hm.n4
  have hlo := hm.lo (v := v) (by omega)
  have hup := hm.up v hv
  have hhi := hm.hi (v := v + 1) (by omega)
  have ek : ((v : Int) + 1).toNat = v + 1 := by omega
  obtain ⟨⟨hA, hal, hac, hag⟩, ⟨hB, hbl, hbc, hbg⟩, ⟨hC, hcl, hcc, hcg⟩⟩ := hG
  have hdg : degG g v = (nth g.st.L (v + 1)).toNat - (nth g.st.L v).toNat := rfl
  obtain ⟨s, hs⟩ : ∃ s, (nth g.st.L v).toNat = s := ⟨_, rfl⟩
  have hol := outT_len g v (degG g v)
  refine R.calls_of_WC (fn := Try.f15) Try.func15 rfl Try.ntmps15 (Nat.le_of_ble_eq_true rfl) ?_
  (refine R.stepU ?_; (repeat' (first | (with_reducible refine And.intro ?_ ?_) | (with_reducible intro _))); all_goals refine R.Lft.mk ?_)
  rename_i gb _ _ _ hM
  refine R.WC_loop (fun k : Nat => [(1, .int .i64 (v : Nat)), (2, .int .i64 u), (3, .pointer (some ⟨gb, 0, none⟩)), (6, .int .i64 0), (7, .int .i64 ((s + k : Nat) : Int))])
    (fun k w1 => k ≤ degG g v ∧ R.Own [] w w1 [.blk gb 24 (cGph g)] ∧ ∀ j, j < k → (nth (outT g v (degG g v)) j).at_ ≠ u) (fun k => degG g v - k) ⟨0, ⟨rfl, rfl, rfl, rfl, R.viaI rfl (by omega), trivial⟩, Nat.zero_le _, hM, fun j hj => absurd hj (Nat.not_lt_zero _)⟩ ?_
  clear hM
  rintro k f w2 ⟨hk, hM, hall⟩
  by_cases hlt : k < degG g v
  · have hlt' : ((s + k : Nat) : Int) < nth g.st.L ((v : Int) + 1).toNat := by rw [ek]; omega
    have hb1 : s + k < g.hd.n := by omega
    have ho := outT_nth g v hlt
    rw [hs] at ho
    (refine R.stepU ?_; (repeat' (first | (with_reducible refine And.intro ?_ ?_) | (with_reducible intro _))); all_goals refine R.Lft.mk ?_)
    · rename_i he
      rw [arcF_at (k := k) (by omega) hall (by rw [ho]; exact he), ho]
      exact ⟨rfl, R.Own.below (by assumption)⟩
    · rename_i he
      refine ⟨k + 1, ⟨rfl, rfl, rfl, rfl, R.viaI rfl (by omega), trivial⟩, ⟨by omega, by assumption, fun j hj => ?_⟩, by omega⟩
      rcases Nat.lt_or_ge j k with q | q
      · exact hall j q
      · obtain rfl : j = k := by omega
        rw [ho]
        exact he
  · obtain rfl : k = degG g v := by omega
    have hlt' : ¬ ((s + degG g v : Nat) : Int) < nth g.st.L ((v : Int) + 1).toNat := by rw [ek]; omega
    rw [arcF_none (by rw [hol]; exact hall)]
    (refine R.stepU ?_; (repeat' (first | (with_reducible refine And.intro ?_ ?_) | (with_reducible intro _))); all_goals refine R.Lft.mk ?_)
    exact ⟨rfl, R.Own.below (by assumption)⟩
theorem aarc_any : Calls Try.prog 9 #[.agg (cGph g).toArray, .int .i64 (v : Nat), .int .i64 u] w fun e w' => e = .returned (.tuple #[.int .i64 (if 0 ≤ arcF (outT g v (degG g v)) u then arcF (outT g v (degG g v)) u else 0), .bool (decide (0 ≤ arcF (outT g v (degG g v)) u))]) ∧ Below w.heap.size w w' := by
  have hM := R.Own.start [] w
  have hdl : degG g v ≤ 200000 := by
    have := hm.n3
    have := hm.hi (v := v + 1) (by omega)
    unfold degG
    omega
  refine R.calls_of_WC (fn := Try.f9) Try.func9 rfl Try.ntmps9 (Nat.le_of_ble_eq_true rfl) ?_
  (refine R.stepU ?_; (repeat' (first | (with_reducible refine And.intro ?_ ?_) | (with_reducible intro _))); all_goals refine R.Lft.mk ?_)
  rename_i hM
  refine R.WO_call2 rfl rfl R.vv R.vv ?_
  refine (aOut_any g v _ (GGph.now hM hG) hm hv).mono ?_
  rintro _ w3 ⟨A, c, rfl, hGv⟩
  have hM := R.Own.give hM hGv
  refine ⟨_, rfl, ?_⟩
  (refine R.stepU ?_; (repeat' (first | (with_reducible refine And.intro ?_ ?_) | (with_reducible intro _))); all_goals refine R.Lft.mk ?_)
  refine R.WO_call3 rfl rfl R.vv R.vv R.vv ?_
  refine (searchI A (degG g v) c (outT g v (degG g v)) u _ (R.Own.inp R.ohm R.memb) (outT_len g v _).symm (by omega) (outT_rise hm hv)).mono ?_
  rintro _ w4 ⟨⟨i, b, rfl, k1, k2⟩, hb4⟩
  have hM := hM.call hb4
  refine ⟨_, rfl, ?_⟩
  have hol := outT_len g v (degG g v)
  cases b with
  | true =>
    obtain ⟨i1, i2⟩ := k1 rfl
    have hk := outT_key hm hv i1
    have he : arcF (outT g v (degG g v)) u = (nth (outT g v (degG g v)) i).key := arcF_at (by omega) (fun j hj e => by
      have := outT_rise hm hv j i hj (by omega)
      omega) i2
    rw [he, if_pos hk, decide_eq_true hk]
    (refine R.stepU ?_; (repeat' (first | (with_reducible refine And.intro ?_ ?_) | (with_reducible intro _))); all_goals refine R.Lft.mk ?_)
    exact ⟨rfl, R.Own.below (by assumption)⟩
  | false =>
    rw [arcF_none (by rw [hol]; exact k2 rfl)]
    (refine R.stepU ?_; (repeat' (first | (with_reducible refine And.intro ?_ ?_) | (with_reducible intro _))); all_goals refine R.Lft.mk ?_)
    exact ⟨rfl, R.Own.below (by assumption)⟩
end
end Go.Proofs.Ytdiodefooipojaa
namespace Go.Proofs.Ytdiodefooipojaa
open Go.RowKit
open R (In64 InU64 lo64 nth)

theorem same_next {L M : List Int} {k : Nat} (h : ∀ i, i < k → nth L i = nth M i) (hk : nth L k = nth M k) : ∀ i, i < k + 1 → nth L i = nth M i := fun i hi => by
  rcases Nat.lt_or_ge i k with h1 | h1
  · exact h i h1
  · obtain rfl : i = k := by omega
    exact hk
theorem same_list {L M : List Int} (hl : L.length = M.length) (h : ∀ i, i < L.length → nth L i = nth M i) : L = M :=
  List.ext_getElem hl fun i h1 h2 => by rw [← R.nth_eq h1, ← R.nth_eq h2]; exact h i h1
/-- Are lists of numbers the same? -/
theorem same01 (A B : Option Addr) (n c m d : Nat) (L M : List Int) (w : World) (hA : R.Inp [] w A n 1 (L.flatMap R.cI)) (hn : n = L.length) (hnb : n ≤ 9223372036854775807) (hB : R.Inp [] w B m 1 (M.flatMap R.cI)) (hm : m = M.length) : Calls Try.prog 26 #[.slice A n c, .slice B m d] w fun e w' => e = .returned (.bool (decide (L = M))) ∧ Below w.heap.size w w' := by
  have hM := R.Own.start [] w
  by_cases hl : n = m
  · refine R.calls_of_WC (fn := Try.f26) Try.func26 rfl Try.ntmps26 (Nat.le_of_ble_eq_true rfl) ?_
    (refine R.stepV ?_; (repeat' (first | (with_reducible refine And.intro ?_ ?_) | (with_reducible intro _))); all_goals refine R.Lft.mk ?_)
    refine R.WC_loop (fun k : Nat => [(0, .slice A n c), (1, .slice B m d), (4, .bool false), (5, .int .i64 (k : Nat))])
      (fun k w2 => k ≤ n ∧ R.Own [] w w2 [] ∧ ∀ i, i < k → nth L i = nth M i) (fun k => n - k) ⟨0, ⟨rfl, rfl, rfl, rfl, trivial⟩, by omega, hM, fun i hi => absurd hi (Nat.not_lt_zero _)⟩ ?_
    clear hM
    rintro k f w2 ⟨hk, hM, hall⟩
    by_cases hlt : k < n
    · (refine R.stepV ?_; (repeat' (first | (with_reducible refine And.intro ?_ ?_) | (with_reducible intro _))); all_goals refine R.Lft.mk ?_)
      · have h : nth L k ≠ nth M k := by assumption
        rw [decide_eq_false (fun g : L = M => h (by rw [g]))]
        exact ⟨rfl, R.Own.below (by assumption)⟩
      · have h : ¬ nth L k ≠ nth M k := by assumption
        exact ⟨k + 1, ⟨rfl, rfl, rfl, R.viaI rfl (by omega), trivial⟩, ⟨by omega, by assumption, same_next hall (by simpa using h)⟩, by omega⟩
    · obtain rfl : k = n := by omega
      (refine R.stepV ?_; (repeat' (first | (with_reducible refine And.intro ?_ ?_) | (with_reducible intro _))); all_goals refine R.Lft.mk ?_)
      rw [decide_eq_true (same_list (by omega) (by rw [← hn]; exact hall))]
      exact ⟨rfl, R.Own.below (by assumption)⟩
  · rw [decide_eq_false (fun g : L = M => hl (by rw [hn, hm, g]))]
    refine R.calls_of_WC (fn := Try.f26) Try.func26 rfl Try.ntmps26 (Nat.le_of_ble_eq_true rfl) ?_
    (refine R.stepV ?_; (repeat' (first | (with_reducible refine And.intro ?_ ?_) | (with_reducible intro _))); all_goals refine R.Lft.mk ?_)
    all_goals first
      | exact ⟨rfl, R.Own.below (by assumption)⟩
      | (exfalso; omega)
theorem equal_Int (A B : Option Addr) (n c m d : Nat) (L M : List Int) (w : World) (hA : R.Inp [] w A n 1 (L.flatMap R.cI)) (hB : R.Inp [] w B m 1 (M.flatMap R.cI)) (hn : n = L.length) (hm : m = M.length) (hb : n ≤ 1000000000 ∨ m ≤ 1000000000) : Calls Try.prog 25 #[.slice A n c, .slice B m d] w fun e w' => e = .returned (.bool (decide (L = M))) ∧ Below w.heap.size w w' := by
  have hM := R.Own.start [] w
  by_cases hl : n = m
  · refine R.calls_of_WC (fn := Try.f25) Try.func25 rfl Try.ntmps25 (Nat.le_of_ble_eq_true rfl) ?_
    subst hl
    (refine R.stepV ?_; (repeat' (first | (with_reducible refine And.intro ?_ ?_) | (with_reducible intro _))); all_goals refine R.Lft.mk ?_)
    refine R.WC_loop (fun k : Nat => [(0, .slice A n c), (1, .slice B n d), (4, .bool false), (12, .int .i64 (n : Nat)), (13, .int .i64 (k : Nat))])
      (fun k w1 => k ≤ n ∧ R.Own [] w w1 [] ∧ ∀ j, j < k → nth L j = nth M j) (fun k => n - k) ⟨0, ⟨rfl, rfl, rfl, rfl, rfl, trivial⟩, Nat.zero_le _, hM, fun j hj => absurd hj (Nat.not_lt_zero _)⟩ ?_
    clear hM
    rintro k f w1 ⟨hk, hM, hall⟩
    by_cases hlt : k < n
    · (refine R.stepV ?_; (repeat' (first | (with_reducible refine And.intro ?_ ?_) | (with_reducible intro _))); all_goals refine R.Lft.mk ?_)
      · rename_i hh
        have hne : ¬ L = M := fun he => hh (by rw [he])
        exact ⟨by rw [decide_eq_false hne], R.Own.below R.ohm⟩
      · rename_i hh
        exact ⟨k + 1, ⟨rfl, rfl, rfl, rfl, R.viaI rfl (by omega), trivial⟩, ⟨by omega, R.ohm, same_next hall (Decidable.not_not.1 hh)⟩, by omega⟩
    · (refine R.stepV ?_; (repeat' (first | (with_reducible refine And.intro ?_ ?_) | (with_reducible intro _))); all_goals refine R.Lft.mk ?_)
      exact ⟨by rw [decide_eq_true (same_list (by omega) fun j hj => hall j (by omega))], R.Own.below R.ohm⟩
  · refine R.calls_of_WC (fn := Try.f25) Try.func25 rfl Try.ntmps25 (Nat.le_of_ble_eq_true rfl) ?_
    (refine R.stepV ?_; (repeat' (first | (with_reducible refine And.intro ?_ ?_) | (with_reducible intro _))); all_goals refine R.Lft.mk ?_)
    have hne : ¬ L = M := fun he => by
      rw [he] at hn
      omega
    exact ⟨by rw [decide_eq_false hne], R.Own.below R.ohm⟩
theorem GGph.lasts {W : World} {g : Gph} (h : GGph W g) : R.Lasts GGph W g := fun _ hb => ⟨⟨h.1.1.ext hb, h.1.2⟩, ⟨h.2.1.1.ext hb, h.2.1.2⟩, ⟨h.2.2.1.ext hb, h.2.2.2⟩⟩
instance con_amay (g : Gph) : R.ConB Try.prog 10 #[.agg (cGph g).toArray] Unit (fun _ w => GGph w g) (fun _ => .bool (mayG g)) := ⟨fun _ w h => amay_any g w h⟩
instance con_rmay19 (g : Gph) : R.ConB Try.prog 7 #[.agg (cGph g).toArray] Unit (fun _ w => GGph w g) (fun _ => .bool (mayG g)) := ⟨fun _ w h => rmay19_any g w h⟩
def sizeG (g : Gph) : Int := (g.st.n : Int) - 1
noncomputable def sizeB (g : Gph) : Int := if mayG g then sizeG g else 0
instance con_asize (g : Gph) : R.ConB Try.prog 14 #[.agg (cGph g).toArray] Unit (fun _ w => GGph w g) (fun _ => .int .i64 (sizeB g)) := ⟨fun _ w h => by
  have hM := R.Own.start [] w
  have hL := h.lasts
  have hn := h.1.2.2.1
  unfold sizeB sizeG
  cases hm : mayG g with
  | true =>
    have n1 := (mayG_p hm).n1
    rw [if_pos rfl]
    refine R.calls_of_WC (fn := Try.f14) Try.func14 rfl Try.ntmps14 (Nat.le_of_ble_eq_true rfl) ?_
    (refine R.stepU ?_; (repeat' (first | (with_reducible refine And.intro ?_ ?_) | (with_reducible intro _))); all_goals refine R.Lft.mk ?_)
    all_goals first
      | exact ⟨rfl, R.Own.below (by assumption)⟩
      | exact nbw_t hm (by assumption)
  | false =>
    rw [if_neg (by decide)]
    refine R.calls_of_WC (fn := Try.f14) Try.func14 rfl Try.ntmps14 (Nat.le_of_ble_eq_true rfl) ?_
    (refine R.stepU ?_; (repeat' (first | (with_reducible refine And.intro ?_ ?_) | (with_reducible intro _))); all_goals refine R.Lft.mk ?_)
    all_goals first
      | exact ⟨rfl, R.Own.below (by assumption)⟩
      | exact nbw_f hm (by assumption)⟩
theorem aOut_no (g : Gph) (v : Int) (w : World) (h : GGph w g) (hv : v < 0 ∨ sizeB g ≤ v) : Calls Try.prog 8 #[.agg (cGph g).toArray, .int .i64 v] w fun e w' => e = .returned (.slice none 0 0) ∧ Below w.heap.size w w' := by
  have hM := R.Own.start [] w
  have hL := h.lasts
  refine R.calls_of_WC (fn := Try.f8) Try.func8 rfl Try.ntmps8 (Nat.le_of_ble_eq_true rfl) ?_
  (refine R.stepU ?_; (repeat' (first | (with_reducible refine And.intro ?_ ?_) | (with_reducible intro _))); all_goals refine R.Lft.mk ?_)
  all_goals first
    | exact ⟨rfl, R.Own.below (by assumption)⟩
    | (exfalso; omega)
def eqG (a b : Gph) : Bool := decide (a.st.L = b.st.L) && (decide (a.hd.L = b.hd.L) && decide (a.wt.L = b.wt.L))
theorem asame_any (a b : Gph) (w : World) (ha : GGph w a) (hb : GGph w b) (hs : a.st.n ≤ 1000000 ∧ a.hd.n ≤ 1000000 ∧ a.wt.n ≤ 1000000) : Calls Try.prog 11 #[.agg (cGph a).toArray, .agg (cGph b).toArray] w fun e w' => e = .returned (.bool (eqG a b)) ∧ Below w.heap.size w w' := by
  have hM := R.Own.start [] w
  refine R.calls_of_WC (fn := Try.f11) Try.func11 rfl Try.ntmps11 (Nat.le_of_ble_eq_true rfl) ?_
  (refine R.stepU ?_; (repeat' (first | (with_reducible refine And.intro ?_ ?_) | (with_reducible intro _))); all_goals refine R.Lft.mk ?_)
  rename_i hM
  refine R.WO_call2 rfl rfl R.vv R.vv ?_
  refine (equal_Int a.st.A b.st.A a.st.n a.st.c b.st.n b.st.c a.st.L b.st.L _ (hM.inpIn ha.1.1) (hM.inpIn hb.1.1) ha.1.2.1 hb.1.2.1 (.inl (by omega))).mono ?_
  rintro _ w2 ⟨rfl, hb2⟩
  have hM := hM.call hb2
  refine ⟨_, rfl, ?_⟩
  by_cases n0 : ¬ a.st.L = b.st.L
  · rw [decide_eq_false n0]
    (refine R.stepU ?_; (repeat' (first | (with_reducible refine And.intro ?_ ?_) | (with_reducible intro _))); all_goals refine R.Lft.mk ?_)
    exact ⟨by unfold eqG; rw [decide_eq_false n0]; simp, R.Own.below (by assumption)⟩
  have e0 := Decidable.not_not.1 n0
  rw [decide_eq_true e0]
  (refine R.stepU ?_; (repeat' (first | (with_reducible refine And.intro ?_ ?_) | (with_reducible intro _))); all_goals refine R.Lft.mk ?_)
  rename_i hM
  refine R.WO_call2 rfl rfl R.vv R.vv ?_
  refine (equal_Int a.hd.A b.hd.A a.hd.n a.hd.c b.hd.n b.hd.c a.hd.L b.hd.L _ (hM.inpIn ha.2.1.1) (hM.inpIn hb.2.1.1) ha.2.1.2.1 hb.2.1.2.1 (.inl (by omega))).mono ?_
  rintro _ w3 ⟨rfl, hb3⟩
  have hM := hM.call hb3
  refine ⟨_, rfl, ?_⟩
  by_cases n1 : ¬ a.hd.L = b.hd.L
  · rw [decide_eq_false n1]
    (refine R.stepU ?_; (repeat' (first | (with_reducible refine And.intro ?_ ?_) | (with_reducible intro _))); all_goals refine R.Lft.mk ?_)
    exact ⟨by unfold eqG; rw [decide_eq_false n1]; simp, R.Own.below (by assumption)⟩
  have e1 := Decidable.not_not.1 n1
  rw [decide_eq_true e1]
  (refine R.stepU ?_; (repeat' (first | (with_reducible refine And.intro ?_ ?_) | (with_reducible intro _))); all_goals refine R.Lft.mk ?_)
  rename_i hM
  refine R.WO_call2 rfl rfl R.vv R.vv ?_
  refine (equal_Int a.wt.A b.wt.A a.wt.n a.wt.c b.wt.n b.wt.c a.wt.L b.wt.L _ (hM.inpIn ha.2.2.1) (hM.inpIn hb.2.2.1) ha.2.2.2.1 hb.2.2.2.1 (.inl (by omega))).mono ?_
  rintro _ w4 ⟨rfl, hb4⟩
  have hM := hM.call hb4
  refine ⟨_, rfl, ?_⟩
  (refine R.stepU ?_; (repeat' (first | (with_reducible refine And.intro ?_ ?_) | (with_reducible intro _))); all_goals refine R.Lft.mk ?_)
  exact ⟨by unfold eqG; rw [decide_eq_true e0, decide_eq_true e1]; rfl, R.Own.below (by assumption)⟩
theorem rsame_any (a b : Gph) (w : World) (ha : GGph w a) (hb : GGph w b) (hs : a.st.n ≤ 1000000 ∧ a.hd.n ≤ 1000000 ∧ a.wt.n ≤ 1000000) : Calls Try.prog 12 #[.agg (cGph a).toArray, .agg (cGph b).toArray] w fun e w' => e = .returned (.bool (eqG a b)) ∧ Below w.heap.size w w' := by
  have hM := R.Own.start [] w
  refine R.calls_of_WC (fn := Try.f12) Try.func12 rfl Try.ntmps12 (Nat.le_of_ble_eq_true rfl) ?_
  (refine R.stepU ?_; (repeat' (first | (with_reducible refine And.intro ?_ ?_) | (with_reducible intro _))); all_goals refine R.Lft.mk ?_)
  rename_i hM
  refine R.WO_call2 rfl rfl R.vv R.vv ?_
  refine (same01 a.st.A b.st.A a.st.n a.st.c b.st.n b.st.c a.st.L b.st.L _ (hM.inpIn ha.1.1) ha.1.2.1 (by omega) (hM.inpIn hb.1.1) hb.1.2.1).mono ?_
  rintro _ w2 ⟨rfl, hb2⟩
  have hM := hM.call hb2
  refine ⟨_, rfl, ?_⟩
  by_cases n0 : ¬ a.st.L = b.st.L
  · rw [decide_eq_false n0]
    (refine R.stepU ?_; (repeat' (first | (with_reducible refine And.intro ?_ ?_) | (with_reducible intro _))); all_goals refine R.Lft.mk ?_)
    exact ⟨by unfold eqG; rw [decide_eq_false n0]; simp, R.Own.below (by assumption)⟩
  have e0 := Decidable.not_not.1 n0
  rw [decide_eq_true e0]
  (refine R.stepU ?_; (repeat' (first | (with_reducible refine And.intro ?_ ?_) | (with_reducible intro _))); all_goals refine R.Lft.mk ?_)
  rename_i hM
  refine R.WO_call2 rfl rfl R.vv R.vv ?_
  refine (same01 a.hd.A b.hd.A a.hd.n a.hd.c b.hd.n b.hd.c a.hd.L b.hd.L _ (hM.inpIn ha.2.1.1) ha.2.1.2.1 (by omega) (hM.inpIn hb.2.1.1) hb.2.1.2.1).mono ?_
  rintro _ w3 ⟨rfl, hb3⟩
  have hM := hM.call hb3
  refine ⟨_, rfl, ?_⟩
  by_cases n1 : ¬ a.hd.L = b.hd.L
  · rw [decide_eq_false n1]
    (refine R.stepU ?_; (repeat' (first | (with_reducible refine And.intro ?_ ?_) | (with_reducible intro _))); all_goals refine R.Lft.mk ?_)
    exact ⟨by unfold eqG; rw [decide_eq_false n1]; simp, R.Own.below (by assumption)⟩
  have e1 := Decidable.not_not.1 n1
  rw [decide_eq_true e1]
  (refine R.stepU ?_; (repeat' (first | (with_reducible refine And.intro ?_ ?_) | (with_reducible intro _))); all_goals refine R.Lft.mk ?_)
  rename_i hM
  refine R.WO_call2 rfl rfl R.vv R.vv ?_
  refine (same01 a.wt.A b.wt.A a.wt.n a.wt.c b.wt.n b.wt.c a.wt.L b.wt.L _ (hM.inpIn ha.2.2.1) ha.2.2.2.1 (by omega) (hM.inpIn hb.2.2.1) hb.2.2.2.1).mono ?_
  rintro _ w4 ⟨rfl, hb4⟩
  have hM := hM.call hb4
  refine ⟨_, rfl, ?_⟩
  (refine R.stepU ?_; (repeat' (first | (with_reducible refine And.intro ?_ ?_) | (with_reducible intro _))); all_goals refine R.Lft.mk ?_)
  exact ⟨by unfold eqG; rw [decide_eq_true e0, decide_eq_true e1]; rfl, R.Own.below (by assumption)⟩
instance con_asame (a b : Gph) : R.ConB Try.prog 11 #[.agg (cGph a).toArray, .agg (cGph b).toArray] Unit (fun _ w => GGph w a ∧ GGph w b ∧ a.st.n ≤ 1000000 ∧ a.hd.n ≤ 1000000 ∧ a.wt.n ≤ 1000000) (fun _ => .bool (eqG a b)) := ⟨fun _ w h => asame_any a b w h.1 h.2.1 h.2.2⟩
instance con_rsame (a b : Gph) : R.ConB Try.prog 12 #[.agg (cGph a).toArray, .agg (cGph b).toArray] Unit (fun _ w => GGph w a ∧ GGph w b ∧ a.st.n ≤ 1000000 ∧ a.hd.n ≤ 1000000 ∧ a.wt.n ≤ 1000000) (fun _ => .bool (eqG a b)) := ⟨fun _ w h => rsame_any a b w h.1 h.2.1 h.2.2⟩
end Go.Proofs.Ytdiodefooipojaa
