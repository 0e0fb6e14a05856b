/- An order in which each arc leads on: arcs, and the document's walk. -/
import Derived.Test.YtegbidklcaccjaaKa
namespace Go.Proofs.Ytegbidklcaccjaa
open Go.RowKit
open R (In64 InU64 lo64 nth)
def acG (g : Gph) : Ac := ⟨g.st.n - 1, g.hd.n, fun v => (nth g.st.L v).toNat, fun i => (nth g.hd.L i).toNat⟩
theorem acG_ok {g : Gph} (h : MayG g) : (acG g).Ok := by
  have n1 := h.n1
  have h0 : (acG g).S 0 = 0 := by show (nth g.st.L 0).toNat = 0; rw [h.s0]; rfl
  have h1 : (acG g).S (acG g).n = (acG g).m := by show (nth g.st.L (g.st.n - 1)).toNat = g.hd.n; rw [h.s1]; exact Int.toNat_natCast _
  refine ⟨h0, h1, fun v hv => ?_, fun i hi => ?_⟩
  · have hv : v < g.st.n - 1 := hv
    have a := h.up v (by omega)
    have b := h.lo (v := v) (by omega)
    show (nth g.st.L v).toNat ≤ (nth g.st.L (v + 1)).toNat
    omega
  · obtain ⟨u, hu, q1, q2⟩ := Ac.tail_ (I := acG g) h0 (i := i) (acG g).n (by rw [h1]; exact hi)
    have hu : u < g.st.n - 1 := hu
    have q1 : (nth g.st.L u).toNat ≤ i := q1
    have q2 : i < (nth g.st.L (u + 1)).toNat := q2
    have a := h.arc u i (by omega) (by omega) (by omega)
    obtain ⟨a1, a2, _⟩ := a
    show (nth g.hd.L i).toNat < g.st.n - 1
    omega
instance decOf (I : Ac) (u i : Nat) : Decidable (I.of u i) := by unfold Ac.of; infer_instance
/-- The weight of the first arc from v to w; -1: there is none. -/
def arcV (g : Gph) (v w : Nat) : Int := match (List.range g.hd.n).find? fun i => decide ((acG g).of v i ∧ (acG g).H i = w) with
  | some i => nth g.wt.L i
  | none => -1
theorem arcV_none {g : Gph} {v w : Nat} (h : ∀ i, i < g.hd.n → (acG g).of v i → (acG g).H i ≠ w) : arcV g v w = -1 := by
  have : (List.range g.hd.n).find? (fun i => decide ((acG g).of v i ∧ (acG g).H i = w)) = none := by
    rw [List.find?_eq_none]
    intro i hi
    simp only [decide_eq_true_eq]
    exact fun q => h i (List.mem_range.1 hi) q.1 q.2
  unfold arcV
  rw [this]
theorem arcV_at {g : Gph} {v w j : Nat} (hj : j < g.hd.n) (h1 : (acG g).of v j) (h2 : (acG g).H j = w) (h : ∀ i, i < j → (acG g).of v i → (acG g).H i ≠ w) : arcV g v w = nth g.wt.L j := by
  have : (List.range g.hd.n).find? (fun i => decide ((acG g).of v i ∧ (acG g).H i = w)) = some j := by
    rw [List.find?_range_eq_some]
    refine ⟨by simpa using ⟨h1, h2⟩, List.mem_range.2 hj, fun i hi => ?_⟩
    have := h i hi
    simp only [Bool.not_eq_true', decide_eq_false_iff_not]
    exact fun q => this q.1 q.2
  unfold arcV
  rw [this]
theorem arcV_iff {g : Gph} (hm : MayG g) {v w : Nat} (hv : v + 1 < g.st.n) : 0 ≤ arcV g v w ↔ (acG g).leads v w := by
  have hI := acG_ok hm
  have hvn : v < (acG g).n := by show v < g.st.n - 1; omega
  constructor
  · intro h
    refine Classical.byContradiction fun hn => ?_
    rw [arcV_none fun i _ ho e => hn ⟨i, ho, e⟩] at h
    omega
  · intro h
    have key : ∀ k, (∀ i, i < k → (acG g).of v i → (acG g).H i ≠ w) ∨ ∃ j, j < k ∧ (acG g).of v j ∧ (acG g).H j = w ∧ ∀ i, i < j → (acG g).of v i → (acG g).H i ≠ w := by
      intro k
      induction k with
      | zero => exact .inl fun i hi => absurd hi (Nat.not_lt_zero _)
      | succ k ih =>
        rcases ih with c | ⟨j, h1, h2, h3, h4⟩
        · rcases Classical.em ((acG g).of v k ∧ (acG g).H k = w) with q | q
          · exact .inr ⟨k, by omega, q.1, q.2, c⟩
          · refine .inl fun i hi ho e => ?_
            rcases Nat.lt_or_ge i k with d | d
            · exact c i d ho e
            · have : i = k := by omega
              subst this
              exact q ⟨ho, e⟩
        · exact .inr ⟨j, by omega, h2, h3, h4⟩
    obtain ⟨i, ho, e⟩ := h
    rcases key (i + 1) with c | ⟨j, h1, h2, h3, h4⟩
    · exact absurd e (c i (by omega) ho)
    · have hj := hI.lt hvn h2
      rw [arcV_at hj h2 h3 h4]
      have a1 : (nth g.st.L v).toNat ≤ j := h2.1
      have a2 : j < (nth g.st.L (v + 1)).toNat := h2.2
      exact (hm.arc v j hv (by omega) (by omega)).2.2.1
section
variable (g : Gph) (w : World) (hG : GGph w g) (hm : MayG g)
include hG hm
theorem karc_any (v u : Nat) (hv : v + 1 < g.st.n) : Calls Try.prog 68 #[.agg (cGph g).toArray, .int .i64 (v : Nat), .int .i64 (u : Nat)] w fun e w' => e = .returned (.int .i64 (arcV g v u)) ∧ Below w.heap.size w w' := by
  have hM := R.Own.start [] w
  have n2 := hm.n2
  have n3 := hm.n3
  have n4 := hm.n4
  have hlo := hm.lo (v := v) (by omega)
  have hup := hm.up v hv
  have hhi := hm.hi (v := v + 1) (by omega)
  have ek : ((v : Int) + 1).toNat = v + 1 := by omega
  obtain ⟨⟨hA, hal, hac, hag⟩, ⟨hB, hbl, hbc, hbg⟩, ⟨hC, hcl, hcc, hcg⟩⟩ := hG
  have hS : (acG g).S v = (nth g.st.L v).toNat := rfl
  have hS1 : (acG g).S (v + 1) = (nth g.st.L (v + 1)).toNat := rfl
  refine R.calls_of_WC (fn := Try.f68) Try.func68 rfl Try.ntmps68 (Nat.le_of_ble_eq_true rfl) ?_
  (refine R.stepH ?_; (repeat' (first | (with_reducible refine And.intro ?_ ?_) | (with_reducible intro _))); all_goals refine R.Lft.mk ?_)
  all_goals first
    | (exfalso; omega)
    | skip
  rename_i gb _ _ _ hM
  refine R.WC_loop (fun i : Nat => [(1, .int .i64 (v : Nat)), (2, .int .i64 (u : Nat)), (3, .pointer (some ⟨gb, 0, none⟩)), (6, .int .i64 0), (7, .int .i64 (i : Nat))])
    (fun i w1 => (acG g).S v ≤ i ∧ i ≤ (acG g).S (v + 1) ∧ (∀ j, j < i → (acG g).of v j → (acG g).H j ≠ u) ∧ R.Own [] w w1 [.blk gb 24 (cGph g)]) (fun i => (acG g).S (v + 1) - i) ⟨(acG g).S v, ⟨rfl, rfl, rfl, rfl, R.viaI rfl (by omega), trivial⟩, Nat.le_refl _, by omega, fun j hj ho => by have := ho.1; omega, hM⟩ ?_
  clear hM
  rintro i f w2 ⟨hi1, hi2, hall, hM⟩
  by_cases hlt : i < (acG g).S (v + 1)
  · have hlt' : ((i : Nat) : Int) < nth g.st.L ((v : Int) + 1).toNat := by rw [ek]; omega
    have ha := (hm.arc v i hv (by omega) (by omega)).1
    have hH : (acG g).H i = (nth g.hd.L i).toNat := rfl
    (refine R.stepH ?_; (repeat' (first | (with_reducible refine And.intro ?_ ?_) | (with_reducible intro _))); all_goals refine R.Lft.mk ?_)
    · rename_i hh
      rw [arcV_at (by omega) ⟨hi1, hlt⟩ (by omega) hall]
      exact ⟨rfl, R.Own.below R.ohm⟩
    · rename_i hh
      refine ⟨i + 1, ⟨rfl, rfl, rfl, rfl, R.viaI rfl (by omega), trivial⟩, ⟨by omega, by omega, fun j hj ho => ?_, R.ohm⟩, by omega⟩
      rcases Nat.lt_or_ge j i with c | c
      · exact hall j c ho
      · have : j = i := by omega
        subst this
        omega
  · have hlt' : ¬ ((i : Nat) : Int) < nth g.st.L ((v : Int) + 1).toNat := by rw [ek]; omega
    rw [arcV_none fun j _ ho => hall j (by have := ho.2; omega) ho]
    (refine R.stepH ?_; (repeat' (first | (with_reducible refine And.intro ?_ ?_) | (with_reducible intro _))); all_goals refine R.Lft.mk ?_; (all_goals (try (exact ⟨rfl, R.Own.below (by assumption)⟩))))
end
end Go.Proofs.Ytegbidklcaccjaa
