/- What the walks on graphs share. -/
import Derived.Test.YtegbidklcaccjaaHf
import Derived.Test.YtegbidklcaccjaaGm
namespace Go.Proofs.Ytegbidklcaccjaa
open Go.RowKit
open R (In64 InU64 lo64 nth)
theorem nodup_le {S : List Nat} {n : Nat} (h : S.Nodup) (hs : ∀ u ∈ S, u < n) : S.length ≤ n := by
  have := h.length_le_of_subset (l₂ := List.range n) fun u hu => List.mem_range.2 (hs u hu)
  rwa [List.length_range] at this
theorem nth_put {L : List Int} {v w : Nat} {c : Int} (hv : v < L.length) : nth (L.set v c) w = if v = w then c else nth L w := by
  unfold R.nth
  rw [List.getD_eq_getElem?_getD, List.getD_eq_getElem?_getD, List.getElem?_set]
  by_cases e : v = w
  · subst e; rw [if_pos rfl, if_pos hv, if_pos rfl]; rfl
  · rw [if_neg e, if_neg e]
theorem R.subl {p : Prop} (h : p := by repeat (first | exact List.Sublist.refl _ | apply List.Sublist.cons_cons | apply List.Sublist.cons)) : p := h
theorem hp_none {F : List Nat} {W0 w : World} {l : List R.Res} {g b N : Nat} {κ : Int → Option Int} (h : Hp F W0 w l g b 0 N κ) : ∀ a, κ a = none := by
  obtain ⟨A, c, L, es, clk, m, h1, h2, h3, h4, hM⟩ := h
  intro a
  cases hk : κ a with
  | none => rfl
  | some k =>
    have := (h2.has ⟨k, a⟩).2 hk
    rw [List.eq_nil_of_length_eq_zero h1] at this
    cases this
def asI (f : List Nat) : List Int := f.map fun u => ((u : Nat) : Int)
theorem asI_len (f : List Nat) : (asI f).length = f.length := by unfold asI; rw [List.length_map]
theorem nth_asI {f : List Nat} {i : Nat} (h : i < f.length) : nth (asI f) i = ((nth f i : Nat) : Int) := by
  rw [R.nth_eq (by rw [asI_len]; exact h), R.nth_eq h]
  simp [asI]
theorem MayG.rise {g : Gph} (h : MayG g) {u a b : Nat} (hu : u + 1 < g.st.n) (ha : nth g.st.L u ≤ (a : Nat)) (hab : a < b) (hb : ((b : Nat) : Int) < nth g.st.L (u + 1)) : nth g.hd.L a < nth g.hd.L b := by
  induction b with
  | zero => omega
  | succ b ih =>
    have h1 := (h.arc u (b + 1) hu (by omega) hb).2.2.2.2 (by omega)
    rw [Nat.add_sub_cancel] at h1
    rcases Nat.lt_or_ge a b with c | c
    · have := ih c (by omega)
      omega
    · rw [show a = b by omega]
      exact h1
theorem cap_ofD {F : List Nat} {W w : World} {l : List R.Res} {A : Option Addr} {n c sz : Nat} {e : TypeId} {cs : List Value} (hM : R.Own F W w l) (hm : .row A n c e sz cs ∈ l) : n ≤ c ∧ c ≤ 9223372036854775807 := by
  have hr : w.ownsRow 0 e sz (.slice A n c) n cs := R.Own.ok hM _ hm
  rcases hr.2 with ⟨hv, h0⟩ | ⟨g, cap, cur, hv, _, _, h3, h4, _⟩
  · injection hv with _ _ a3
    omega
  · injection hv with _ _ a3
    unfold maxLen at *
    omega
theorem wfs {L : List Int} (h : ∀ v ∈ L, -1000 ≤ v ∧ v ≤ 1000) (w : World) : ∀ v ∈ L, GI w v := fun v hv => R.wf64 (by have := h v hv; unfold In64; omega)
/-- A vertex's arcs, as items: the weight is the key. -/
def outT (g : Gph) (v : Nat) (k : Nat) : List Item := (List.range k).map fun j => ⟨nth g.wt.L ((nth g.st.L v).toNat + j), nth g.hd.L ((nth g.st.L v).toNat + j)⟩
def degG (g : Gph) (v : Nat) : Nat := (nth g.st.L (v + 1)).toNat - (nth g.st.L v).toNat
theorem outT_len (g : Gph) (v k : Nat) : (outT g v k).length = k := by simp [outT]
theorem outT_nth (g : Gph) (v : Nat) {k j : Nat} (h : j < k) : nth (outT g v k) j = ⟨nth g.wt.L ((nth g.st.L v).toNat + j), nth g.hd.L ((nth g.st.L v).toNat + j)⟩ := by
  rw [R.nth_eq (by rw [outT_len]; exact h)]
  simp [outT]
theorem outT_succ (g : Gph) (v k : Nat) : outT g v (k + 1) = outT g v k ++ [⟨nth g.wt.L ((nth g.st.L v).toNat + k), nth g.hd.L ((nth g.st.L v).toNat + k)⟩] := by
  unfold outT
  rw [List.range_succ, List.map_append]
  rfl
section
variable (g : Gph) (v : Nat) (w : World) (hG : GGph w g) (hm : MayG g) (hv : v + 1 < g.st.n)
include hG hm hv
theorem aout_any : Calls Try.prog 50 #[.agg (cGph g).toArray, .int .i64 (v : Nat)] w fun e w' => ∃ A c, e = .returned (.slice A (degG g v) c) ∧ R.Gives w w' A (degG g v) c 72 2 ((outT g v (degG g v)).flatMap cItem) := by
  have hM := R.Own.start [] w
  have n2 := hm.n2
  have n3 := hm.n3
  have n4 := hm.n4
  have hlo := hm.lo (v := v) (by omega)
  have hup := hm.up v hv
  have hhi := hm.hi (v := v + 1) (by omega)
  have ek : ((v : Int) + 1).toNat = v + 1 := by omega
  obtain ⟨⟨hA, hal, hac, hag⟩, ⟨hB, hbl, hbc, hbg⟩, ⟨hC, hcl, hcc, hcg⟩⟩ := hG
  have hdg : degG g v = (nth g.st.L (v + 1)).toNat - (nth g.st.L v).toNat := rfl
  obtain ⟨s, hs⟩ : ∃ s, (nth g.st.L v).toNat = s := ⟨_, rfl⟩
  refine R.calls_of_WC (fn := Try.f50) Try.func50 rfl Try.ntmps50 (Nat.le_of_ble_eq_true rfl) ?_
  (refine R.stepH ?_; (repeat' (first | (with_reducible refine And.intro ?_ ?_) | (with_reducible intro _))); all_goals refine R.Lft.mk ?_)
  rename_i gb _ hM
  refine R.WC_loop (fun i : Nat × Option Addr × Nat => [(1, .int .i64 (v : Nat)), (2, .pointer (some ⟨gb, 0, none⟩)), (4, .slice none 0 0), (5, .slice i.2.1 i.1 i.2.2), (6, .int .i64 ((s + i.1 : Nat) : Int))])
    (fun i w1 => i.1 ≤ degG g v ∧ R.Own [] w w1 [.row i.2.1 i.1 i.2.2 72 2 ((outT g v i.1).flatMap cItem), .blk gb 24 (cGph g)]) (fun i => degG g v - i.1) ⟨(0, none, 0), ⟨rfl, rfl, rfl, rfl, R.viaI rfl (by dsimp only; omega), trivial⟩, Nat.zero_le _, R.Own.nil hM _ _⟩ ?_
  clear hM
  rintro ⟨i, A1, c1⟩ f w2 ⟨hi, hM⟩
  dsimp only at hi hM ⊢
  have hsu := outT_succ g v i
  rw [hs] at hsu
  by_cases hlt : i < degG g v
  · have hlt' : ((s + i : Nat) : Int) < nth g.st.L ((v : Int) + 1).toNat := by rw [ek]; omega
    have hb1 : s + i < g.hd.n := by omega
    (refine R.stepH ?_; (repeat' (first | (with_reducible refine And.intro ?_ ?_) | (with_reducible intro _))); all_goals refine R.Lft.mk ?_)
    refine R.WC_planD1 [(0, false), (1, false), (2, false), (3, false), (4, false), (5, false), (6, false), (7, false), (8, false), (9, false), (10, false), (11, false), (12, true), (13, true), (14, false)] R.mixed (by decide +kernel) R.ohm ?_
    (refine R.stepH ?_; (repeat' (first | (with_reducible refine And.intro ?_ ?_) | (with_reducible intro _))); all_goals refine R.Lft.mk ?_)
    rename_i A2 c2 _ hM
    refine ⟨(i + 1, A2, c2), ⟨rfl, rfl, rfl, rfl, R.viaI rfl (by dsimp only; omega), trivial⟩, ⟨by dsimp only; omega, ?_⟩, by dsimp only; omega⟩
    dsimp only
    rw [hsu]
    exact hM
  · obtain rfl : i = degG g v := by omega
    have hlt' : ¬ ((s + degG g v : Nat) : Int) < nth g.st.L ((v : Int) + 1).toNat := by rw [ek]; omega
    (refine R.stepH ?_; (repeat' (first | (with_reducible refine And.intro ?_ ?_) | (with_reducible intro _))); all_goals refine R.Lft.mk ?_)
    exact ⟨A1, c1, rfl, R.Own.gives R.ohm⟩
end
end Go.Proofs.Ytegbidklcaccjaa
