/- Package heap: Set: the walk. -/
import Derived.Test.YtegbidklcaccjaaHc
namespace Go.Proofs.Ytegbidklcaccjaa
open Go.RowKit
open R (In64 InU64 lo64 nth)
theorem putM_self {m : Int → Option Int} {a v : Int} (h : m a = some v) : R.putM m a v = m := by
  funext q
  unfold R.putM
  split
  · rename_i e; rw [e, h]
  · rfl
theorem mem_set {L : List Item} {j : Nat} {x : Item} (hj : j < L.length) {m : Int → Option Int} (hMO : MapOk L m) (hx : (nth L j).at_ = x.at_) (y : Item) : y ∈ L.set j x ↔ y = x ∨ (y ∈ L ∧ y.at_ ≠ x.at_) := by
  rw [mem_nth, mem_nth, List.length_set]
  constructor
  · rintro ⟨q, hq, rfl⟩
    rw [nth_set hq]
    by_cases e : j = q
    · rw [if_pos e]; exact .inl rfl
    · rw [if_neg e]
      refine .inr ⟨⟨q, hq, rfl⟩, fun c => e (hMO.inj hj hq (hx.trans c.symm))⟩
  · rintro (rfl | ⟨⟨q, hq, rfl⟩, hne⟩)
    · exact ⟨j, hj, by rw [nth_set hj, if_pos rfl]⟩
    · exact ⟨q, hq, by rw [nth_set hq, if_neg (fun c => hne (by rw [← c, hx]))]⟩
theorem MapOk.set {L : List Item} {m : Int → Option Int} (h : MapOk L m) {j : Nat} {x : Item} (hx : (nth L j).at_ = x.at_) : MapOk (L.set j x) m := by
  have e : ∀ q, q < L.length → (nth (L.set j x) q).at_ = (nth L q).at_ := fun q hq => by
    rw [nth_set hq]
    split
    · rename_i c; rw [← c, hx]
    · rfl
  constructor
  · intro q hq
    rw [List.length_set] at hq
    rw [e q hq]
    exact h.1 q hq
  · intro a v hv
    obtain ⟨q, hq, e1, e2⟩ := h.2 a v hv
    exact ⟨q, by rw [List.length_set]; exact hq, e1, by rw [e q hq]; exact e2⟩
theorem MapOk.app {L : List Item} {m : Int → Option Int} (h : MapOk L m) {x : Item} (hx : m x.at_ = none) : MapOk (L ++ [x]) (R.putM m x.at_ (L.length : Nat)) := by
  constructor
  · intro q hq
    rw [List.length_append, List.length_singleton] at hq
    rcases Nat.lt_or_ge q L.length with c | c
    · rw [nth_app c]
      have := h.1 q c
      rw [R.putM_ne (fun e => by rw [e, hx] at this; cases this)]
      exact this
    · obtain rfl : q = L.length := by omega
      rw [nth_last, R.putM_same]
  · intro a v hv
    rw [List.length_append, List.length_singleton]
    by_cases e : a = x.at_
    · rw [e, R.putM_same] at hv
      injection hv with hv
      exact ⟨L.length, by omega, hv.symm, by rw [nth_last, e]⟩
    · rw [R.putM_ne e] at hv
      obtain ⟨q, hq, e1, e2⟩ := h.2 a v hv
      exact ⟨q, by omega, e1, by rw [nth_app hq]; exact e2⟩
theorem set_last {L : List Item} {x : Item} : (L ++ [x]).set L.length x = L ++ [x] := by simp
theorem isM_le {P : Program} {k e : TypeId} {es : Array MapEntry} {clk n n' : Nat} {m : Int → Option Int} (h : R.IsM P k e es clk n m) (hn : n ≤ n') : R.IsM P k e es clk n' m := fun w b hb => by
  obtain ⟨D, ho, hv⟩ := h w b hb
  exact ⟨D, ho.mono hn, hv⟩
/-- Is something done? -/
def setB (κ : Int → Option Int) (x : Item) : Bool := decide (κ x.at_ ≠ some x.key)
section
variable {F : List Nat} {W0 w : World} {l : List R.Res} {g b nn N : Nat} {κ : Int → Option Int}
/-- What stands behind an item that was laid at its place: it rises, then sinks. -/
theorem settle {ga c j : Nat} {L : List Item} {es : Array MapEntry} {clk : Nat} {m : Int → Option Int} {x : Item} {gx : Nat} (hn : nn = L.length) (hb : nn ≤ 1000000) (hj : j < nn) (hB : Bk L j) (hG : ∀ y ∈ L, In64 y.key ∧ In64 y.at_) (hI : R.IsM Try.prog 3 3 es clk N m) (hN : N < maxLen) (hMO : MapOk L m) (hx : nth L j = x)
    (hM : R.Own F W0 w (.row (some ⟨ga, 0, none⟩) nn c 72 2 (L.flatMap cItem) :: .map b es clk :: .blk g 151 [.slice (some ⟨ga, 0, none⟩) nn c, .map (some b)] :: .blk gx 72 (cItem x) :: l)) :
    Calls Try.prog 94 #[.pointer (some ⟨g, 0, none⟩), .int .i64 (j : Nat)] w fun e w' => e = .returned (.tuple #[]) ∧ ∃ L' i' es' clk' m', R.IsM Try.prog 3 3 es' clk' N m' ∧ MapOk L' m' ∧ L'.length = nn ∧ (∀ y, y ∈ L' ↔ y ∈ L) ∧ i' < nn ∧ Bk L' i' ∧ Up L' i' ∧ m' x.at_ = some ((i' : Nat) : Int) ∧ R.Own F W0 w' (.row (some ⟨ga, 0, none⟩) nn c 72 2 (L'.flatMap cItem) :: .map b es' clk' :: .blk g 151 [.slice (some ⟨ga, 0, none⟩) nn c, .map (some b)] :: .blk gx 72 (cItem x) :: l) := by
  refine (up_own ga b g nn c j N L es clk m w hn hb hj hB hG hI hN hMO F W0 (.blk gx 72 (cItem x) :: l) hM).mono ?_
  rintro e w' ⟨rfl, L', i', es', clk', m', q1, q2, q3, q4, q5, q6, q7, q8, q9⟩
  refine ⟨rfl, L', i', es', clk', m', q1, q2, q3, q4, q5, q6, q7, ?_, q9⟩
  have := q2.1 i' (by omega)
  rwa [q8, hx] at this
set_option maxHeartbeats 2000000 in
theorem set_hp (h : Hp F W0 w l g b nn N κ) {x : Item} (hx : In64 x.key ∧ In64 x.at_) (hnn : nn < 1000000) (hN : N + 1 < maxLen) : Calls Try.prog 76 #[.pointer (some ⟨g, 0, none⟩), .agg (cItem x).toArray] w fun e w' => e = .returned (.bool (setB κ x)) ∧ Hp F W0 w' l g b (if κ x.at_ = none then nn + 1 else nn) (N + 1) (R.putM κ x.at_ x.key) := by
  obtain ⟨A, c, L, es, clk, m, h1, h2, h3, h4, hM⟩ := h
  obtain ⟨hx1, hx2⟩ := hx
  cases hm : m x.at_ with
  | none =>
    have hk := h2.none hm
    rw [show setB κ x = true from decide_eq_true (by rw [hk]; simp), if_pos hk]
    refine R.calls_of_WC (fn := Try.f76) Try.func76 rfl Try.ntmps76 (Nat.le_of_ble_eq_true rfl) ?_
    (refine R.stepH ?_; (repeat' (first | (with_reducible refine And.intro ?_ ?_) | (with_reducible intro _))); all_goals refine R.Lft.mk ?_)
    rotate_left
    · exfalso
      have hh : (!(m x.at_).isSome) = false := by assumption
      rw [hm] at hh
      cases hh
    rename_i gx _ _ _ hM _
    have hM := R.Own.swap hM
    refine R.WC_planXD1 [(0, false), (1, false), (2, false), (3, false), (4, false), (5, false), (6, true), (7, true), (8, false), (9, false), (10, true)] R.mixed (by decide +kernel) R.ohm ?_
    (refine R.stepH ?_; (repeat' (first | (with_reducible refine And.intro ?_ ?_) | (with_reducible intro _))); all_goals refine R.Lft.mk ?_)
    rename_i A1 c1 _ _ _ _ _ hM
    subst h1
    refine R.WO_mapSet rfl rfl rfl rfl hx2 (by unfold In64; omega) R.ohm h3 (by omega) (fun _ _ => .tail (.tail .head)) (fun es1 clk1 w1 hI1 hM => ?_)
    obtain ⟨ga, cur, rfl, _⟩ := row_form (hM.ok _ (.head _)) (by omega)
    have hal : (L ++ [x]).length = L.length + 1 := by simp
    have hG2 : ∀ y ∈ L ++ [x], In64 y.key ∧ In64 y.at_ := fun y hy => by
      rcases List.mem_append.1 hy with c | c
      · exact h4 y c
      · rw [List.mem_singleton.1 c]; exact ⟨hx1, hx2⟩
    have hM : R.Own F W0 w1 (.row (some ⟨ga, 0, none⟩) (L.length + 1) c1 72 2 ((L ++ [x]).flatMap cItem) :: .blk gx 72 (cItem x) :: .map b es1 clk1 :: .blk g 151 [.slice (some ⟨ga, 0, none⟩) (L.length + 1) c1, .map (some b)] :: l) := hM
    (refine R.stepH ?_; (repeat' (first | (with_reducible refine And.intro ?_ ?_) | (with_reducible intro _))); all_goals refine R.Lft.mk ?_)
    rename_i hM
    rw [set_last] at hM
    have hM := R.pk (r := .row _ _ _ _ _ _) (R.pk (r := .map _ _ _) (R.pk (r := .blk g _ _) hM))
    refine R.WO_call2 rfl rfl R.vv R.vv ?_
    refine (settle (w := _) (l := l) (g := g) (b := b) (N := N + 1) (gx := gx) (x := x) (j := L.length) hal.symm (by omega) (by omega) (h2.ord.app x) hG2 hI1 hN (h2.map.app hm) nth_last hM).mono ?_
    rintro _ w2 ⟨rfl, L2, i2, es2, clk2, m2, hI2, hMO2, hl2, hmem2, hi2, hB2, hU2, hm2, hM⟩
    refine ⟨_, rfl, ?_⟩
    (refine R.stepH ?_; (repeat' (first | (with_reducible refine And.intro ?_ ?_) | (with_reducible intro _))); all_goals refine R.Lft.mk ?_)
    rw [show (m2 x.at_).getD 0 = ((i2 : Nat) : Int) by rw [hm2]; rfl]
    refine R.WO_call2 rfl rfl R.vv R.vv ?_
    refine (down_own ga b g _ _ i2 (N + 1) L2 es2 clk2 m2 _ hl2.symm (by omega) (by omega) hB2 hU2 (fun y hy => hG2 y ((hmem2 y).1 hy)) hI2 hN hMO2 F W0 (.blk gx 72 (cItem x) :: l) R.ohm).mono ?_
    rintro _ w3 ⟨rfl, L3, es3, clk3, m3, hI3, hMO3, hl3, hmem3, hO3, hM⟩
    refine ⟨_, rfl, ?_⟩
    (refine R.stepH ?_; (repeat' (first | (with_reducible refine And.intro ?_ ?_) | (with_reducible intro _))); all_goals refine R.Lft.mk ?_)
    refine ⟨rfl, some ⟨ga, 0, none⟩, _, L3, es3, clk3, m3, hl3, ⟨hMO3, hO3, fun y => ?_⟩, hI3, fun y hy => hG2 y ((hmem2 y).1 ((hmem3 y).1 hy)), R.dr (.blk gx _ _) R.ohm⟩
    rw [hmem3, hmem2, List.mem_append, h2.has, List.mem_singleton]
    by_cases e : y.at_ = x.at_
    · rw [e, hk, R.putM_same]
      constructor
      · rintro (c | rfl)
        · cases c
        · rfl
      · intro c
        injection c with c
        exact .inr (by cases y; cases x; simp_all)
    · rw [R.putM_ne e]
      constructor
      · rintro (c | rfl)
        · exact c
        · exact absurd rfl e
      · exact .inl
  | some v =>
    obtain ⟨j, hj, e1, e2, e3⟩ := h2.there hm
    subst h1
    subst e1
    have hgd : (m x.at_).getD 0 = ((j : Nat) : Int) := by rw [hm]; rfl
    have hgt : ((m x.at_).getD 0).toNat = j := by rw [hgd]; rfl
    obtain ⟨ga, cur, rfl, _⟩ := row_form (hM.ok _ (.head _)) (by omega)
    rw [if_neg (by rw [e3]; simp)]
    by_cases hkey : (nth L j).key = x.key
    · rw [show setB κ x = false from decide_eq_false (by rw [e3, hkey]; simp), putM_self (by rw [e3, hkey])]
      have hkey2 : (nth L ((m x.at_).getD 0).toNat).key = x.key := by rw [hgt]; exact hkey
      refine R.calls_of_WC (fn := Try.f76) Try.func76 rfl Try.ntmps76 (Nat.le_of_ble_eq_true rfl) ?_
      (refine R.stepH ?_; (repeat' (first | (with_reducible refine And.intro ?_ ?_) | (with_reducible intro _))); all_goals refine R.Lft.mk ?_)
      · exfalso
        have hh : (!(m x.at_).isSome) = true := by assumption
        rw [hm] at hh
        cases hh
      · rename_i gx _ _ _ _ _ _ hM
        exact ⟨rfl, some ⟨ga, 0, none⟩, c, L, es, clk, m, rfl, h2, isM_le h3 (Nat.le_succ N), h4, R.dr (.blk gx _ _) hM⟩
    · have hkey2 : ¬ (nth L ((m x.at_).getD 0).toNat).key = x.key := by rw [hgt]; exact hkey
      rw [show setB κ x = true from decide_eq_true (by rw [e3]; simpa using hkey)]
      refine R.calls_of_WC (fn := Try.f76) Try.func76 rfl Try.ntmps76 (Nat.le_of_ble_eq_true rfl) ?_
      (refine R.stepH ?_; (repeat' (first | (with_reducible refine And.intro ?_ ?_) | (with_reducible intro _))); all_goals refine R.Lft.mk ?_)
      · exfalso
        have hh : (!(m x.at_).isSome) = true := by assumption
        rw [hm] at hh
        cases hh
      · have hsx : nth (L.set j x) j = x := by rw [nth_set hj, if_pos rfl]
        have hsl : (L.set j x).length = L.length := List.length_set
        have hG2 : ∀ y ∈ L.set j x, In64 y.key ∧ In64 y.at_ := fun y hy => by
          rcases (mem_set hj h2.map e2 y).1 hy with rfl | d
          · exact ⟨hx1, hx2⟩
          · exact h4 y d.1
        rename_i gx _ _ _ _ _ _ _ _ _ _ _
        rename_i hM
        rw [hgt] at hM
        rw [hgd]
        have hM := R.pk (r := .row _ _ _ _ _ _) (R.pk (r := .map _ _ _) (R.pk (r := .blk g _ _) hM))
        refine R.WO_call2 rfl rfl R.vv R.vv ?_
        refine (settle (w := _) (l := l) (g := g) (b := b) (N := N + 1) (gx := gx) (x := x) (j := j) hsl.symm (by omega) (by omega) (h2.ord.set j x) hG2 (isM_le h3 (Nat.le_succ N)) hN (h2.map.set e2) hsx hM).mono ?_
        rintro _ w2 ⟨rfl, L2, i2, es2, clk2, m2, hI2, hMO2, hl2, hmem2, hi2, hB2, hU2, hm2, hM⟩
        refine ⟨_, rfl, ?_⟩
        (refine R.stepH ?_; (repeat' (first | (with_reducible refine And.intro ?_ ?_) | (with_reducible intro _))); all_goals refine R.Lft.mk ?_)
        rw [show (m2 x.at_).getD 0 = ((i2 : Nat) : Int) by rw [hm2]; rfl]
        refine R.WO_call2 rfl rfl R.vv R.vv ?_
        refine (down_own ga b g _ _ i2 (N + 1) L2 es2 clk2 m2 _ hl2.symm (by omega) (by omega) hB2 hU2 (fun y hy => hG2 y ((hmem2 y).1 hy)) hI2 hN hMO2 F W0 (.blk gx 72 (cItem x) :: l) R.ohm).mono ?_
        rintro _ w3 ⟨rfl, L3, es3, clk3, m3, hI3, hMO3, hl3, hmem3, hO3, hM⟩
        refine ⟨_, rfl, ?_⟩
        (refine R.stepH ?_; (repeat' (first | (with_reducible refine And.intro ?_ ?_) | (with_reducible intro _))); all_goals refine R.Lft.mk ?_)
        refine ⟨rfl, some ⟨ga, 0, none⟩, _, L3, es3, clk3, m3, hl3, ⟨hMO3, hO3, fun y => ?_⟩, hI3, fun y hy => hG2 y ((hmem2 y).1 ((hmem3 y).1 hy)), R.dr (.blk gx _ _) R.ohm⟩
        rw [hmem3, hmem2, mem_set hj h2.map e2, h2.has]
        by_cases e : y.at_ = x.at_
        · rw [e, R.putM_same]
          constructor
          · rintro (d | d)
            · rw [d]
            · exact absurd rfl d.2
          · intro d
            injection d with d
            exact .inl (by cases y; cases x; simp_all)
        · rw [R.putM_ne e]
          constructor
          · rintro (d | d)
            · exact absurd (by rw [d]) e
            · exact d.1
          · exact fun d => .inr ⟨d, e⟩
end
end Go.Proofs.Ytegbidklcaccjaa
