/- Package heap: Put, Least, Pop: the walks. -/
import Derived.Test.YtegbidklcaccjaaHe
namespace Go.Proofs.Ytegbidklcaccjaa
open Go.RowKit
open R (In64 InU64 lo64 nth)
def putB (κ : Int → Option Int) (x : Item) : Bool := match κ x.at_ with
  | none => true
  | some k => decide (x.key < k)
def isMin (κ : Int → Option Int) (x : Item) : Prop := κ x.at_ = some x.key ∧ ∀ y : Item, κ y.at_ = some y.key → ¬ ltP y x
section
variable {F : List Nat} {W0 w : World} {l : List R.Res} {g b nn N : Nat} {κ : Int → Option Int}
theorem Hp.dr {gx : Nat} {t : TypeId} {cs : List Value} (h : Hp F W0 w (.blk gx t cs :: l) g b nn N κ) : Hp F W0 w l g b nn N κ := by
  obtain ⟨A, c, L, es, clk, m, h1, h2, h3, h4, hM⟩ := h
  exact ⟨A, c, L, es, clk, m, h1, h2, h3, h4, R.dr (.blk gx _ _) hM⟩
theorem len_own {A : Option Addr} {n c : Nat} {L : List Item} {es : Array MapEntry} {clk : Nat} (hM : R.Own F W0 w (.row A n c 72 2 (L.flatMap cItem) :: .map b es clk :: .blk g 151 [.slice A n c, .map (some b)] :: l)) : Calls Try.prog 100 #[.pointer (some ⟨g, 0, none⟩)] w fun e w' => e = .returned (.int .i64 (n : Nat)) ∧ R.Own F W0 w' (.row A n c 72 2 (L.flatMap cItem) :: .map b es clk :: .blk g 151 [.slice A n c, .map (some b)] :: l) := by
  refine R.calls_of_WC (fn := Try.f100) Try.func100 rfl Try.ntmps100 (Nat.le_of_ble_eq_true rfl) ?_
  (refine R.stepH ?_; (repeat' (first | (with_reducible refine And.intro ?_ ?_) | (with_reducible intro _))); all_goals refine R.Lft.mk ?_)
  exact ⟨rfl, R.ohm⟩
theorem least_own {A : Option Addr} {n c : Nat} {L : List Item} {es : Array MapEntry} {clk : Nat} (hn : n = L.length) (h0 : 0 < n) (hb : n ≤ 1000000) (hM : R.Own F W0 w (.row A n c 72 2 (L.flatMap cItem) :: .map b es clk :: .blk g 151 [.slice A n c, .map (some b)] :: l)) : Calls Try.prog 91 #[.pointer (some ⟨g, 0, none⟩)] w fun e w' => e = .returned (.tuple #[.agg (cItem (nth L 0)).toArray, .bool true]) ∧ R.Own F W0 w' (.row A n c 72 2 (L.flatMap cItem) :: .map b es clk :: .blk g 151 [.slice A n c, .map (some b)] :: l) := by
  obtain ⟨ga, cur, rfl, _⟩ := row_form (hM.ok _ (.head _)) h0
  refine R.calls_of_WC (fn := Try.f91) Try.func91 rfl Try.ntmps91 (Nat.le_of_ble_eq_true rfl) ?_
  (refine R.stepH ?_; (repeat' (first | (with_reducible refine And.intro ?_ ?_) | (with_reducible intro _))); all_goals refine R.Lft.mk ?_)
  rename_i g2 _ hM
  have hM := R.pk (r := .row _ _ _ _ _ _) (R.pk (r := .map _ _ _) (R.pk (r := .blk g _ _) hM))
  refine R.WO_call1 rfl rfl R.vv ?_
  refine (len_own hM).mono ?_
  rintro _ w2 ⟨rfl, hM⟩
  refine ⟨_, rfl, ?_⟩
  (refine R.stepH ?_; (repeat' (first | (with_reducible refine And.intro ?_ ?_) | (with_reducible intro _))); all_goals refine R.Lft.mk ?_)
  exact ⟨rfl, R.dr (.blk g2 _ _) R.ohm⟩
theorem least_hp0 (h : Hp F W0 w l g b 0 N κ) : Calls Try.prog 91 #[.pointer (some ⟨g, 0, none⟩)] w fun e w' => e = .returned (.tuple #[.agg (cItem ⟨0, 0⟩).toArray, .bool false]) ∧ Hp F W0 w' l g b 0 N κ := by
  obtain ⟨A, c, L, es, clk, m, h1, h2, h3, h4, hM⟩ := h
  refine R.calls_of_WC (fn := Try.f91) Try.func91 rfl Try.ntmps91 (Nat.le_of_ble_eq_true rfl) ?_
  (refine R.stepH ?_; (repeat' (first | (with_reducible refine And.intro ?_ ?_) | (with_reducible intro _))); all_goals refine R.Lft.mk ?_)
  rename_i g2 _ hM
  have hM := R.pk (r := .row _ _ _ _ _ _) (R.pk (r := .map _ _ _) (R.pk (r := .blk g _ _) hM))
  refine R.WO_call1 rfl rfl R.vv ?_
  refine (len_own hM).mono ?_
  rintro _ w2 ⟨rfl, hM⟩
  refine ⟨_, rfl, ?_⟩
  (refine R.stepH ?_; (repeat' (first | (with_reducible refine And.intro ?_ ?_) | (with_reducible intro _))); all_goals refine R.Lft.mk ?_)
  exact ⟨rfl, A, c, L, es, clk, m, h1, h2, h3, h4, R.dr (.blk g2 _ _) R.ohm⟩
theorem root_min {L : List Item} {m κ : Int → Option Int} (h : HeapOk L m κ) (h0 : 0 < L.length) : isMin κ (nth L 0) := by
  refine ⟨(h.has _).1 (R.nth_mem h0), fun y hy => ?_⟩
  obtain ⟨j, hj, rfl⟩ := mem_nth.1 ((h.has y).2 hy)
  exact h.ord.root j hj
theorem least_hp (h : Hp F W0 w l g b nn N κ) (h0 : 0 < nn) (hb : nn ≤ 1000000) : Calls Try.prog 91 #[.pointer (some ⟨g, 0, none⟩)] w fun e w' => ∃ x : Item, isMin κ x ∧ e = .returned (.tuple #[.agg (cItem x).toArray, .bool true]) ∧ Hp F W0 w' l g b nn N κ := by
  obtain ⟨A, c, L, es, clk, m, h1, h2, h3, h4, hM⟩ := h
  refine (least_own h1.symm h0 hb hM).mono ?_
  rintro _ w2 ⟨rfl, hM⟩
  exact ⟨_, root_min h2 (by omega), rfl, A, c, L, es, clk, m, h1, h2, h3, h4, hM⟩
theorem nth_takeI {L : List Item} {i k : Nat} (h : i < k) : nth (L.take k) i = nth L i := by
  unfold nth
  rw [List.getD_eq_getElem?_getD, List.getD_eq_getElem?_getD, List.getElem?_take, if_pos h]
theorem MapOk.pop {M : List Item} {m : Int → Option Int} (h : MapOk M m) {n : Nat} (hn : M.length = n + 1) : MapOk (M.take n) (R.delM m (nth M n).at_) := by
  have hl : (M.take n).length = n := by rw [List.length_take, hn]; omega
  constructor
  · intro j hj
    rw [hl] at hj
    rw [nth_takeI hj, R.delM_ne (fun e => by have := h.inj (by omega) (by omega) e; omega)]
    exact h.1 j (by omega)
  · intro a v hv
    rw [hl]
    by_cases e : a = (nth M n).at_
    · rw [e, R.delM_same] at hv; cases hv
    · rw [R.delM_ne e] at hv
      obtain ⟨j, hj, e1, e2⟩ := h.2 a v hv
      have hjn : j < n := by
        rcases Nat.lt_or_ge j n with c | c
        · exact c
        · obtain rfl : j = n := by omega
          exact absurd e2.symm e
      exact ⟨j, hjn, e1, by rw [nth_takeI hjn]; exact e2⟩
theorem HO.pop {L : List Item} (h : HO L) {n : Nat} (hn : L.length = n + 1) : Bk ((swapL L 0 n).take n) 0 := by
  have hl : ((swapL L 0 n).take n).length = n := by rw [List.length_take, swapL_len, hn]; omega
  refine ⟨fun j j0 j1 j2 j3 => ?_, fun j j0 j1 j2 j3 => absurd j3 (Nat.lt_irrefl _)⟩
  rw [hl] at j1
  have hp : par j < n := by unfold par; omega
  rw [nth_takeI j1, nth_takeI hp, nth_swapL (by omega), nth_swapL (by omega), swI_ne j2 (by omega), swI_ne j3 (by omega)]
  exact h j j0 (by omega)
theorem mem_pop {L : List Item} {m : Int → Option Int} (h : MapOk L m) {n : Nat} (hn : L.length = n + 1) (y : Item) : y ∈ (swapL L 0 n).take n ↔ y ∈ L ∧ y.at_ ≠ (nth L 0).at_ := by
  have hl : ((swapL L 0 n).take n).length = n := by rw [List.length_take, swapL_len, hn]; omega
  rw [mem_nth, mem_nth, hl]
  constructor
  · rintro ⟨q, hq, rfl⟩
    have hs : swI 0 n q < L.length := swI_lt (by omega) (by omega) (by omega)
    rw [nth_takeI hq, nth_swapL (by omega)]
    refine ⟨⟨_, hs, rfl⟩, fun e => ?_⟩
    have e2 := h.inj hs (by omega) e
    have := swI_swI 0 n q
    rw [e2, swI_l] at this
    omega
  · rintro ⟨⟨p, hp, rfl⟩, hne⟩
    have hs : swI 0 n p < L.length := swI_lt (by omega) (by omega) (by omega)
    have hsn : swI 0 n p < n := by
      rcases Nat.lt_or_ge (swI 0 n p) n with c | c
      · exact c
      · exfalso
        have e1 : swI 0 n p = n := by omega
        have := swI_swI 0 n p
        rw [e1, swI_r] at this
        exact hne (by rw [← this])
    exact ⟨swI 0 n p, hsn, by rw [nth_takeI hsn, nth_swapL (by omega), swI_swI]⟩
theorem own_cut {a : Addr} {n c k sz : Nat} {e : TypeId} {cs : List Value} (hM : R.Own F W0 w (.row (some a) n c e sz cs :: l)) (hk : k ≤ n) : R.Own F W0 w (.row (some a) k c e sz (cs.take (k * sz)) :: l) := by
  refine hM.upd .head ⟨rfl, rfl, rfl, Nat.le_refl _, fun _ _ _ => rfl⟩ ?_ (.inl rfl)
  have hr : w.ownsRow 0 e sz (.slice (some a) n c) n cs := hM.ok _ (.head _)
  rcases hr.2 with ⟨hv, _⟩ | ⟨g', cap, cur, hv, h1, h2, h3, h4, h5, h6⟩
  · cases hv
  · injection hv with a1 a2 a3
    injection a1 with a1
    subst a1 a3
    refine ⟨?_, .inr ⟨g', c, cur, rfl, Nat.zero_le _, h2, by omega, h4, h5, ?_⟩⟩
    · rw [List.length_take, hr.1]
      exact Nat.min_eq_left (Nat.mul_le_mul_right _ hk)
    · rw [← h6, List.take_take, Nat.min_eq_left (Nat.mul_le_mul_right _ hk)]
theorem pop_hp0 (h : Hp F W0 w l g b 0 N κ) : Calls Try.prog 74 #[.pointer (some ⟨g, 0, none⟩)] w fun e w' => e = .returned (.tuple #[.agg (cItem ⟨0, 0⟩).toArray, .bool false]) ∧ Hp F W0 w' l g b 0 N κ := by
  obtain ⟨A, c, L, es, clk, m, h1, h2, h3, h4, hM⟩ := h
  refine R.calls_of_WC (fn := Try.f74) Try.func74 rfl Try.ntmps74 (Nat.le_of_ble_eq_true rfl) ?_
  (refine R.stepH ?_; (repeat' (first | (with_reducible refine And.intro ?_ ?_) | (with_reducible intro _))); all_goals refine R.Lft.mk ?_)
  rename_i g2 _ hM
  have hM := R.pk (r := .row _ _ _ _ _ _) (R.pk (r := .map _ _ _) (R.pk (r := .blk g _ _) hM))
  refine R.WO_call1 rfl rfl R.vv ?_
  refine (least_hp0 (N := N) (κ := κ) ⟨A, c, L, es, clk, m, h1, h2, h3, h4, hM⟩).mono ?_
  clear hM h1 h2 h3 h4
  rintro _ w2 ⟨rfl, A, c, L, es, clk, m, h1, h2, h3, h4, hM⟩
  refine ⟨_, rfl, ?_⟩
  (refine R.stepH ?_; (repeat' (first | (with_reducible refine And.intro ?_ ?_) | (with_reducible intro _))); all_goals refine R.Lft.mk ?_)
  exact ⟨rfl, A, c, L, es, clk, m, h1, h2, h3, h4, R.dr (.blk g2 _ _) (R.Own.tl R.ohm)⟩
set_option maxHeartbeats 2000000 in
theorem pop_hp (h : Hp F W0 w l g b (nn + 1) N κ) (hb : nn < 1000000) (hN : N < maxLen) : Calls Try.prog 74 #[.pointer (some ⟨g, 0, none⟩)] w fun e w' => ∃ x : Item, isMin κ x ∧ e = .returned (.tuple #[.agg (cItem x).toArray, .bool true]) ∧ Hp F W0 w' l g b nn N (R.delM κ x.at_) := by
  obtain ⟨A, c, L, es, clk, m, h1, h2, h3, h4, hM⟩ := h
  obtain ⟨ga, cur, rfl, _⟩ := row_form (hM.ok _ (.head _)) (by omega)
  refine R.calls_of_WC (fn := Try.f74) Try.func74 rfl Try.ntmps74 (Nat.le_of_ble_eq_true rfl) ?_
  (refine R.stepH ?_; (repeat' (first | (with_reducible refine And.intro ?_ ?_) | (with_reducible intro _))); all_goals refine R.Lft.mk ?_)
  rename_i g2 _ hM
  have hM := R.pk (r := .row _ _ _ _ _ _) (R.pk (r := .map _ _ _) (R.pk (r := .blk g _ _) hM))
  refine R.WO_call1 rfl rfl R.vv ?_
  refine (least_own h1.symm (by omega) (by omega) hM).mono ?_
  rintro _ w2 ⟨rfl, hM⟩
  refine ⟨_, rfl, ?_⟩
  (refine R.stepH ?_; (repeat' (first | (with_reducible refine And.intro ?_ ?_) | (with_reducible intro _))); all_goals refine R.Lft.mk ?_)
  rename_i gx _ _ _ hM
  have hM := R.pk (r := .row _ _ _ _ _ _) (R.pk (r := .map _ _ _) (R.pk (r := .blk g _ _) hM))
  rw [show (((nn + 1 : Nat) : Int) - 1) = ((nn : Nat) : Int) by omega]
  have hsl : (swapL L 0 nn).length = nn + 1 := by rw [swapL_len, h1]
  have hx64 := h4 _ (R.nth_mem (i := 0) (by omega))
  refine R.WO_call3 rfl rfl R.vv R.vv R.vv ?_
  refine (swap_own ga b g (nn + 1) c 0 nn N L es clk m _ h1.symm (by omega) (by omega) (by omega) h4 h3 hN h2.map F W0 _ hM).mono ?_
  rintro _ w3 ⟨rfl, es1, clk1, m1, hI1, hMO1, hM⟩
  refine ⟨_, rfl, ?_⟩
  (refine R.stepH ?_; (repeat' (first | (with_reducible refine And.intro ?_ ?_) | (with_reducible intro _))); all_goals refine R.Lft.mk ?_)
  rename_i hM
  refine R.WO_mapDel rfl rfl rfl rfl hx64.2 hM hI1 (fun _ _ => .tail .head) (fun es2 clk2 w4 hI2 hM => ?_)
  have hcl : ((swapL L 0 nn).flatMap cItem).take (nn * 2) = ((swapL L 0 nn).take nn).flatMap cItem := R.flat_takeN (enc := cItem) (sz := 2) encc_Item.len _ _
  have hM := own_cut (k := nn) hM (by omega)
  rw [hcl, show (((nn + 1 : Nat) : Int) - 1).toNat = nn by omega] at hM
  have hM : R.Own F W0 w4 (.row (some ⟨ga, 0, none⟩) nn c 72 2 (((swapL L 0 nn).take nn).flatMap cItem) :: .map b es2 clk2 :: .blk g 151 [.slice (some ⟨ga, 0, none⟩) nn c, .map (some b)] :: .blk gx 72 (cItem (nth L 0)) :: .blk g2 72 [.int .i64 0, .int .i64 0] :: l) := hM
  have hl2 : ((swapL L 0 nn).take nn).length = nn := by rw [List.length_take, hsl]; omega
  have hlast : nth (swapL L 0 nn) nn = nth L 0 := by rw [nth_swapL (by omega), swI_r]
  have hMO2 := hMO1.pop hsl
  rw [hlast] at hMO2
  have hmp := mem_pop h2.map h1
  have hG2 : ∀ y ∈ (swapL L 0 nn).take nn, In64 y.key ∧ In64 y.at_ := fun y hy => h4 y ((hmp y).1 hy).1
  (refine R.stepH ?_; (repeat' (first | (with_reducible refine And.intro ?_ ?_) | (with_reducible intro _))); all_goals refine R.Lft.mk ?_)
  refine R.WO_call2 rfl rfl R.vv R.vv ?_
  refine (down_own ga b g nn c 0 N _ es2 clk2 _ _ hl2.symm (by omega) (Nat.zero_le _) (h2.ord.pop h1) (fun hh => absurd hh (Nat.lt_irrefl _)) hG2 hI2 hN hMO2 F W0 _ R.ohm).mono ?_
  rintro _ w5 ⟨rfl, L3, es3, clk3, m3, hI3, hMO3, hl3, hmem3, hO3, hM⟩
  refine ⟨_, rfl, ?_⟩
  (refine R.stepH ?_; (repeat' (first | (with_reducible refine And.intro ?_ ?_) | (with_reducible intro _))); all_goals refine R.Lft.mk ?_)
  rename_i hM
  refine ⟨nth L 0, root_min h2 (by omega), rfl, some ⟨ga, 0, none⟩, c, L3, es3, clk3, m3, hl3, ⟨hMO3, hO3, fun y => ?_⟩, hI3, fun y hy => hG2 y ((hmem3 y).1 hy), R.dr (.blk gx _ _) (R.dr (.blk g2 _ _) hM)⟩
  rw [hmem3, hmp, h2.has]
  by_cases e : y.at_ = (nth L 0).at_
  · rw [e, R.delM_same]
    exact ⟨fun d => absurd rfl d.2, fun d => by cases d⟩
  · rw [R.delM_ne e]
    exact ⟨fun d => d.1, fun d => ⟨d, e⟩⟩
end
end Go.Proofs.Ytegbidklcaccjaa
