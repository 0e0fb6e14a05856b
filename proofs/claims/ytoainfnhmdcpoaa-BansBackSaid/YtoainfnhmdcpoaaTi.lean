/- slices.Clone, slices.Insert and slices.Delete at bans. -/
import Derived.Test.YtoainfnhmdcpoaaRz
import Derived.Test.YtoainfnhmdcpoaaCl
namespace Go.Proofs.Ytoainfnhmdcpoaa
open Go.RowKit
open R (In64 InU64 lo64 nth)
theorem insertB_end {F : List Nat} {W w : World} {l : List R.Res} {A B : Option Addr} {n c d : Nat} {M : List Bn} {y : Bn} (hb : n ≤ 1000000) (hM : R.Own F W w (.row B 1 d 130 3 (cBn y) :: .row A n c 130 3 (M.flatMap cBn) :: l)) :
    Calls Try.prog 152 #[.slice A n c, .int .i64 (n : Nat), .slice B 1 d] w fun e w' => ∃ A1 c1, e = .returned (.slice A1 (n + 1) c1) ∧ R.Own F W w' (.row A1 (n + 1) c1 130 3 ((M ++ [y]).flatMap cBn) :: l) := by
  have hcap := cap_ofR hM (.tail _ (.head _))
  refine R.calls_of_WC (fn := Try.f152) Try.func152 rfl Try.ntmps152 (Nat.le_of_ble_eq_true rfl) ?_
  (refine R.stepV ?_; (repeat' (first | (with_reducible refine And.intro ?_ ?_) | (with_reducible intro _))); all_goals refine R.Lft.mk ?_)
  exact ⟨_, _, rfl, R.ohm⟩
theorem overlaps_ban {F : List Nat} {W w : World} {l : List R.Res} {A B : Option Addr} {n d m mc lo cc : Nat} {cs ms : List Value} (hM : R.Own F W w (.row B m mc 130 3 ms :: .row A n d 130 3 cs :: l)) (hm : 0 < m) (hn : 0 < n) (lb cb : Nat) :
    (callFunc 207 #[.slice B m mc, .slice (R.cutA A cc lo 3) lb cb]).run Try.prog w = .ok (.value (.bool false)) w := by
  rw [run_callFunc_extern Try.func207 (by kernel_rfl) (by kernel_rfl) (by kernel_rfl) (e := Extern.SlicesOverlaps.overlaps #[48, 48] #[4]) (by kernel_rfl),
    R.run_overlaps_own hM hm hn (by kernel_rfl) (by kernel_rfl) (by decide)]
  rfl
theorem flat_takeB (M : List Bn) (i : Nat) : (M.flatMap cBn).take (i * 3) = (M.take i).flatMap cBn := R.flat_takeN encc_Bn.len M i
theorem flat_dropB (M : List Bn) (i : Nat) : (M.flatMap cBn).drop (i * 3) = (M.drop i).flatMap cBn := R.flat_dropN encc_Bn.len M i
theorem flat_lenB (M : List Bn) : (M.flatMap cBn).length = M.length * 3 := R.flat_len encc_Bn.len M
theorem one_flatB (M : List Bn) : ∀ v ∈ M.flatMap cBn, v.oneCell' = true := fun v hv => by
  obtain ⟨x, _, hx⟩ := List.mem_flatMap.1 hv
  exact encc_Bn.one x v hx
theorem ins_grow {cs zs ys : List Value} {a r : Nat} (hc : cs.length = a + r) (hz : zs.length = 3 + r) (hy : ys.length = 3) :
    (((cs.take a ++ zs).take a ++ (ys ++ (cs.take a ++ zs).drop (a + 3))).take (a + 3) ++ (cs.drop a ++ ((cs.take a ++ zs).take a ++ (ys ++ (cs.take a ++ zs).drop (a + 3))).drop (a + 3 + r))) = cs.take a ++ (ys ++ cs.drop a) := by
  have h1 : (cs.take a).length = a := by rw [List.length_take]; omega
  have e1 : (cs.take a ++ zs).take a = cs.take a := by
    have := tA (b := zs) h1 0
    rwa [Nat.add_zero, List.take_zero, List.append_nil] at this
  rw [e1, dA h1 3, tA h1 3, show a + 3 + r = a + (3 + r) by omega, dA h1 (3 + r), dA hy r]
  have e2 : (ys ++ zs.drop 3).take 3 = ys := by
    have := tA (b := zs.drop 3) hy 0
    rwa [Nat.add_zero, List.take_zero, List.append_nil] at this
  have e3 : (zs.drop 3).drop r = [] := by
    apply List.eq_nil_of_length_eq_zero
    rw [List.length_drop, List.length_drop]
    omega
  rw [e2, e3, List.append_nil, List.append_assoc]
theorem ins_room {cs ex ys : List Value} {a r : Nat} (hc : cs.length = a + r) (hx : ex.length = 3) :
    (((cs ++ ex).take (a + 3) ++ (cs.drop a ++ (cs ++ ex).drop (a + 3 + r))).take a ++ (ys ++ ((cs ++ ex).take (a + 3) ++ (cs.drop a ++ (cs ++ ex).drop (a + 3 + r))).drop (a + 3))) = cs.take a ++ (ys ++ cs.drop a) := by
  have hl : (cs ++ ex).length = a + r + 3 := by rw [List.length_append]; omega
  have e1 : (cs ++ ex).drop (a + 3 + r) = [] := by
    apply List.eq_nil_of_length_eq_zero
    rw [List.length_drop]
    omega
  have h2 : ((cs ++ ex).take (a + 3)).length = a + 3 := by rw [List.length_take]; omega
  have e2 := dA (b := cs.drop a ++ []) h2 0
  rw [Nat.add_zero, List.drop_zero] at e2
  rw [e1, e2, List.append_nil, List.take_append_of_le_length (by omega), List.take_take, Nat.min_eq_left (by omega), List.take_append_of_le_length (by omega)]
set_option maxHeartbeats 2000000 in
theorem insertB_any {F : List Nat} {W w : World} {l : List R.Res} {A B : Option Addr} {n c d i : Nat} {M : List Bn} {y : Bn} (hb : n ≤ 1000000) (hn : n = M.length) (hi : i ≤ n) (hM : R.Own F W w (.row B 1 d 130 3 (cBn y) :: .row A n c 130 3 (M.flatMap cBn) :: l)) :
    Calls Try.prog 152 #[.slice A n c, .int .i64 (i : Nat), .slice B 1 d] w fun e w' => ∃ A1 c1, e = .returned (.slice A1 (n + 1) c1) ∧ R.Own F W w' (.row A1 (n + 1) c1 130 3 ((M.take i ++ y :: M.drop i).flatMap cBn) :: l) := by
  rcases Nat.eq_or_lt_of_le hi with h | h
  · subst h
    have := insertB_end hb hM
    rwa [hn, List.take_length, List.drop_length, ← hn]
  have hcap := cap_ofR hM (.tail _ (.head _))
  have hcs := flat_lenB M
  by_cases hroom : n + 1 ≤ c
  · refine R.calls_of_WC (fn := Try.f152) Try.func152 rfl Try.ntmps152 (Nat.le_of_ble_eq_true rfl) ?_
    (refine R.stepV ?_; (repeat' (first | (with_reducible refine And.intro ?_ ?_) | (with_reducible intro _))); all_goals refine R.Lft.mk ?_)
    refine R.WO_extern2 rfl rfl R.vv R.vv (overlaps_ban hM (by omega) (by omega) _ _) ?_
    (refine R.stepV ?_; (repeat' (first | (with_reducible refine And.intro ?_ ?_) | (with_reducible intro _))); all_goals refine R.Lft.mk ?_)
    rename_i w2 hM
    obtain ⟨g, cur, rfl, hgb, _⟩ := row_form5 (hM.ok _ (.tail _ (.head _)) : w2.ownsRow 0 130 3 (.slice A n c) n (M.flatMap cBn)) (by omega)
    obtain ⟨ex, hex, hM⟩ := R.own_ext (R.Own.swap hM) (by omega)
    have hex4 : (M.flatMap cBn ++ ex).length = (n + 1) * 3 := by rw [List.length_append, hcs, hex]; omega
    refine R.WO_copyR (k := n - i) (lo := i + 1) (ss := (M.flatMap cBn).drop (i * 3)) rfl rfl rfl hM R.Upd.head (by omega) (by omega) (by show min _ _ = _; omega) (by omega) (by omega) ((R.Own.rd hM (.head _)).cutA (lo := i) (by omega) hroom) ?_ (fun v hv => one_flatB M v (List.mem_of_mem_drop hv)) (fun w4x hM => ?_)
    · rw [List.drop_append_of_le_length (by omega)]
      rw [List.take_append_of_le_length (by rw [List.length_drop]; omega), List.take_of_length_le (by rw [List.length_drop]; omega)]
    (refine R.stepV ?_; (repeat' (first | (with_reducible refine And.intro ?_ ?_) | (with_reducible intro _))); all_goals refine R.Lft.mk ?_)
    refine R.WO_copyR (k := 1) (lo := i) (ss := cBn y) rfl rfl rfl hM R.Upd.head (by omega) (by omega) (Nat.min_eq_left (by omega)) (by omega) (by omega) (R.Own.rd hM (.tail _ (.head _))) rfl (encc_Bn.one y) (fun w4 hM => ?_)
    (refine R.stepV ?_; (repeat' (first | (with_reducible refine And.intro ?_ ?_) | (with_reducible intro _))); all_goals refine R.Lft.mk ?_)
    refine ⟨_, _, rfl, ?_⟩
    have he := ins_room (cs := M.flatMap cBn) (ex := ex) (ys := cBn y) (a := i * 3) (r := (n - i) * 3) (by omega) hex
    rw [flat_takeB, flat_dropB] at he
    rw [List.flatMap_append, List.flatMap_cons, ← he]
    rw [show (i + 1) * 3 = i * 3 + 3 by omega, show i * 3 + 1 * 3 = i * 3 + 3 by omega, flat_dropB] at hM
    exact R.Own.tl2 hM
  · refine R.calls_of_WC (fn := Try.f152) Try.func152 rfl Try.ntmps152 (Nat.le_of_ble_eq_true rfl) ?_
    (refine R.stepV ?_; (repeat' (first | (with_reducible refine And.intro ?_ ?_) | (with_reducible intro _))); all_goals refine R.Lft.mk ?_)
    refine R.WO_appMk (k := n + 1 - i) rfl (by kernel_rfl) rfl rfl (by omega) hM (.tail _ (.head _)) (by omega) hi (by omega) (by omega) (by omega) (by omega) (fun A1 c1 zs w2 hzs hM => ?_)
    have e1 : i + (n + 1 - i) = n + 1 := by omega
    rw [e1] at hM ⊢
    have hcap1 := cap_ofR hM (.head _)
    (refine R.stepV ?_; (repeat' (first | (with_reducible refine And.intro ?_ ?_) | (with_reducible intro _))); all_goals refine R.Lft.mk ?_)
    refine R.WO_copyR (k := 1) (lo := i) (ss := cBn y) rfl rfl rfl hM R.Upd.head (by omega) (by omega) (Nat.min_eq_left (by omega)) (by omega) (by omega) (R.Own.rd hM (.tail _ (.head _))) rfl (encc_Bn.one y) (fun w4x hM => ?_)
    (refine R.stepV ?_; (repeat' (first | (with_reducible refine And.intro ?_ ?_) | (with_reducible intro _))); all_goals refine R.Lft.mk ?_)
    rename_i hM
    refine R.WO_copyR (k := n - i) (lo := i + 1) (ss := (M.flatMap cBn).drop (i * 3)) rfl rfl rfl hM R.Upd.head (by omega) (by omega) (by show min _ _ = _; omega) (by omega) (by omega) ((R.Own.rd hM (.tail _ (.tail _ (.head _)))).cutA (lo := i) hi hcap.1) ?_ (fun v hv => one_flatB M v (List.mem_of_mem_drop hv)) (fun w4 hM => ?_)
    · rw [List.take_of_length_le (by rw [List.length_drop]; omega)]
    (refine R.stepV ?_; (repeat' (first | (with_reducible refine And.intro ?_ ?_) | (with_reducible intro _))); all_goals refine R.Lft.mk ?_)
    refine ⟨_, _, rfl, ?_⟩
    have he := ins_grow (cs := M.flatMap cBn) (zs := zs) (ys := cBn y) (a := i * 3) (r := (n - i) * 3) (by omega) (by omega) rfl
    rw [flat_takeB, flat_dropB] at he
    rw [List.flatMap_append, List.flatMap_cons, ← he]
    rw [show (i + 1) * 3 = i * 3 + 3 by omega, show i * 3 + 1 * 3 = i * 3 + 3 by omega, flat_takeB, flat_dropB] at hM
    exact R.Own.tl2 (R.Own.tl2 hM)
set_option maxHeartbeats 2000000 in
theorem deleteB_any {F : List Nat} {W w : World} {l : List R.Res} {A : Option Addr} {n c i : Nat} {M : List Bn} (hb : n ≤ 1000000) (hn : n = M.length) (hi : i < n) (hM : R.Own F W w (.row A n c 130 3 (M.flatMap cBn) :: l)) :
    Calls Try.prog 154 #[.slice A n c, .int .i64 (i : Nat), .int .i64 (((i : Nat) : Int) + 1)] w fun e w' => e = .returned (.slice A (n - 1) c) ∧ R.Own F W w' (.row A (n - 1) c 130 3 ((M.take i ++ M.drop (i + 1)).flatMap cBn) :: l) := by
  have hcap := cap_ofR hM (.head _)
  have hcs := flat_lenB M
  obtain ⟨g, cur, rfl, _⟩ := row_form5 (hM.ok _ (.head _) : w.ownsRow 0 130 3 (.slice A n c) n (M.flatMap cBn)) (by omega)
  have hB : ∃ b, R.cutA (some ⟨g, 0, none⟩) c (i + 1) 3 = some b := by
    unfold R.cutA
    split
    · exact ⟨_, rfl⟩
    · exact ⟨_, rfl⟩
  refine R.calls_of_WC (fn := Try.f154) Try.func154 rfl Try.ntmps154 (Nat.le_of_ble_eq_true rfl) ?_
  (refine R.stepV ?_; (repeat' (first | (with_reducible refine And.intro ?_ ?_) | (with_reducible intro _))); all_goals refine R.Lft.mk ?_)
  rename_i w2 hM
  refine R.WO_appIn rfl rfl rfl hM (by omega) (by omega) (by omega) hB ((R.Own.rd hM (.head _)).cutA (lo := i + 1) (by omega) hcap.1) (fun v hv => one_flatB M v (List.mem_of_mem_drop hv)) (fun w4x hM => ?_)
  have e1 : i + (n - ((i : Int) + 1).toNat) = n - 1 := by omega
  rw [e1] at hM ⊢
  rw [flat_takeB, flat_dropB, ← List.flatMap_append] at hM
  (refine R.stepV ?_; (repeat' (first | (with_reducible refine And.intro ?_ ?_) | (with_reducible intro _))); all_goals refine R.Lft.mk ?_)
  refine WO_slcLH rfl rfl rfl rfl (by omega) (by omega) (by omega) ?_
  (refine R.stepV ?_; (repeat' (first | (with_reducible refine And.intro ?_ ?_) | (with_reducible intro _))); all_goals refine R.Lft.mk ?_)
  refine R.WO_clearR (sz := 3) (e := 130) (z := .agg #[.int .i64 0, .int .i64 0, .bool false]) (lo := n - 1) (k := n - (n - 1)) (cc := c) rfl rfl (fun v hv => ?_) (by decide) rfl hM (by omega) (by omega) (by omega) (by omega) (fun w4 hM => ?_)
  · have : v = .int .i64 0 ∨ v = .int .i64 0 ∨ v = .bool false := by simpa [Value.cells] using hv
    rcases this with rfl | rfl | rfl <;> rfl
  (refine R.stepV ?_; (repeat' (first | (with_reducible refine And.intro ?_ ?_) | (with_reducible intro _))); all_goals refine R.Lft.mk ?_)
  exact ⟨rfl, hM⟩
theorem clone_Bn (A : Option Addr) (n c : Nat) (L : List Bn) (w : World) (hA : R.Inp [] w A n 3 (L.flatMap cBn)) (hn : n = L.length) (hb : n ≤ 1000000000) :
    Calls Try.prog 153 #[.slice A n c] w fun e w' => ∃ A' c', e = .returned (.slice A' n c') ∧ R.Gives w w' A' n c' 130 3 (L.flatMap cBn) := by
  have hM := R.Own.start [] w
  cases hA0 : A with
  | none =>
    subst hA0
    have hn0 : n = 0 := by
      rcases Nat.eq_zero_or_pos n with h | h
      · exact h
      · obtain ⟨a, ha⟩ := (hM.rdIn hA).some_ h (by omega)
        cases ha
    subst hn0
    have hL : L = [] := List.eq_nil_of_length_eq_zero hn.symm
    subst hL
    refine R.calls_of_WC (fn := Try.f153) Try.func153 rfl Try.ntmps153 (Nat.le_of_ble_eq_true rfl) ?_
    (refine R.stepV ?_; (repeat' (first | (with_reducible refine And.intro ?_ ?_) | (with_reducible intro _))); all_goals refine R.Lft.mk ?_)
    exact ⟨none, 0, rfl, (hM.nil _ _).gives⟩
  | some a =>
    subst hA0
    refine R.calls_of_WC (fn := Try.f153) Try.func153 rfl Try.ntmps153 (Nat.le_of_ble_eq_true rfl) ?_
    (refine R.stepV ?_; (repeat' (first | (with_reducible refine And.intro ?_ ?_) | (with_reducible intro _))); all_goals refine R.Lft.mk ?_)
    rename_i A1 c1 w1 hM1 A2 c2 w2 hM2
    exact ⟨A2, c2, by rw [Nat.zero_add], by simpa using hM2.gives⟩
end Go.Proofs.Ytoainfnhmdcpoaa
