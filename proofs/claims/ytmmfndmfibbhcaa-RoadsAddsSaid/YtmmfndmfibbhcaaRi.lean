/- slices.Insert at roads. -/
import Derived.Test.YtmmfndmfibbhcaaRw
import Derived.Test.YtmmfndmfibbhcaaRoads8
namespace Go.Proofs.Ytmmfndmfibbhcaa
open Go.RowKit
open R (In64 InU64 lo64 nth)
theorem overlaps_road {F : List Nat} {W w : World} {l : List R.Res} {A B : Option Addr} {n d m mc lo cc : Nat} {cs ms : List Value} (hM : R.Own F W w (.row B m mc 101 4 ms :: .row A n d 101 4 cs :: l)) (hm : 0 < m) (hn : 0 < n) (lb cb : Nat) :
    (callFunc 123 #[.slice B m mc, .slice (R.cutA A cc lo 4) lb cb]).run Try.prog w = .ok (.value (.bool false)) w := by
  rw [run_callFunc_extern Try.func123 (by kernel_rfl) (by kernel_rfl) (by kernel_rfl) (e := Extern.SlicesOverlaps.overlaps #[70, 70] #[4]) (by kernel_rfl),
    R.run_overlaps_own hM hm hn (by kernel_rfl) (by kernel_rfl) (by decide)]
  rfl
theorem flat_takeR (M : List Road) (i : Nat) : (M.flatMap cRoad).take (i * 4) = (M.take i).flatMap cRoad := R.flat_takeN encc_Road.len M i
theorem flat_dropR (M : List Road) (i : Nat) : (M.flatMap cRoad).drop (i * 4) = (M.drop i).flatMap cRoad := R.flat_dropN encc_Road.len M i
theorem flat_lenR (M : List Road) : (M.flatMap cRoad).length = M.length * 4 := R.flat_len encc_Road.len M
theorem one_flatR (M : List Road) : ∀ v ∈ M.flatMap cRoad, v.oneCell' = true := fun v hv => by
  obtain ⟨x, _, hx⟩ := List.mem_flatMap.1 hv
  exact encc_Road.one x v hx
theorem ins_grow {cs zs ys : List Value} {a r : Nat} (hc : cs.length = a + r) (hz : zs.length = 4 + r) (hy : ys.length = 4) :
    (((cs.take a ++ zs).take a ++ (ys ++ (cs.take a ++ zs).drop (a + 4))).take (a + 4) ++ (cs.drop a ++ ((cs.take a ++ zs).take a ++ (ys ++ (cs.take a ++ zs).drop (a + 4))).drop (a + 4 + r))) = cs.take a ++ (ys ++ cs.drop a) := by
  have h1 : (cs.take a).length = a := by rw [List.length_take]; omega
  have e1 : (cs.take a ++ zs).take a = cs.take a := by
    have := tA (b := zs) h1 0
    rwa [Nat.add_zero, List.take_zero, List.append_nil] at this
  rw [e1, dA h1 4, tA h1 4, show a + 4 + r = a + (4 + r) by omega, dA h1 (4 + r), dA hy r]
  have e2 : (ys ++ zs.drop 4).take 4 = ys := by
    have := tA (b := zs.drop 4) hy 0
    rwa [Nat.add_zero, List.take_zero, List.append_nil] at this
  have e3 : (zs.drop 4).drop r = [] := by
    apply List.eq_nil_of_length_eq_zero
    rw [List.length_drop, List.length_drop]
    omega
  rw [e2, e3, List.append_nil, List.append_assoc]
theorem ins_room {cs ex ys : List Value} {a r : Nat} (hc : cs.length = a + r) (hx : ex.length = 4) :
    (((cs ++ ex).take (a + 4) ++ (cs.drop a ++ (cs ++ ex).drop (a + 4 + r))).take a ++ (ys ++ ((cs ++ ex).take (a + 4) ++ (cs.drop a ++ (cs ++ ex).drop (a + 4 + r))).drop (a + 4))) = cs.take a ++ (ys ++ cs.drop a) := by
  have hl : (cs ++ ex).length = a + r + 4 := by rw [List.length_append]; omega
  have e1 : (cs ++ ex).drop (a + 4 + r) = [] := by
    apply List.eq_nil_of_length_eq_zero
    rw [List.length_drop]
    omega
  have h2 : ((cs ++ ex).take (a + 4)).length = a + 4 := by rw [List.length_take]; omega
  have e2 := dA (b := cs.drop a ++ []) h2 0
  rw [Nat.add_zero, List.drop_zero] at e2
  rw [e1, e2, List.append_nil, List.take_append_of_le_length (by omega), List.take_take, Nat.min_eq_left (by omega), List.take_append_of_le_length (by omega)]
set_option maxHeartbeats 2000000 in
theorem insertR_any {F : List Nat} {W w : World} {l : List R.Res} {A B : Option Addr} {n c d i : Nat} {M : List Road} {y : Road} (hb : n ≤ 1000000) (hn : n = M.length) (hi : i ≤ n) (hM : R.Own F W w (.row B 1 d 101 4 (cRoad y) :: .row A n c 101 4 (M.flatMap cRoad) :: l)) :
    Calls Try.prog 96 #[.slice A n c, .int .i64 (i : Nat), .slice B 1 d] w fun e w' => ∃ A1 c1, e = .returned (.slice A1 (n + 1) c1) ∧ R.Own F W w' (.row A1 (n + 1) c1 101 4 ((M.take i ++ y :: M.drop i).flatMap cRoad) :: l) := by
  rcases Nat.eq_or_lt_of_le hi with h | h
  · subst h
    have := insertR_end hb hM
    rwa [hn, List.take_length, List.drop_length, ← hn]
  have hcap := cap_of hM (.tail _ (.head _))
  have hcs := flat_lenR M
  by_cases hroom : n + 1 ≤ c
  · refine R.calls_of_WC (fn := Try.f96) Try.func96 rfl Try.ntmps96 (Nat.le_of_ble_eq_true rfl) ?_
    (refine R.stepH ?_; (repeat' (first | (with_reducible refine And.intro ?_ ?_) | (with_reducible intro _))); all_goals refine R.Lft.mk ?_)
    refine R.WO_extern2 rfl rfl R.vv R.vv (overlaps_road hM (by omega) (by omega) _ _) ?_
    (refine R.stepH ?_; (repeat' (first | (with_reducible refine And.intro ?_ ?_) | (with_reducible intro _))); all_goals refine R.Lft.mk ?_)
    rename_i w2 hM
    obtain ⟨g, cur, rfl, hgb, _⟩ := row_form (hM.ok _ (.tail _ (.head _)) : w2.ownsRow 0 101 4 (.slice A n c) n (M.flatMap cRoad)) (by omega)
    obtain ⟨ex, hex, hM⟩ := R.own_ext (R.Own.swap hM) (by omega)
    have hex4 : (M.flatMap cRoad ++ ex).length = (n + 1) * 4 := by rw [List.length_append, hcs, hex]; omega
    refine R.WO_copyR (k := n - i) (lo := i + 1) (ss := (M.flatMap cRoad).drop (i * 4)) rfl rfl rfl hM R.Upd.head (by omega) (by omega) (by show min _ _ = _; omega) (by omega) (by omega) ((R.Own.rd hM (.head _)).cutA (lo := i) (by omega) hroom) ?_ (fun v hv => one_flatR M v (List.mem_of_mem_drop hv)) (fun w3 hM => ?_)
    · rw [List.drop_append_of_le_length (by omega)]
      rw [List.take_append_of_le_length (by rw [List.length_drop]; omega), List.take_of_length_le (by rw [List.length_drop]; omega)]
    (refine R.stepH ?_; (repeat' (first | (with_reducible refine And.intro ?_ ?_) | (with_reducible intro _))); all_goals refine R.Lft.mk ?_)
    refine R.WO_copyR (k := 1) (lo := i) (ss := cRoad y) rfl rfl rfl hM R.Upd.head (by omega) (by omega) (Nat.min_eq_left (by omega)) (by omega) (by omega) (R.Own.rd hM (.tail _ (.head _))) rfl (encc_Road.one y) (fun w4 hM => ?_)
    (refine R.stepH ?_; (repeat' (first | (with_reducible refine And.intro ?_ ?_) | (with_reducible intro _))); all_goals refine R.Lft.mk ?_)
    refine ⟨_, _, rfl, ?_⟩
    have he := ins_room (cs := M.flatMap cRoad) (ex := ex) (ys := cRoad y) (a := i * 4) (r := (n - i) * 4) (by omega) hex
    rw [flat_takeR, flat_dropR] at he
    rw [List.flatMap_append, List.flatMap_cons, ← he]
    rw [show (i + 1) * 4 = i * 4 + 4 by omega, show i * 4 + 1 * 4 = i * 4 + 4 by omega, flat_dropR] at hM
    exact R.Own.tl2 hM
  · refine R.calls_of_WC (fn := Try.f96) Try.func96 rfl Try.ntmps96 (Nat.le_of_ble_eq_true rfl) ?_
    (refine R.stepH ?_; (repeat' (first | (with_reducible refine And.intro ?_ ?_) | (with_reducible intro _))); all_goals refine R.Lft.mk ?_)
    refine R.WO_appMk (k := n + 1 - i) rfl (by kernel_rfl) rfl rfl (by omega) hM (.tail _ (.head _)) (by omega) hi (by omega) (by omega) (by omega) (by omega) (fun A1 c1 zs w2 hzs hM => ?_)
    have e1 : i + (n + 1 - i) = n + 1 := by omega
    rw [e1] at hM ⊢
    have hcap1 := cap_of hM (.head _)
    (refine R.stepH ?_; (repeat' (first | (with_reducible refine And.intro ?_ ?_) | (with_reducible intro _))); all_goals refine R.Lft.mk ?_)
    refine R.WO_copyR (k := 1) (lo := i) (ss := cRoad y) rfl rfl rfl hM R.Upd.head (by omega) (by omega) (Nat.min_eq_left (by omega)) (by omega) (by omega) (R.Own.rd hM (.tail _ (.head _))) rfl (encc_Road.one y) (fun w3 hM => ?_)
    (refine R.stepH ?_; (repeat' (first | (with_reducible refine And.intro ?_ ?_) | (with_reducible intro _))); all_goals refine R.Lft.mk ?_)
    rename_i hM
    refine R.WO_copyR (k := n - i) (lo := i + 1) (ss := (M.flatMap cRoad).drop (i * 4)) rfl rfl rfl hM R.Upd.head (by omega) (by omega) (by show min _ _ = _; omega) (by omega) (by omega) ((R.Own.rd hM (.tail _ (.tail _ (.head _)))).cutA (lo := i) hi hcap.1) ?_ (fun v hv => one_flatR M v (List.mem_of_mem_drop hv)) (fun w4 hM => ?_)
    · rw [List.take_of_length_le (by rw [List.length_drop]; omega)]
    (refine R.stepH ?_; (repeat' (first | (with_reducible refine And.intro ?_ ?_) | (with_reducible intro _))); all_goals refine R.Lft.mk ?_)
    refine ⟨_, _, rfl, ?_⟩
    have he := ins_grow (cs := M.flatMap cRoad) (zs := zs) (ys := cRoad y) (a := i * 4) (r := (n - i) * 4) (by omega) (by omega) rfl
    rw [flat_takeR, flat_dropR] at he
    rw [List.flatMap_append, List.flatMap_cons, ← he]
    rw [show (i + 1) * 4 = i * 4 + 4 by omega, show i * 4 + 1 * 4 = i * 4 + 4 by omega, flat_takeR, flat_dropR] at hM
    exact R.Own.tl2 (R.Own.tl2 hM)
end Go.Proofs.Ytmmfndmfibbhcaa
