/- Package save: a session's bytes. -/
import Derived.Test.YtegbidklcaccjaaSz
namespace Go.Proofs.Ytegbidklcaccjaa
open Go.RowKit
open R (In64 InU64 lo64 nth)
def putV (p : Pln) : List Int := [83] ++ (numsV p).flatMap fun v => numB (zig v)
theorem mayV_p {p : Pln} (h : mayV p = true) : MayP p := by
  rcases Classical.em (MayP p) with c | c
  · exact c
  · rw [mayV_f c] at h
    cases h
theorem numsV_len {w : World} {p : Pln} (hG : GPln w p) (h : MayP p) : (numsV p).length ≤ 100000 := by
  have hnl := numsR_len hG.2.1.2.2.2 (fun x hx => by obtain ⟨j, hj, rfl⟩ := mem_nthR hx; exact (errAll_ok h.1).2.1 j hj)
  have hbL := numsB_len p.bn.L
  have h2 := (errAll_ok h.1).1
  have h3 := hG.2.2.1.2.1
  have h4 := hG.2.2.2.2.2.1
  have h5 := h.2.2.2.2.2.2.1
  have h6 := h.2.2.2.2.2.2.2.1
  unfold numsV
  simp only [List.length_append, List.length_cons, List.length_nil]
  omega
theorem badN_in {v : Int} (h : badN v = false) : -1152921504606846976 ≤ v ∧ v ≤ 1152921504606846976 := by
  unfold badN at h
  simp at h
  exact h
theorem flatB_len {L : List Int} (h : L.any badN = false) : (L.flatMap fun v => numB (zig v)).length ≤ 9 * L.length := by
  induction L with
  | nil => exact Nat.le_refl _
  | cons x l ih =>
    rw [List.any_cons, Bool.or_eq_false_iff] at h
    have h1 := badN_in h.1
    have hz := zig_in h1.1 h1.2
    have h2 := numB_len 8 (zig x) hz.1 (by omega)
    have := ih h.2
    rw [List.flatMap_cons, List.length_append, List.length_cons]
    omega
theorem any_at {L : List Int} (h : L.any badN = false) {k : Nat} (hk : k < L.length) : badN (nth L k) = false := by
  rw [List.any_eq_false] at h
  simpa using h _ (R.nth_mem hk)
set_option maxHeartbeats 4000000 in
theorem put46_any (p : Pln) (w : World) (hG : GPln w p) (h : mayV p = true) : Calls Try.prog 27 #[.agg (cPln p).toArray] w fun e w' => ∃ A1 c1, e = .returned (.slice A1 (putV p).length c1) ∧ R.Gives w w' A1 (putV p).length c1 5 1 ((putV p).flatMap R.cY) := by
  have hM := R.Own.start [] w
  have hm := mayV_p h
  have hnl := numsV_len hG hm
  have hany := hm.2.2.2.2.2.2.2.2
  refine R.calls_of_WC (fn := Try.f27) Try.func27 rfl Try.ntmps27 (Nat.le_of_ble_eq_true rfl) ?_
  (refine R.stepH ?_; (repeat' (first | (with_reducible refine And.intro ?_ ?_) | (with_reducible intro _))); all_goals refine R.Lft.mk ?_)
  rename_i A0 c0 _ _
  refine R.WO_call1 rfl rfl R.vv ?_
  refine (nums46_any p _ (GPln.now R.ohm hG) hm.1 hm.2.2.2.2.2.2.1 hm.2.2.2.2.2.2.2.1).mono ?_
  rintro _ w4 ⟨A1, c1, rfl, hG4⟩
  have hM := R.Own.give R.ohm hG4
  refine ⟨_, rfl, ?_⟩
  (refine R.stepH ?_; (repeat' (first | (with_reducible refine And.intro ?_ ?_) | (with_reducible intro _))); all_goals refine R.Lft.mk ?_)
  have hM : R.Own [] w w4 [.row A0 1 c0 5 1 (([83] : List Int).flatMap R.cY), .row A1 (numsV p).length c1 3 1 ((numsV p).flatMap R.cI)] := R.Own.sub (R.Own.swap hM) (List.Sublist.cons_cons _ (List.Sublist.cons_cons _ (List.nil_sublist _)))
  refine R.WC_loop (fun s : Nat × Option Addr × Nat => [(2, .slice none 0 0), (3, .slice s.2.1 ([83] ++ ((numsV p).take s.1).flatMap fun v => numB (zig v)).length s.2.2), (4, .slice A1 (numsV p).length c1), (5, .int .i64 (s.1 : Nat))])
    (fun s w1 => s.1 ≤ (numsV p).length ∧ R.Own [] w w1 [.row s.2.1 ([83] ++ ((numsV p).take s.1).flatMap fun v => numB (zig v)).length s.2.2 5 1 (([83] ++ ((numsV p).take s.1).flatMap fun v => numB (zig v)).flatMap R.cY), .row A1 (numsV p).length c1 3 1 ((numsV p).flatMap R.cI)]) (fun s => (numsV p).length - s.1) ⟨(0, A0, c0), ⟨rfl, rfl, rfl, rfl, trivial⟩, Nat.zero_le _, hM⟩ ?_
  clear hM
  rintro ⟨k, A2, c2⟩ f w5 ⟨hk, hM⟩
  dsimp only at hk hM ⊢
  by_cases hlt : k < (numsV p).length
  · have hfs := flat_snoc (L := numsV p) (k := k) (fun v => numB (zig v)) hlt
    have hin := badN_in (any_at hany hlt)
    have hz := zig_in hin.1 hin.2
    have hnb := numB_len 8 (zig (nth (numsV p) k)) hz.1 (by omega)
    have hle : ([83] ++ ((numsV p).take k).flatMap fun v => numB (zig v)).length ≤ 900001 := by
      have h1 := flatB_len (L := (numsV p).take k) (by rw [List.any_eq_false] at hany ⊢; intro x hx; exact hany x (List.mem_of_mem_take hx))
      rw [List.length_take] at h1
      rw [List.length_append]
      show 1 + _ ≤ _
      omega
    obtain ⟨P, hP⟩ : ∃ P, [83] ++ ((numsV p).take k).flatMap (fun v => numB (zig v)) = P := ⟨_, rfl⟩
    rw [hP] at hM hle ⊢
    (refine R.stepH ?_; (repeat' (first | (with_reducible refine And.intro ?_ ?_) | (with_reducible intro _))); all_goals refine R.Lft.mk ?_)
    refine R.WO_call1 rfl rfl R.vv ?_
    refine (num46_any (nth (numsV p) k) hin.1 hin.2 _).mono ?_
    rintro _ w6 ⟨A3, c3, rfl, hG3⟩
    have hM := R.Own.give R.ohm hG3
    refine ⟨_, rfl, ?_⟩
    (refine R.stepH ?_; (repeat' (first | (with_reducible refine And.intro ?_ ?_) | (with_reducible intro _))); all_goals refine R.Lft.mk ?_)
    rename_i A4 c4 w7 hM
    have hfull : [83] ++ ((numsV p).take (k + 1)).flatMap (fun v => numB (zig v)) = P ++ numB (zig (nth (numsV p) k)) := by rw [hfs, ← List.append_assoc, hP]
    refine ⟨(k + 1, A4, c4), ⟨rfl, R.viaS rfl (by dsimp only; rw [hfull, List.length_append]), rfl, R.viaI rfl (by dsimp only; omega), trivial⟩, ⟨by dsimp only; omega, ?_⟩, by dsimp only; omega⟩
    dsimp only
    rw [hfull, List.length_append]
    exact hM
  · rw [List.take_of_length_le (by omega)] at hM ⊢
    (refine R.stepH ?_; (repeat' (first | (with_reducible refine And.intro ?_ ?_) | (with_reducible intro _))); all_goals refine R.Lft.mk ?_)
    exact ⟨A2, c2, rfl, R.Own.gives R.ohm⟩
set_option maxHeartbeats 4000000 in
theorem put_any (p : Pln) (w : World) (hG : GPln w p) (hs : p.rd.n ≤ 1000000) : Calls Try.prog 23 #[.agg (cPln p).toArray] w fun e w' => ∃ A1 c1 L, L = (if mayV p = true then putV p else []) ∧ e = .returned (.tuple #[.slice A1 L.length c1, .int .i64 (if mayV p = true then 0 else 1)]) ∧ R.Gives w w' A1 L.length c1 5 1 (L.flatMap R.cY) := by
  have hM := R.Own.start [] w
  refine R.calls_of_WC (fn := Try.f23) Try.func23 rfl Try.ntmps23 (Nat.le_of_ble_eq_true rfl) ?_
  (refine R.stepH ?_; (repeat' (first | (with_reducible refine And.intro ?_ ?_) | (with_reducible intro _))); all_goals refine R.Lft.mk ?_)
  refine R.WO_call1 rfl rfl R.vv ?_
  refine (may_any p _ (GPln.now R.ohm hG) hs).mono ?_
  rintro _ w3 ⟨rfl, hb3⟩
  have hM := R.Own.call R.ohm hb3
  refine ⟨_, rfl, ?_⟩
  by_cases h : mayV p ≠ true
  · have h := Bool.eq_false_iff.2 h
    rw [h]
    (refine R.stepH ?_; (repeat' (first | (with_reducible refine And.intro ?_ ?_) | (with_reducible intro _))); all_goals refine R.Lft.mk ?_)
    exact ⟨none, 0, [], by rw [if_neg (by decide)], rfl, (R.Own.nil (R.Own.nul R.ohm) _ _).gives⟩
  have h : mayV p = true := Decidable.not_not.1 h
  have hm := mayV_p h
  have hnl := numsV_len hG hm
  have hany := hm.2.2.2.2.2.2.2.2
  rw [h]
  (refine R.stepH ?_; (repeat' (first | (with_reducible refine And.intro ?_ ?_) | (with_reducible intro _))); all_goals refine R.Lft.mk ?_)
  rename_i A0 c0 _ _
  refine R.WO_call1 rfl rfl R.vv ?_
  refine (nums_any p _ (GPln.now R.ohm hG) hm.1 hm.2.2.2.2.2.2.1 hm.2.2.2.2.2.2.2.1).mono ?_
  rintro _ w4 ⟨A1, c1, rfl, hG4⟩
  have hM := R.Own.give R.ohm hG4
  refine ⟨_, rfl, ?_⟩
  (refine R.stepH ?_; (repeat' (first | (with_reducible refine And.intro ?_ ?_) | (with_reducible intro _))); all_goals refine R.Lft.mk ?_)
  have hM : R.Own [] w w4 [.row A0 1 c0 5 1 (([83] : List Int).flatMap R.cY), .row A1 (numsV p).length c1 3 1 ((numsV p).flatMap R.cI)] := R.Own.sub (R.Own.swap hM) (List.Sublist.cons_cons _ (List.Sublist.cons_cons _ (List.nil_sublist _)))
  refine R.WC_loop (fun s : Nat × Option Addr × Nat => [(2, .slice none 0 0), (3, .int .i64 0), (4, .slice s.2.1 ([83] ++ ((numsV p).take s.1).flatMap fun v => numB (zig v)).length s.2.2), (12, .slice A1 (numsV p).length c1), (13, .int .i64 ((numsV p).length : Nat)), (14, .int .i64 (s.1 : Nat))])
    (fun s w1 => s.1 ≤ (numsV p).length ∧ R.Own [] w w1 [.row s.2.1 ([83] ++ ((numsV p).take s.1).flatMap fun v => numB (zig v)).length s.2.2 5 1 (([83] ++ ((numsV p).take s.1).flatMap fun v => numB (zig v)).flatMap R.cY), .row A1 (numsV p).length c1 3 1 ((numsV p).flatMap R.cI)]) (fun s => (numsV p).length - s.1) ⟨(0, A0, c0), ⟨rfl, rfl, rfl, rfl, rfl, rfl, trivial⟩, Nat.zero_le _, hM⟩ ?_
  clear hM
  rintro ⟨k, A2, c2⟩ f w5 ⟨hk, hM⟩
  dsimp only at hk hM ⊢
  by_cases hlt : k < (numsV p).length
  · have hfs := flat_snoc (L := numsV p) (k := k) (fun v => numB (zig v)) hlt
    have hin := badN_in (any_at hany hlt)
    have hz := zig_in hin.1 hin.2
    have hnb := numB_len 8 (zig (nth (numsV p) k)) hz.1 (by omega)
    have hle : ([83] ++ ((numsV p).take k).flatMap fun v => numB (zig v)).length ≤ 900001 := by
      have h1 := flatB_len (L := (numsV p).take k) (by rw [List.any_eq_false] at hany ⊢; intro x hx; exact hany x (List.mem_of_mem_take hx))
      rw [List.length_take] at h1
      rw [List.length_append]
      show 1 + _ ≤ _
      omega
    obtain ⟨P, hP⟩ : ∃ P, [83] ++ ((numsV p).take k).flatMap (fun v => numB (zig v)) = P := ⟨_, rfl⟩
    rw [hP] at hM hle ⊢
    (refine R.stepH ?_; (repeat' (first | (with_reducible refine And.intro ?_ ?_) | (with_reducible intro _))); all_goals refine R.Lft.mk ?_)
    have hpl : putL [] (nth (numsV p) k) = numB (zig (nth (numsV p) k)) := by unfold putL; rw [if_pos hin]; rfl
    refine R.WO_call2 rfl rfl R.vv R.vv ?_
    refine (num_any none 0 0 [] (nth (numsV p) k) _ (R.Own.inp (R.Own.nil hM 5 1) (.head _)) rfl (by omega) (by unfold In64; omega)).mono ?_
    rintro _ w6 ⟨A3, c3, rfl, hG3⟩
    rw [hpl] at hG3 ⊢
    have hM := R.Own.give R.ohm hG3
    refine ⟨_, rfl, ?_⟩
    (refine R.stepH ?_; (repeat' (first | (with_reducible refine And.intro ?_ ?_) | (with_reducible intro _))); all_goals refine R.Lft.mk ?_)
    rename_i A4 c4 w7 hM
    have hfull : [83] ++ ((numsV p).take (k + 1)).flatMap (fun v => numB (zig v)) = P ++ numB (zig (nth (numsV p) k)) := by rw [hfs, ← List.append_assoc, hP]
    refine ⟨(k + 1, A4, c4), ⟨rfl, rfl, R.viaS rfl (by dsimp only; rw [hfull, List.length_append]), rfl, rfl, R.viaI rfl (by dsimp only; omega), trivial⟩, ⟨by dsimp only; omega, ?_⟩, by dsimp only; omega⟩
    dsimp only
    rw [hfull, List.length_append]
    exact hM
  · rw [List.take_of_length_le (by omega)] at hM ⊢
    (refine R.stepH ?_; (repeat' (first | (with_reducible refine And.intro ?_ ?_) | (with_reducible intro _))); all_goals refine R.Lft.mk ?_)
    exact ⟨A2, c2, putV p, by rw [if_pos rfl], rfl, R.Own.gives R.ohm⟩
end Go.Proofs.Ytegbidklcaccjaa
