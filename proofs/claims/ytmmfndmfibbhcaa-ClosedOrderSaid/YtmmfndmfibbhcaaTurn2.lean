/- The laws ClosedTurns and ClosedOrder: the walks. -/
import Derived.Test.YtmmfndmfibbhcaaTurn
namespace Go.Proofs.Ytmmfndmfibbhcaa
open Go.ChangeShapes Go.WideShapes Go.ChangeAt Go.RowKit
open R (In64 InU64 lo64 nth)

theorem same_next {L M : List Int} {k : Nat} (h : ∀ i, i < k → nth L i = nth M i) (hk : nth L k = nth M k) : ∀ i, i < k + 1 → nth L i = nth M i := fun i hi => by
  rcases Nat.lt_or_ge i k with h1 | h1
  · exact h i h1
  · obtain rfl : i = k := by omega
    exact hk
theorem same_list {L M : List Int} (hl : L.length = M.length) (h : ∀ i, i < L.length → nth L i = nth M i) : L = M :=
  List.ext_getElem hl fun i h1 h2 => by rw [← R.nth_eq h1, ← R.nth_eq h2]; exact h i h1
/-- Are lists of numbers the same? -/
theorem same01 (A B : Option Addr) (n c m d : Nat) (L M : List Int) (w : World) (hA : R.Inp [] w A n 1 (L.flatMap R.cI)) (hn : n = L.length) (hnb : n ≤ 9223372036854775807) (hB : R.Inp [] w B m 1 (M.flatMap R.cI)) (hm : m = M.length) : Calls Try.prog 51 #[.slice A n c, .slice B m d] w fun e w' => e = .returned (.bool (decide (L = M))) ∧ Below w.heap.size w w' := by
  have hM := R.Own.start [] w
  by_cases hl : n = m
  · refine R.calls_of_WC (fn := Try.f51) Try.func51 rfl Try.ntmps51 (Nat.le_of_ble_eq_true rfl) ?_
    (refine R.step ?_; (repeat' (first | (with_reducible refine And.intro ?_ ?_) | (with_reducible intro _))); all_goals refine R.Lft.mk ?_)
    refine R.WC_loop (fun k : Nat => [(0, .slice A n c), (1, .slice B m d), (4, .bool false), (5, .int .i64 (k : Nat))])
      (fun k w2 => k ≤ n ∧ R.Own [] w w2 [] ∧ ∀ i, i < k → nth L i = nth M i) (fun k => n - k) ⟨0, ⟨rfl, rfl, rfl, rfl, trivial⟩, by omega, hM, fun i hi => absurd hi (Nat.not_lt_zero _)⟩ ?_
    clear hM
    rintro k f w2 ⟨hk, hM, hall⟩
    by_cases hlt : k < n
    · (refine R.step ?_; (repeat' (first | (with_reducible refine And.intro ?_ ?_) | (with_reducible intro _))); all_goals refine R.Lft.mk ?_)
      · have h : nth L k ≠ nth M k := by assumption
        rw [decide_eq_false (fun g : L = M => h (by rw [g]))]
        exact ⟨rfl, R.Own.below (by assumption)⟩
      · have h : ¬ nth L k ≠ nth M k := by assumption
        exact ⟨k + 1, ⟨rfl, rfl, rfl, R.viaI rfl (by omega), trivial⟩, ⟨by omega, by assumption, same_next hall (by simpa using h)⟩, by omega⟩
    · obtain rfl : k = n := by omega
      (refine R.step ?_; (repeat' (first | (with_reducible refine And.intro ?_ ?_) | (with_reducible intro _))); all_goals refine R.Lft.mk ?_)
      rw [decide_eq_true (same_list (by omega) (by rw [← hn]; exact hall))]
      exact ⟨rfl, R.Own.below (by assumption)⟩
  · rw [decide_eq_false (fun g : L = M => hl (by rw [hn, hm, g]))]
    refine R.calls_of_WC (fn := Try.f51) Try.func51 rfl Try.ntmps51 (Nat.le_of_ble_eq_true rfl) ?_
    (refine R.step ?_; (repeat' (first | (with_reducible refine And.intro ?_ ?_) | (with_reducible intro _))); all_goals refine R.Lft.mk ?_)
    all_goals first
      | exact ⟨rfl, R.Own.below (by assumption)⟩
      | (exfalso; omega)

set_option maxHeartbeats 4000000 in
theorem closedTurns_any (A : Option Addr) (n c : Nat) (L : List Int) (many e : Int) (w : World) (hA : R.Inp [] w A n 1 (L.flatMap R.cI)) (hn : n = L.length) :
    Calls Try.prog 12 #[.slice A n c, .int .i64 many, .int .i64 e] w fun en w' => en = .returned (.bool true) ∧ Below w.heap.size w w' := by
  have hM := R.Own.start [] w
  by_cases hl : n ≤ 100
  · by_cases hp : okSet L many ∧ 0 ≤ e ∧ e < many
    · obtain ⟨ho, h0, h1⟩ := hp
      have hc := chkE_t ho
      have hm1 := ho.2.1
      by_cases hin : e ∈ L
      · have hpos := pos_at ho.2.2.2 hin
        have hll := lessL_len hpos.1
        have htl : (turnK L e false many.toNat).length = n - 1 := by rw [← turn_less ho h0 h1 hin]; omega
        refine R.calls_of_WC (fn := Try.f12) Try.func12 rfl Try.ntmps12 (Nat.le_of_ble_eq_true rfl) ?_
        (refine R.step ?_; (repeat' (first | (with_reducible refine And.intro ?_ ?_) | (with_reducible intro _))); all_goals refine R.Lft.mk ?_)
        refine R.WO_call3 rfl rfl R.vv R.vv R.vv ?_
        refine (close_there A n c L many e _ (R.Own.inpIn R.ohm hA) hn (by omega) ho h0 h1 hin).mono ?_
        rintro _ _ ⟨rfl, rfl⟩
        refine ⟨_, rfl, ?_⟩
        (refine R.step ?_; (repeat' (first | (with_reducible refine And.intro ?_ ?_) | (with_reducible intro _))); all_goals refine R.Lft.mk ?_)
        refine R.WO_call3 rfl rfl R.vv R.vv R.vv ?_
        refine (open_ok A n c L many e _ (R.Own.inpIn R.ohm hA) hn (by omega) ho h0 h1 hin).mono ?_
        rintro _ w2 ⟨A1, c1, rfl, hG⟩
        have hM := R.Own.give R.ohm hG
        refine ⟨_, rfl, ?_⟩
        (refine R.step ?_; (repeat' (first | (with_reducible refine And.intro ?_ ?_) | (with_reducible intro _))); all_goals refine R.Lft.mk ?_)
        all_goals first
          | (exfalso
             have h : (!decide (chkE L many = 0) == decide (okSet L many)) = true := by assumption
             simp [hc, ho] at h
             done)
          | (exfalso
             have h : (!decide (chkE L many = 1) == !decide (okSet L many)) = true := by assumption
             simp [hc, ho] at h
             done)
          | (exfalso
             have h : (!decide (e ∈ L) == decide (e ∈ L)) = true := by assumption
             simp at h
             done)
          | (exfalso
             have h : (!decide (okSet L many)) = true := by assumption
             simp [ho] at h
             done)
          | (exfalso
             have h : (!decide (okSet L many)) = false := by assumption
             simp [ho] at h
             done)
          | (exfalso
             have h : decide (e ∈ L) = true := by assumption
             simp [hin] at h
             done)
          | (exfalso
             have h : e ∈ L := by assumption
             exact absurd h (by assumption))
          | (exfalso
             have h : ¬ e ∈ L := by assumption
             exact h (by assumption))
          | skip
        refine R.WO_call4 rfl rfl R.vv R.vv R.vv R.vv ?_
        refine (turn28_any A n c L many e false _ (R.Own.inpIn R.ohm hA) hn (by omega) ho.1 hm1).mono ?_
        rintro _ w3 ⟨A2, c2, rfl, hG2⟩
        have hM := R.Own.give R.ohm hG2
        refine ⟨_, rfl, ?_⟩
        (refine R.step ?_; (repeat' (first | (with_reducible refine And.intro ?_ ?_) | (with_reducible intro _))); all_goals refine R.Lft.mk ?_)
        refine R.WO_call2 rfl rfl R.vv R.vv ?_
        refine (same01 A1 A2 _ c1 _ c2 (lessL L e) (turnK L e false many.toNat) _ (R.Own.inp hM (.tail _ (.head _))) (by omega) (by omega) (R.Own.inp hM (.head _)) rfl).mono ?_
        rintro _ w4 ⟨rfl, hb⟩
        have hM := hM.call hb
        refine ⟨_, rfl, ?_⟩
        rw [decide_eq_true (turn_less ho h0 h1 hin)]
        (refine R.step ?_; (repeat' (first | (with_reducible refine And.intro ?_ ?_) | (with_reducible intro _))); all_goals refine R.Lft.mk ?_; (all_goals (try (exact ⟨rfl, R.Own.below (by assumption)⟩))))
      · have hw := withL_ok ho h0 h1 hin
        have hwl := withL_len L e
        have hlw := less_with ho hin
        have hmw : e ∈ withL L e := (mem_withL L e e).2 (.inl rfl)
        refine R.calls_of_WC (fn := Try.f12) Try.func12 rfl Try.ntmps12 (Nat.le_of_ble_eq_true rfl) ?_
        (refine R.step ?_; (repeat' (first | (with_reducible refine And.intro ?_ ?_) | (with_reducible intro _))); all_goals refine R.Lft.mk ?_)
        refine R.WO_call3 rfl rfl R.vv R.vv R.vv ?_
        refine (close_ok A n c L many e _ (R.Own.inpIn R.ohm hA) hn (by omega) ho h0 h1 hin).mono ?_
        rintro _ w2 ⟨A1, c1, rfl, hG⟩
        have hM := R.Own.give R.ohm hG
        refine ⟨_, rfl, ?_⟩
        (refine R.step ?_; (repeat' (first | (with_reducible refine And.intro ?_ ?_) | (with_reducible intro _))); all_goals refine R.Lft.mk ?_)
        refine R.WO_call3 rfl rfl R.vv R.vv R.vv ?_
        refine (open_none A n c L many e _ (R.Own.inpIn R.ohm hA) hn (by omega) ho h0 h1 hin).mono ?_
        rintro _ _ ⟨rfl, rfl⟩
        refine ⟨_, rfl, ?_⟩
        (refine R.step ?_; (repeat' (first | (with_reducible refine And.intro ?_ ?_) | (with_reducible intro _))); all_goals refine R.Lft.mk ?_)
        all_goals first
          | (exfalso
             have h : (!decide (chkE L many = 0) == decide (okSet L many)) = true := by assumption
             simp [hc, ho] at h
             done)
          | (exfalso
             have h : (!decide (chkE L many = 1) == !decide (okSet L many)) = true := by assumption
             simp [hc, ho] at h
             done)
          | (exfalso
             have h : (!decide (e ∈ L) == decide (e ∈ L)) = true := by assumption
             simp at h
             done)
          | (exfalso
             have h : (!decide (okSet L many)) = true := by assumption
             simp [ho] at h
             done)
          | (exfalso
             have h : (!decide (okSet L many)) = false := by assumption
             simp [ho] at h
             done)
          | (exfalso
             have h : decide (e ∈ L) = true := by assumption
             simp [hin] at h
             done)
          | (exfalso
             have h : e ∈ L := by assumption
             exact absurd h (by assumption))
          | (exfalso
             have h : ¬ e ∈ L := by assumption
             exact h (by assumption))
          | skip
        refine R.WO_call3 rfl rfl R.vv R.vv R.vv ?_
        refine (open_ok A1 (n + 1) c1 (withL L e) many e _ (R.Own.inp R.ohm R.memb) (by omega) (by omega) hw h0 h1 hmw).mono ?_
        rintro _ w3 ⟨A2, c2, rfl, hG2⟩
        have hM := R.Own.give R.ohm hG2
        rw [hlw] at hM
        refine ⟨_, rfl, ?_⟩
        (refine R.step ?_; (repeat' (first | (with_reducible refine And.intro ?_ ?_) | (with_reducible intro _))); all_goals refine R.Lft.mk ?_)
        refine R.WO_call4 rfl rfl R.vv R.vv R.vv R.vv ?_
        refine (turn28_any A n c L many e true _ (R.Own.inpIn R.ohm hA) hn (by omega) ho.1 hm1).mono ?_
        rintro _ w4 ⟨A3, c3, rfl, hG3⟩
        have hM := R.Own.give R.ohm hG3
        refine ⟨_, rfl, ?_⟩
        (refine R.step ?_; (repeat' (first | (with_reducible refine And.intro ?_ ?_) | (with_reducible intro _))); all_goals refine R.Lft.mk ?_)
        refine R.WO_call2 rfl rfl R.vv R.vv ?_
        refine (same01 A1 A3 _ c1 _ c3 (withL L e) (turnK L e true many.toNat) _ (R.Own.inp hM (.tail _ (.tail _ (.head _)))) (by omega) (by omega) (R.Own.inp hM (.head _)) rfl).mono ?_
        rintro _ w5 ⟨rfl, hb⟩
        have hM := hM.call hb
        refine ⟨_, rfl, ?_⟩
        rw [decide_eq_true (turn_with ho h0 h1 hin)]
        (refine R.step ?_; (repeat' (first | (with_reducible refine And.intro ?_ ?_) | (with_reducible intro _))); all_goals refine R.Lft.mk ?_)
        refine R.WO_call2 rfl rfl R.vv R.vv ?_
        refine (same01 A2 A _ c2 n c L L _ (R.Own.inp hM (.tail _ (.head _))) (by omega) (by omega) (R.Own.inpIn hM hA) hn).mono ?_
        rintro _ w6 ⟨rfl, hb⟩
        have hM := hM.call hb
        refine ⟨_, rfl, ?_⟩
        rw [show decide (L = L) = true from decide_eq_true rfl]
        (refine R.step ?_; (repeat' (first | (with_reducible refine And.intro ?_ ?_) | (with_reducible intro _))); all_goals refine R.Lft.mk ?_; (all_goals (try (exact ⟨rfl, R.Own.below (by assumption)⟩))))
    · refine R.calls_of_WC (fn := Try.f12) Try.func12 rfl Try.ntmps12 (Nat.le_of_ble_eq_true rfl) ?_
      (refine R.step ?_; (repeat' (first | (with_reducible refine And.intro ?_ ?_) | (with_reducible intro _))); all_goals refine R.Lft.mk ?_)
      refine R.WO_call3 rfl rfl R.vv R.vv R.vv ?_
      refine (close_no A n c L many e _ (R.Own.inpIn R.ohm hA) hn (by omega) hp).mono ?_
      rintro _ _ ⟨rfl, rfl⟩
      refine ⟨_, rfl, ?_⟩
      (refine R.step ?_; (repeat' (first | (with_reducible refine And.intro ?_ ?_) | (with_reducible intro _))); all_goals refine R.Lft.mk ?_)
      refine R.WO_call3 rfl rfl R.vv R.vv R.vv ?_
      refine (open_no A n c L many e _ (R.Own.inpIn R.ohm hA) hn (by omega) hp).mono ?_
      rintro _ _ ⟨rfl, rfl⟩
      refine ⟨_, rfl, ?_⟩
      by_cases ho : okSet L many
      · have hc := chkE_t ho
        have hq : ¬ (0 ≤ e ∧ e < many) := fun g => hp ⟨ho, g⟩
        (refine R.step ?_; (repeat' (first | (with_reducible refine And.intro ?_ ?_) | (with_reducible intro _))); all_goals refine R.Lft.mk ?_; (all_goals (try (exact ⟨rfl, R.Own.below (by assumption)⟩))))
        all_goals first
          | (exfalso
             have h : (!decide (chkE L many = 0) == decide (okSet L many)) = true := by assumption
             simp [hc, ho] at h
             done)
          | (exfalso
             have h : (!decide (chkE L many = 1) == !decide (okSet L many)) = true := by assumption
             simp [hc, ho] at h
             done)
          | (exfalso
             have h : (!decide (e ∈ L) == decide (e ∈ L)) = true := by assumption
             simp at h
             done)
          | (exfalso
             have h : (!decide (okSet L many)) = true := by assumption
             simp [ho] at h
             done)
          | (exfalso
             have h : (!decide (okSet L many)) = false := by assumption
             simp [ho] at h
             done)
          | (exfalso
             have h : decide (e ∈ L) = true := by assumption
             simp [hin] at h
             done)
          | (exfalso
             have h : e ∈ L := by assumption
             exact absurd h (by assumption))
          | (exfalso
             have h : ¬ e ∈ L := by assumption
             exact h (by assumption))
          | skip
        all_goals (exfalso; omega)
      · have hc := chkE_f ho
        (refine R.step ?_; (repeat' (first | (with_reducible refine And.intro ?_ ?_) | (with_reducible intro _))); all_goals refine R.Lft.mk ?_; (all_goals (try (exact ⟨rfl, R.Own.below (by assumption)⟩))))
        all_goals first
          | (exfalso
             have h : (!decide (chkE L many = 0) == decide (okSet L many)) = true := by assumption
             simp [hc, ho] at h
             done)
          | (exfalso
             have h : (!decide (chkE L many = 1) == !decide (okSet L many)) = true := by assumption
             simp [hc, ho] at h
             done)
          | (exfalso
             have h : (!decide (e ∈ L) == decide (e ∈ L)) = true := by assumption
             simp at h
             done)
          | (exfalso
             have h : (!decide (okSet L many)) = true := by assumption
             simp [ho] at h
             done)
          | (exfalso
             have h : (!decide (okSet L many)) = false := by assumption
             simp [ho] at h
             done)
          | (exfalso
             have h : decide (e ∈ L) = true := by assumption
             simp [hin] at h
             done)
          | (exfalso
             have h : e ∈ L := by assumption
             exact absurd h (by assumption))
          | (exfalso
             have h : ¬ e ∈ L := by assumption
             exact h (by assumption))
          | skip
  · refine R.calls_of_WC (fn := Try.f12) Try.func12 rfl Try.ntmps12 (Nat.le_of_ble_eq_true rfl) ?_
    (refine R.step ?_; (repeat' (first | (with_reducible refine And.intro ?_ ?_) | (with_reducible intro _))); all_goals refine R.Lft.mk ?_; (all_goals (try (exact ⟨rfl, R.Own.below (by assumption)⟩))))
theorem close_gen (A : Option Addr) (n c : Nat) (L : List Int) (many e : Int) (w : World) (hA : R.Inp [] w A n 1 (L.flatMap R.cI)) (hn : n = L.length) (hb : n ≤ 1000000) : Calls Try.prog 50 #[.slice A n c, .int .i64 many, .int .i64 e] w fun en w' => ∃ A' n' c' er, en = .returned (.tuple #[.slice A' n' c', .int .i64 er]) ∧ Below w.heap.size w w' ∧ (er = 0 → okSet L many ∧ (0 ≤ e ∧ e < many) ∧ e ∉ L) := by
  by_cases hp : okSet L many ∧ 0 ≤ e ∧ e < many
  · obtain ⟨ho, h0, h1⟩ := hp
    by_cases hin : e ∈ L
    · refine (close_there A n c L many e w hA hn hb ho h0 h1 hin).mono ?_
      rintro _ _ ⟨rfl, rfl⟩
      exact ⟨_, _, _, _, rfl, Below.refl _ _, fun h => absurd h (by decide)⟩
    · refine (close_ok A n c L many e w hA hn hb ho h0 h1 hin).mono ?_
      rintro _ w2 ⟨A1, c1, rfl, hG⟩
      exact ⟨_, _, _, _, rfl, ((R.Own.start [] w).give hG).below, fun _ => ⟨ho, ⟨h0, h1⟩, hin⟩⟩
  · refine (close_no A n c L many e w hA hn hb hp).mono ?_
    rintro _ _ ⟨rfl, rfl⟩
    exact ⟨_, _, _, _, rfl, Below.refl _ _, fun h => absurd h (by decide)⟩
set_option maxHeartbeats 4000000 in
theorem closedOrder_any (A : Option Addr) (n c : Nat) (L : List Int) (many x y : Int) (w : World) (hA : R.Inp [] w A n 1 (L.flatMap R.cI)) (hn : n = L.length) :
    Calls Try.prog 10 #[.slice A n c, .int .i64 many, .agg [.int .i64 x, .int .i64 y].toArray] w fun en w' => en = .returned (.bool true) ∧ Below w.heap.size w w' := by
  have hM := R.Own.start [] w
  by_cases hl : n ≤ 100
  · by_cases hxy : x = y
    · refine R.calls_of_WC (fn := Try.f10) Try.func10 rfl Try.ntmps10 (Nat.le_of_ble_eq_true rfl) ?_
      (refine R.step ?_; (repeat' (first | (with_reducible refine And.intro ?_ ?_) | (with_reducible intro _))); all_goals refine R.Lft.mk ?_; (all_goals (try (exact ⟨rfl, R.Own.below (by assumption)⟩))))
    · by_cases hp : okSet L many ∧ ((0 ≤ x ∧ x < many) ∧ x ∉ L) ∧ ((0 ≤ y ∧ y < many) ∧ y ∉ L)
      · obtain ⟨ho, ⟨⟨x0, x1⟩, hx⟩, ⟨⟨y0, y1⟩, hy⟩⟩ := hp
        have ox := withL_ok ho x0 x1 hx
        have oy := withL_ok ho y0 y1 hy
        have lx := withL_len L x
        have ly := withL_len L y
        have hx2 : x ∉ withL L y := fun h => by
          rcases (mem_withL L y x).1 h with g | g
          · exact hxy g
          · exact hx g
        have hy2 : y ∉ withL L x := fun h => by
          rcases (mem_withL L x y).1 h with g | g
          · exact hxy g.symm
          · exact hy g
        have lxy := withL_len (withL L x) y
        have lyx := withL_len (withL L y) x
        refine R.calls_of_WC (fn := Try.f10) Try.func10 rfl Try.ntmps10 (Nat.le_of_ble_eq_true rfl) ?_
        (refine R.step ?_; (repeat' (first | (with_reducible refine And.intro ?_ ?_) | (with_reducible intro _))); all_goals refine R.Lft.mk ?_)
        refine R.WO_call3 rfl rfl R.vv R.vv R.vv ?_
        refine (close_ok A n c L many x _ (R.Own.inpIn R.ohm hA) hn (by omega) ho x0 x1 hx).mono ?_
        rintro _ w2 ⟨A1, c1, rfl, hG⟩
        have hM := R.Own.give R.ohm hG
        refine ⟨_, rfl, ?_⟩
        (refine R.step ?_; (repeat' (first | (with_reducible refine And.intro ?_ ?_) | (with_reducible intro _))); all_goals refine R.Lft.mk ?_)
        refine R.WO_call3 rfl rfl R.vv R.vv R.vv ?_
        refine (close_ok A n c L many y _ (R.Own.inpIn R.ohm hA) hn (by omega) ho y0 y1 hy).mono ?_
        rintro _ w3 ⟨A2, c2, rfl, hG2⟩
        have hM := R.Own.give R.ohm hG2
        refine ⟨_, rfl, ?_⟩
        (refine R.step ?_; (repeat' (first | (with_reducible refine And.intro ?_ ?_) | (with_reducible intro _))); all_goals refine R.Lft.mk ?_)
        refine R.WO_call3 rfl rfl R.vv R.vv R.vv ?_
        refine (close_ok A1 (n + 1) c1 (withL L x) many y _ (R.Own.inp R.ohm (.tail _ (.head _))) (by omega) (by omega) ox y0 y1 hy2).mono ?_
        rintro _ w4 ⟨A3, c3, rfl, hG3⟩
        have hM := R.Own.give R.ohm hG3
        refine ⟨_, rfl, ?_⟩
        (refine R.step ?_; (repeat' (first | (with_reducible refine And.intro ?_ ?_) | (with_reducible intro _))); all_goals refine R.Lft.mk ?_)
        refine R.WO_call3 rfl rfl R.vv R.vv R.vv ?_
        refine (close_ok A2 (n + 1) c2 (withL L y) many x _ (R.Own.inp R.ohm (.tail _ (.head _))) (by omega) (by omega) oy x0 x1 hx2).mono ?_
        rintro _ w5 ⟨A4, c4, rfl, hG4⟩
        have hM := R.Own.give R.ohm hG4
        refine ⟨_, rfl, ?_⟩
        (refine R.step ?_; (repeat' (first | (with_reducible refine And.intro ?_ ?_) | (with_reducible intro _))); all_goals refine R.Lft.mk ?_)
        refine R.WO_call2 rfl rfl R.vv R.vv ?_
        refine (same01 A3 A4 _ c3 _ c4 (withL (withL L x) y) (withL (withL L y) x) _ (R.Own.inp R.ohm (.tail _ (.head _))) (by omega) (by omega) (R.Own.inp R.ohm (.head _)) (by omega)).mono ?_
        rintro _ w6 ⟨rfl, hb⟩
        have hM := R.Own.call R.ohm hb
        refine ⟨_, rfl, ?_⟩
        rw [decide_eq_true (with_with ho hx hy hxy)]
        (refine R.step ?_; (repeat' (first | (with_reducible refine And.intro ?_ ?_) | (with_reducible intro _))); all_goals refine R.Lft.mk ?_; (all_goals (try (exact ⟨rfl, R.Own.below (by assumption)⟩))))
      · refine R.calls_of_WC (fn := Try.f10) Try.func10 rfl Try.ntmps10 (Nat.le_of_ble_eq_true rfl) ?_
        (refine R.step ?_; (repeat' (first | (with_reducible refine And.intro ?_ ?_) | (with_reducible intro _))); all_goals refine R.Lft.mk ?_)
        refine R.WO_call3 rfl rfl R.vv R.vv R.vv ?_
        refine (close_gen A n c L many x _ (R.Own.inpIn R.ohm hA) hn (by omega)).mono ?_
        rintro _ w2 ⟨A1, n1, c1, e1, rfl, hb1, he1⟩
        have hM := R.Own.call R.ohm hb1
        refine ⟨_, rfl, ?_⟩
        (refine R.step ?_; (repeat' (first | (with_reducible refine And.intro ?_ ?_) | (with_reducible intro _))); all_goals refine R.Lft.mk ?_)
        refine R.WO_call3 rfl rfl R.vv R.vv R.vv ?_
        refine (close_gen A n c L many y _ (R.Own.inpIn R.ohm hA) hn (by omega)).mono ?_
        rintro _ w3 ⟨A2, n2, c2, e2, rfl, hb2, he2⟩
        have hM := R.Own.call R.ohm hb2
        refine ⟨_, rfl, ?_⟩
        have hor : e1 ≠ 0 ∨ e2 ≠ 0 := by
          rcases Decidable.em (e1 = 0) with g1 | g1
          · rcases Decidable.em (e2 = 0) with g2 | g2
            · exact absurd ⟨(he1 g1).1, (he1 g1).2, (he2 g2).2⟩ hp
            · exact .inr g2
          · exact .inl g1
        (refine R.step ?_; (repeat' (first | (with_reducible refine And.intro ?_ ?_) | (with_reducible intro _))); all_goals refine R.Lft.mk ?_; (all_goals (try (exact ⟨rfl, R.Own.below (by assumption)⟩))))
        all_goals (exfalso; omega)
  · refine R.calls_of_WC (fn := Try.f10) Try.func10 rfl Try.ntmps10 (Nat.le_of_ble_eq_true rfl) ?_
    (refine R.step ?_; (repeat' (first | (with_reducible refine And.intro ?_ ?_) | (with_reducible intro _))); all_goals refine R.Lft.mk ?_; (all_goals (try (exact ⟨rfl, R.Own.below (by assumption)⟩))))
end Go.Proofs.Ytmmfndmfibbhcaa
