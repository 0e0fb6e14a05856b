/- The law HeapActs: the walk. -/
import Derived.Test.YtmmfndmfibbhcaaHw
namespace Go.Proofs.Ytmmfndmfibbhcaa
open Go.RowKit
open R (In64 InU64 lo64 nth)
structure Act where
  do_ : Int
  x : Item
  deriving Inhabited
def cAct (a : Act) : List Value := [.int .i64 a.do_, .int .i64 a.x.key, .int .i64 a.x.at_]
instance encc_Act : R.EncC cAct 3 := ⟨fun _ => rfl, by simp [cAct, Value.oneCell'], by decide⟩
instance enct_Act : R.EncT Try.prog 45 Act cAct 3 := {}
theorem least_at {L : List Item} {κ : Int → Option Int} (h : ItemsOk L κ) {v : Int} (hv : LeastAt L L.length v) : (L.length = 0 ∧ v = -1) ∨ ∃ j, j < L.length ∧ v = ((j : Nat) : Int) ∧ isMin κ (nth L j) := by
  rcases hv with c | ⟨j, hj, e, hall⟩
  · exact .inl c
  · refine .inr ⟨j, hj, e, (h.has _).1 (R.nth_mem hj), fun y hy => ?_⟩
    obtain ⟨i, hi, rfl⟩ := mem_nth.1 ((h.has y).2 hy)
    exact hall i hi
theorem least_z {F : List Nat} {W0 w : World} {l : List R.Res} {g b nn N : Nat} {κ : Int → Option Int} (h : Hp F W0 w l g b nn N κ) (h0 : nn = 0) : Calls Try.prog 33 #[.pointer (some ⟨g, 0, none⟩)] w fun e w' => e = .returned (.tuple #[.agg (cItem ⟨0, 0⟩).toArray, .bool false]) ∧ Hp F W0 w' l g b nn N κ := by
  subst h0
  exact least_hp0 h
theorem pop_z {F : List Nat} {W0 w : World} {l : List R.Res} {g b nn N : Nat} {κ : Int → Option Int} (h : Hp F W0 w l g b nn N κ) (h0 : nn = 0) : Calls Try.prog 32 #[.pointer (some ⟨g, 0, none⟩)] w fun e w' => e = .returned (.tuple #[.agg (cItem ⟨0, 0⟩).toArray, .bool false]) ∧ Hp F W0 w' l g b nn N κ := by
  subst h0
  exact pop_hp0 h
theorem row_cap20 {F : List Nat} {W w : World} {l : List R.Res} {A : Option Addr} {n c : Nat} {e : TypeId} {sz : Nat} {cs : List Value} (hM : R.Own F W w l) (hm : .row A n c e sz cs ∈ l) : n ≤ c := by
  have hr : w.ownsRow 0 e sz (.slice A n c) n cs := hM.ok _ hm
  rcases hr.2 with ⟨hv, h0⟩ | ⟨g, cap, cur, hv, _, _, h3, _⟩
  · omega
  · injection hv with _ _ a3
    omega
theorem put_if (κ : Int → Option Int) (x : Item) : R.putM κ x.at_ x.key = (if setB κ x then R.putM κ x.at_ x.key else κ) := by
  by_cases h : setB κ x = true
  · rw [if_pos h]
  · rw [if_neg h]
    refine putM_self ?_
    unfold setB at h
    simpa using h
set_option maxRecDepth 20000 in
set_option maxHeartbeats 8000000 in
theorem heapActs_any (A0 : Option Addr) (n c0 : Nat) (Ls : List Act) (w : World) (hA0 : R.Inp [] w A0 n 3 (Ls.flatMap cAct)) (hn : n = Ls.length) (hG : ∀ a ∈ Ls, In64 a.x.key ∧ In64 a.x.at_) : Calls Try.prog 5 #[.slice A0 n c0] w fun e w' => e = .returned (.bool true) ∧ Below w.heap.size w w' := by
  have hM := R.Own.start [] w
  by_cases hl : n ≤ 80
  · refine R.calls_of_WC (fn := Try.f5) Try.func5 rfl Try.ntmps5 (Nat.le_of_ble_eq_true rfl) ?_
    (refine R.stepH ?_; (repeat' (first | (with_reducible refine And.intro ?_ ?_) | (with_reducible intro _))); all_goals refine R.Lft.mk ?_)
    refine R.WO_call0 rfl rfl ?_
    refine (new_hp (R.ohm : R.Own [] w _ [])).mono ?_
    rintro _ w1 ⟨g, b, rfl, hH⟩
    obtain ⟨A, c, L, es, clk, m, h1, h2, h3, h4, hM⟩ := id hH
    refine ⟨_, rfl, ?_⟩
    (refine R.stepH ?_; (repeat' (first | (with_reducible refine And.intro ?_ ?_) | (with_reducible intro _))); all_goals refine R.Lft.mk ?_)
    rename_i A2 c2 w2 hM
    have hH : Hp [] w w2 [.row A2 0 c2 43 2 (([] : List Item).flatMap cItem)] g b 0 0 (fun _ => none) := ⟨A, c, L, es, clk, m, h1, h2, h3, h4, R.pk (r := .row A _ _ _ _ _) (R.pk (r := .map _ _ _) (R.pk (r := .blk g _ _) hM))⟩
    refine R.WC_loop (fun s : Nat × Nat × Nat × (Int → Option Int) × Option Addr × Nat × List Item => [(0, .slice A0 n c0), (2, .bool false), (3, .pointer (some ⟨g, 0, none⟩)), (4, .slice s.2.2.2.2.1 s.2.1 s.2.2.2.2.2.1), (5, .int .i64 (s.1 : Nat))])
      (fun s w3 => s.1 ≤ n ∧ s.2.1 ≤ s.1 ∧ s.2.2.1 ≤ s.1 ∧ s.2.2.2.2.2.2.length = s.2.1 ∧ ItemsOk s.2.2.2.2.2.2 s.2.2.2.1 ∧ Hp [] w w3 [.row s.2.2.2.2.1 s.2.1 s.2.2.2.2.2.1 43 2 (s.2.2.2.2.2.2.flatMap cItem)] g b s.2.1 s.2.2.1 s.2.2.2.1) (fun s => n - s.1) ⟨(0, 0, 0, fun _ => none, A2, c2, []), ⟨rfl, rfl, rfl, rfl, rfl, trivial⟩, Nat.zero_le _, Nat.le_refl _, Nat.le_refl _, rfl, ItemsOk.nil, hH⟩ ?_
    clear hM hH h1 h2 h3 h4
    rintro ⟨k, nn, N, κ, A2, c2, W1⟩ f w3 ⟨hk, hnn, hN, hWl, hW, hH⟩
    dsimp only at hk hnn hN hWl hW hH ⊢
    obtain ⟨A, c, L, es, clk, m, h1, h2, h3, h4, hM⟩ := id hH
    by_cases hlt : k < n
    · have hx := hG _ (R.nth_mem (L := Ls) (i := k) (by omega))
      have hmx : N + 1 < maxLen := by unfold maxLen; omega
      by_cases hd0 : (nth Ls k).do_ = 0
      · (refine R.stepH ?_; (repeat' (first | (with_reducible refine And.intro ?_ ?_) | (with_reducible intro _))); all_goals refine R.Lft.mk ?_)
        refine R.WO_call3 rfl rfl R.vv R.vv R.vv ?_
        refine (set20_any A2 nn c2 W1 (nth Ls k).x true κ _ (R.Own.inp R.ohm (.tail _ (.tail _ (.tail _ (.head _))))) hWl.symm (by omega) hW).mono ?_
        rintro _ w4 ⟨A3, c3, W2, rfl, hW2, hl2, hG2⟩
        have hM := R.Own.give R.ohm hG2
        have hM := R.dr (.row A2 nn c2 _ _ _) (R.pk (r := .row A _ c _ _ _) (R.pk (r := .map b _ _) (R.pk (r := .blk g _ _) hM)))
        refine ⟨_, rfl, ?_⟩
        rw [setQ_put] at hW2 ⊢
        (refine R.stepH ?_; (repeat' (first | (with_reducible refine And.intro ?_ ?_) | (with_reducible intro _))); all_goals refine R.Lft.mk ?_)
        have hH2 : Hp [] w w4 [.row A3 W2.length c3 43 2 (W2.flatMap cItem)] g b nn N κ := ⟨A, c, L, es, clk, m, h1, h2, h3, h4, hM⟩
        clear hM h1 h2 h3 h4 hH
        refine R.WO_call2 rfl rfl R.vv R.vv ?_
        refine (put_hp (x := (nth Ls k).x) hH2 hx (by omega) hmx).mono ?_
        clear hH2
        rintro _ w5 ⟨rfl, hH⟩
        refine ⟨_, rfl, ?_⟩
        rw [← hl2] at hH
        obtain ⟨κ1, hκ1⟩ : ∃ κ1, (if putB κ (nth Ls k).x then R.putM κ (nth Ls k).x.at_ (nth Ls k).x.key else κ) = κ1 := ⟨_, rfl⟩
        rw [hκ1] at hH hW2
        have hn2 : W2.length ≤ k + 1 := by rw [hl2]; split <;> omega
        obtain ⟨A, c, L, es, clk, m, h1, h2, h3, h4, hM⟩ := id hH
        (refine R.stepH ?_; (repeat' (first | (with_reducible refine And.intro ?_ ?_) | (with_reducible intro _))); all_goals refine R.Lft.mk ?_)
        · exfalso
          have hh : (!(putB κ (nth Ls k).x == putB κ (nth Ls k).x)) = true := by assumption
          simp at hh
        have hN1 : 0 ≤ N + 1 := by omega
        refine R.WO_call1 rfl rfl R.vv ?_
        refine (least20_any A3 W2.length c3 W2 _ (R.Own.inp R.ohm (.tail _ (.tail _ (.tail _ (.head _))))) rfl (by omega)).mono ?_
        rintro _ w6 ⟨v, rfl, hv, hb6⟩
        have hM := R.Own.call R.ohm hb6
        refine ⟨_, rfl, ?_⟩
        (refine R.stepH ?_; (repeat' (first | (with_reducible refine And.intro ?_ ?_) | (with_reducible intro _))); all_goals refine R.Lft.mk ?_)
        have hH : Hp [] w w6 [.row A3 W2.length c3 43 2 (W2.flatMap cItem)] g b W2.length (N + 1) κ1 := ⟨A, c, L, es, clk, m, h1, h2, h3, h4, hM⟩
        clear hM h1 h2 h3 h4
        rcases least_at hW2 hv with ⟨hz, rfl⟩ | ⟨j, hj, rfl, hmin⟩
        · refine R.WO_call1 rfl rfl R.vv ?_
          refine (least_z hH hz).mono ?_
          clear hH
          rintro _ w7 ⟨rfl, A, c, L, es, clk, m, h1, h2, h3, h4, hM⟩
          refine ⟨_, rfl, ?_⟩
          (refine R.stepH ?_; (repeat' (first | (with_reducible refine And.intro ?_ ?_) | (with_reducible intro _))); all_goals refine R.Lft.mk ?_)
          rename_i y _ _ _ hM
          have hM := R.pk (r := .row A _ c _ _ _) (R.pk (r := .map b _ _) (R.pk (r := .blk g _ _) hM))
          refine R.WC_planO [(0, false), (2, false), (3, false), (1, true), (4, false), (5, false), (6, false), (7, false), (8, false), (9, false), (10, false), (11, false), (12, false), (13, false), (14, false), (15, false), (16, false), (17, false), (18, false), (19, false), (20, false), (21, false)] R.mixed (by decide +kernel) R.ohm ?_
          (refine R.stepH ?_; (repeat' (first | (with_reducible refine And.intro ?_ ?_) | (with_reducible intro _))); all_goals refine R.Lft.mk ?_)
          refine R.WO_call1 rfl rfl R.vv ?_
          refine (len_own R.ohm).mono ?_
          rintro _ w8 ⟨rfl, hM⟩
          refine ⟨_, rfl, ?_⟩
          (refine R.stepH ?_; (repeat' (first | (with_reducible refine And.intro ?_ ?_) | (with_reducible intro _))); all_goals refine R.Lft.mk ?_)
          all_goals first
            | (exfalso
               have hh : ((W2.length : Nat) : Int) ≠ ((W2.length : Nat) : Int) := by assumption
               exact hh rfl)
            | skip
          have hH : Hp [] w w8 [.blk y 43 (cItem ⟨0, 0⟩), .row A3 W2.length c3 43 2 (W2.flatMap cItem)] g b W2.length (N + 1) κ1 := ⟨A, c, L, es, clk, m, h1, h2, h3, h4, hM⟩
          clear hM h1 h2 h3 h4
          refine R.WO_call2 rfl rfl R.vv R.vv ?_
          refine (key_hp hH hx.2).mono ?_
          clear hH
          rintro _ w9 ⟨rfl, A, c, L, es, clk, m, h1, h2, h3, h4, hM⟩
          refine ⟨_, rfl, ?_⟩
          have hnx : ∀ w10, R.Own [] w w10 [.row A W2.length c 43 2 (L.flatMap cItem), .map b es clk, .blk g 59 [.slice A W2.length c, .map (some b)], .blk y 43 (cItem ⟨0, 0⟩), .row A3 W2.length c3 43 2 (W2.flatMap cItem)] → Hp [] w w10 [.row A3 W2.length c3 43 2 (W2.flatMap cItem)] g b W2.length (N + 1) κ1 := fun w10 hM => Hp.dr ⟨A, c, L, es, clk, m, h1, h2, h3, h4, hM⟩
          rcases hW2.find (nth Ls k).x.at_ with ⟨hk1, hix⟩ | ⟨q, hq, hix, hat, hk1⟩
          · simp only [hk1, Option.getD_none, Option.isSome_none]
            (refine R.stepH ?_; (repeat' (first | (with_reducible refine And.intro ?_ ?_) | (with_reducible intro _))); all_goals refine R.Lft.mk ?_)
            all_goals first
              | exact ⟨(k + 1, W2.length, N + 1, κ1, A3, c3, W2), ⟨rfl, rfl, rfl, rfl, R.viaI rfl (by dsimp only; omega), trivial⟩, ⟨by dsimp only; omega, hn2, by dsimp only; omega, rfl, hW2, hnx _ R.ohm⟩, by dsimp only; omega⟩
              | (exfalso
                 omega)
              | (exfalso
                 rename_i hh
                 simp [hix] at hh)
          · have hgt : (ixOf (fun x => decide (x.at_ = (nth Ls k).x.at_)) W2).toNat = q := by rw [hix]; rfl
            have hkq : (nth W2 (ixOf (fun x => decide (x.at_ = (nth Ls k).x.at_)) W2).toNat).key = (nth W2 q).key := by rw [hgt]
            simp only [hk1, Option.getD_some, Option.isSome_some]
            (refine R.stepH ?_; (repeat' (first | (with_reducible refine And.intro ?_ ?_) | (with_reducible intro _))); all_goals refine R.Lft.mk ?_)
            all_goals first
              | exact ⟨(k + 1, W2.length, N + 1, κ1, A3, c3, W2), ⟨rfl, rfl, rfl, rfl, R.viaI rfl (by dsimp only; omega), trivial⟩, ⟨by dsimp only; omega, hn2, by dsimp only; omega, rfl, hW2, hnx _ R.ohm⟩, by dsimp only; omega⟩
              | (exfalso
                 omega)
              | (exfalso
                 rename_i hh
                 simp [hix] at hh)
        · refine R.WO_call1 rfl rfl R.vv ?_
          refine (least_hp hH (by omega) (by omega)).mono ?_
          clear hH
          rintro _ w7 ⟨x9, hx9, rfl, A, c, L, es, clk, m, h1, h2, h3, h4, hM⟩
          have hxe := min_uniq hmin hx9
          subst hxe
          refine ⟨_, rfl, ?_⟩
          (refine R.stepH ?_; (repeat' (first | (with_reducible refine And.intro ?_ ?_) | (with_reducible intro _))); all_goals refine R.Lft.mk ?_)
          rename_i y _ _ _ hM
          have hM := R.pk (r := .row A _ c _ _ _) (R.pk (r := .map b _ _) (R.pk (r := .blk g _ _) hM))
          refine R.WC_planO [(0, false), (2, false), (3, false), (1, true), (4, false), (5, false), (6, false), (7, false), (8, false), (9, false), (10, false), (11, false), (12, false), (13, false), (14, false), (15, false), (16, false), (17, false), (18, false), (19, false), (20, false), (21, false)] R.mixed (by decide +kernel) R.ohm ?_
          (refine R.stepH ?_; (repeat' (first | (with_reducible refine And.intro ?_ ?_) | (with_reducible intro _))); all_goals refine R.Lft.mk ?_)
          refine R.WO_call1 rfl rfl R.vv ?_
          refine (len_own R.ohm).mono ?_
          rintro _ w8 ⟨rfl, hM⟩
          refine ⟨_, rfl, ?_⟩
          (refine R.stepH ?_; (repeat' (first | (with_reducible refine And.intro ?_ ?_) | (with_reducible intro _))); all_goals refine R.Lft.mk ?_)
          all_goals first
            | (exfalso
               have hh : ((W2.length : Nat) : Int) ≠ ((W2.length : Nat) : Int) := by assumption
               exact hh rfl)
            | (exfalso
               have hh : nth W2 j ≠ nth W2 j := by assumption
               exact hh rfl)
            | skip
          have hH : Hp [] w w8 [.blk y 43 (cItem (nth W2 j)), .row A3 W2.length c3 43 2 (W2.flatMap cItem)] g b W2.length (N + 1) κ1 := ⟨A, c, L, es, clk, m, h1, h2, h3, h4, hM⟩
          clear hM h1 h2 h3 h4
          refine R.WO_call2 rfl rfl R.vv R.vv ?_
          refine (key_hp hH hx.2).mono ?_
          clear hH
          rintro _ w9 ⟨rfl, A, c, L, es, clk, m, h1, h2, h3, h4, hM⟩
          refine ⟨_, rfl, ?_⟩
          have hnx : ∀ w10, R.Own [] w w10 [.row A W2.length c 43 2 (L.flatMap cItem), .map b es clk, .blk g 59 [.slice A W2.length c, .map (some b)], .blk y 43 (cItem (nth W2 j)), .row A3 W2.length c3 43 2 (W2.flatMap cItem)] → Hp [] w w10 [.row A3 W2.length c3 43 2 (W2.flatMap cItem)] g b W2.length (N + 1) κ1 := fun w10 hM => Hp.dr ⟨A, c, L, es, clk, m, h1, h2, h3, h4, hM⟩
          rcases hW2.find (nth Ls k).x.at_ with ⟨hk1, hix⟩ | ⟨q, hq, hix, hat, hk1⟩
          · simp only [hk1, Option.getD_none, Option.isSome_none]
            (refine R.stepH ?_; (repeat' (first | (with_reducible refine And.intro ?_ ?_) | (with_reducible intro _))); all_goals refine R.Lft.mk ?_)
            all_goals first
              | exact ⟨(k + 1, W2.length, N + 1, κ1, A3, c3, W2), ⟨rfl, rfl, rfl, rfl, R.viaI rfl (by dsimp only; omega), trivial⟩, ⟨by dsimp only; omega, hn2, by dsimp only; omega, rfl, hW2, hnx _ R.ohm⟩, by dsimp only; omega⟩
              | (exfalso
                 omega)
              | (exfalso
                 rename_i hh
                 simp [hix] at hh)
          · have hgt : (ixOf (fun x => decide (x.at_ = (nth Ls k).x.at_)) W2).toNat = q := by rw [hix]; rfl
            have hkq : (nth W2 (ixOf (fun x => decide (x.at_ = (nth Ls k).x.at_)) W2).toNat).key = (nth W2 q).key := by rw [hgt]
            simp only [hk1, Option.getD_some, Option.isSome_some]
            (refine R.stepH ?_; (repeat' (first | (with_reducible refine And.intro ?_ ?_) | (with_reducible intro _))); all_goals refine R.Lft.mk ?_)
            all_goals first
              | exact ⟨(k + 1, W2.length, N + 1, κ1, A3, c3, W2), ⟨rfl, rfl, rfl, rfl, R.viaI rfl (by dsimp only; omega), trivial⟩, ⟨by dsimp only; omega, hn2, by dsimp only; omega, rfl, hW2, hnx _ R.ohm⟩, by dsimp only; omega⟩
              | (exfalso
                 omega)
              | (exfalso
                 rename_i hh
                 simp [hix] at hh)
      · by_cases hd1 : (nth Ls k).do_ = 1
        · (refine R.stepH ?_; (repeat' (first | (with_reducible refine And.intro ?_ ?_) | (with_reducible intro _))); all_goals refine R.Lft.mk ?_)
          clear hM h1 h2 h3 h4
          obtain ⟨A, c, L, es, clk, m, h1, h2, h3, h4, hM⟩ := id hH
          refine R.WO_call3 rfl rfl R.vv R.vv R.vv ?_
          refine (set20_any A2 nn c2 W1 (nth Ls k).x false κ _ (R.Own.inp R.ohm (.tail _ (.tail _ (.tail _ (.head _))))) hWl.symm (by omega) hW).mono ?_
          rintro _ w4 ⟨A3, c3, W2, rfl, hW2, hl2, hG2⟩
          have hM := R.Own.give R.ohm hG2
          have hM := R.dr (.row A2 nn c2 _ _ _) (R.pk (r := .row A _ c _ _ _) (R.pk (r := .map b _ _) (R.pk (r := .blk g _ _) hM)))
          refine ⟨_, rfl, ?_⟩
          rw [setQ_set] at hW2 ⊢
          (refine R.stepH ?_; (repeat' (first | (with_reducible refine And.intro ?_ ?_) | (with_reducible intro _))); all_goals refine R.Lft.mk ?_)
          have hH2 : Hp [] w w4 [.row A3 W2.length c3 43 2 (W2.flatMap cItem)] g b nn N κ := ⟨A, c, L, es, clk, m, h1, h2, h3, h4, hM⟩
          clear hM h1 h2 h3 h4 hH
          refine R.WO_call2 rfl rfl R.vv R.vv ?_
          refine (set_hp (x := (nth Ls k).x) hH2 hx (by omega) hmx).mono ?_
          clear hH2
          rintro _ w5 ⟨rfl, hH⟩
          rw [put_if κ (nth Ls k).x] at hH
          refine ⟨_, rfl, ?_⟩
          rw [← hl2] at hH
          obtain ⟨κ1, hκ1⟩ : ∃ κ1, (if setB κ (nth Ls k).x then R.putM κ (nth Ls k).x.at_ (nth Ls k).x.key else κ) = κ1 := ⟨_, rfl⟩
          rw [hκ1] at hH hW2
          have hn2 : W2.length ≤ k + 1 := by rw [hl2]; split <;> omega
          obtain ⟨A, c, L, es, clk, m, h1, h2, h3, h4, hM⟩ := id hH
          (refine R.stepH ?_; (repeat' (first | (with_reducible refine And.intro ?_ ?_) | (with_reducible intro _))); all_goals refine R.Lft.mk ?_)
          · exfalso
            have hh : (!(setB κ (nth Ls k).x == setB κ (nth Ls k).x)) = true := by assumption
            simp at hh
          have hN1 : 0 ≤ N + 1 := by omega
          refine R.WO_call1 rfl rfl R.vv ?_
          refine (least20_any A3 W2.length c3 W2 _ (R.Own.inp R.ohm (.tail _ (.tail _ (.tail _ (.head _))))) rfl (by omega)).mono ?_
          rintro _ w6 ⟨v, rfl, hv, hb6⟩
          have hM := R.Own.call R.ohm hb6
          refine ⟨_, rfl, ?_⟩
          (refine R.stepH ?_; (repeat' (first | (with_reducible refine And.intro ?_ ?_) | (with_reducible intro _))); all_goals refine R.Lft.mk ?_)
          have hH : Hp [] w w6 [.row A3 W2.length c3 43 2 (W2.flatMap cItem)] g b W2.length (N + 1) κ1 := ⟨A, c, L, es, clk, m, h1, h2, h3, h4, hM⟩
          clear hM h1 h2 h3 h4
          rcases least_at hW2 hv with ⟨hz, rfl⟩ | ⟨j, hj, rfl, hmin⟩
          · refine R.WO_call1 rfl rfl R.vv ?_
            refine (least_z hH hz).mono ?_
            clear hH
            rintro _ w7 ⟨rfl, A, c, L, es, clk, m, h1, h2, h3, h4, hM⟩
            refine ⟨_, rfl, ?_⟩
            (refine R.stepH ?_; (repeat' (first | (with_reducible refine And.intro ?_ ?_) | (with_reducible intro _))); all_goals refine R.Lft.mk ?_)
            rename_i y _ _ _ hM
            have hM := R.pk (r := .row A _ c _ _ _) (R.pk (r := .map b _ _) (R.pk (r := .blk g _ _) hM))
            refine R.WC_planO [(0, false), (2, false), (3, false), (1, true), (4, false), (5, false), (6, false), (7, false), (8, false), (9, false), (10, false), (11, false), (12, false), (13, false), (14, false), (15, false), (16, false), (17, false), (18, false), (19, false), (20, false), (21, false)] R.mixed (by decide +kernel) R.ohm ?_
            (refine R.stepH ?_; (repeat' (first | (with_reducible refine And.intro ?_ ?_) | (with_reducible intro _))); all_goals refine R.Lft.mk ?_)
            refine R.WO_call1 rfl rfl R.vv ?_
            refine (len_own R.ohm).mono ?_
            rintro _ w8 ⟨rfl, hM⟩
            refine ⟨_, rfl, ?_⟩
            (refine R.stepH ?_; (repeat' (first | (with_reducible refine And.intro ?_ ?_) | (with_reducible intro _))); all_goals refine R.Lft.mk ?_)
            all_goals first
              | (exfalso
                 have hh : ((W2.length : Nat) : Int) ≠ ((W2.length : Nat) : Int) := by assumption
                 exact hh rfl)
              | skip
            have hH : Hp [] w w8 [.blk y 43 (cItem ⟨0, 0⟩), .row A3 W2.length c3 43 2 (W2.flatMap cItem)] g b W2.length (N + 1) κ1 := ⟨A, c, L, es, clk, m, h1, h2, h3, h4, hM⟩
            clear hM h1 h2 h3 h4
            refine R.WO_call2 rfl rfl R.vv R.vv ?_
            refine (key_hp hH hx.2).mono ?_
            clear hH
            rintro _ w9 ⟨rfl, A, c, L, es, clk, m, h1, h2, h3, h4, hM⟩
            refine ⟨_, rfl, ?_⟩
            have hnx : ∀ w10, R.Own [] w w10 [.row A W2.length c 43 2 (L.flatMap cItem), .map b es clk, .blk g 59 [.slice A W2.length c, .map (some b)], .blk y 43 (cItem ⟨0, 0⟩), .row A3 W2.length c3 43 2 (W2.flatMap cItem)] → Hp [] w w10 [.row A3 W2.length c3 43 2 (W2.flatMap cItem)] g b W2.length (N + 1) κ1 := fun w10 hM => Hp.dr ⟨A, c, L, es, clk, m, h1, h2, h3, h4, hM⟩
            rcases hW2.find (nth Ls k).x.at_ with ⟨hk1, hix⟩ | ⟨q, hq, hix, hat, hk1⟩
            · simp only [hk1, Option.getD_none, Option.isSome_none]
              (refine R.stepH ?_; (repeat' (first | (with_reducible refine And.intro ?_ ?_) | (with_reducible intro _))); all_goals refine R.Lft.mk ?_)
              all_goals first
                | exact ⟨(k + 1, W2.length, N + 1, κ1, A3, c3, W2), ⟨rfl, rfl, rfl, rfl, R.viaI rfl (by dsimp only; omega), trivial⟩, ⟨by dsimp only; omega, hn2, by dsimp only; omega, rfl, hW2, hnx _ R.ohm⟩, by dsimp only; omega⟩
                | (exfalso
                   omega)
                | (exfalso
                   rename_i hh
                   simp [hix] at hh)
            · have hgt : (ixOf (fun x => decide (x.at_ = (nth Ls k).x.at_)) W2).toNat = q := by rw [hix]; rfl
              have hkq : (nth W2 (ixOf (fun x => decide (x.at_ = (nth Ls k).x.at_)) W2).toNat).key = (nth W2 q).key := by rw [hgt]
              simp only [hk1, Option.getD_some, Option.isSome_some]
              (refine R.stepH ?_; (repeat' (first | (with_reducible refine And.intro ?_ ?_) | (with_reducible intro _))); all_goals refine R.Lft.mk ?_)
              all_goals first
                | exact ⟨(k + 1, W2.length, N + 1, κ1, A3, c3, W2), ⟨rfl, rfl, rfl, rfl, R.viaI rfl (by dsimp only; omega), trivial⟩, ⟨by dsimp only; omega, hn2, by dsimp only; omega, rfl, hW2, hnx _ R.ohm⟩, by dsimp only; omega⟩
                | (exfalso
                   omega)
                | (exfalso
                   rename_i hh
                   simp [hix] at hh)
          · refine R.WO_call1 rfl rfl R.vv ?_
            refine (least_hp hH (by omega) (by omega)).mono ?_
            clear hH
            rintro _ w7 ⟨x9, hx9, rfl, A, c, L, es, clk, m, h1, h2, h3, h4, hM⟩
            have hxe := min_uniq hmin hx9
            subst hxe
            refine ⟨_, rfl, ?_⟩
            (refine R.stepH ?_; (repeat' (first | (with_reducible refine And.intro ?_ ?_) | (with_reducible intro _))); all_goals refine R.Lft.mk ?_)
            rename_i y _ _ _ hM
            have hM := R.pk (r := .row A _ c _ _ _) (R.pk (r := .map b _ _) (R.pk (r := .blk g _ _) hM))
            refine R.WC_planO [(0, false), (2, false), (3, false), (1, true), (4, false), (5, false), (6, false), (7, false), (8, false), (9, false), (10, false), (11, false), (12, false), (13, false), (14, false), (15, false), (16, false), (17, false), (18, false), (19, false), (20, false), (21, false)] R.mixed (by decide +kernel) R.ohm ?_
            (refine R.stepH ?_; (repeat' (first | (with_reducible refine And.intro ?_ ?_) | (with_reducible intro _))); all_goals refine R.Lft.mk ?_)
            refine R.WO_call1 rfl rfl R.vv ?_
            refine (len_own R.ohm).mono ?_
            rintro _ w8 ⟨rfl, hM⟩
            refine ⟨_, rfl, ?_⟩
            (refine R.stepH ?_; (repeat' (first | (with_reducible refine And.intro ?_ ?_) | (with_reducible intro _))); all_goals refine R.Lft.mk ?_)
            all_goals first
              | (exfalso
                 have hh : ((W2.length : Nat) : Int) ≠ ((W2.length : Nat) : Int) := by assumption
                 exact hh rfl)
              | (exfalso
                 have hh : nth W2 j ≠ nth W2 j := by assumption
                 exact hh rfl)
              | skip
            have hH : Hp [] w w8 [.blk y 43 (cItem (nth W2 j)), .row A3 W2.length c3 43 2 (W2.flatMap cItem)] g b W2.length (N + 1) κ1 := ⟨A, c, L, es, clk, m, h1, h2, h3, h4, hM⟩
            clear hM h1 h2 h3 h4
            refine R.WO_call2 rfl rfl R.vv R.vv ?_
            refine (key_hp hH hx.2).mono ?_
            clear hH
            rintro _ w9 ⟨rfl, A, c, L, es, clk, m, h1, h2, h3, h4, hM⟩
            refine ⟨_, rfl, ?_⟩
            have hnx : ∀ w10, R.Own [] w w10 [.row A W2.length c 43 2 (L.flatMap cItem), .map b es clk, .blk g 59 [.slice A W2.length c, .map (some b)], .blk y 43 (cItem (nth W2 j)), .row A3 W2.length c3 43 2 (W2.flatMap cItem)] → Hp [] w w10 [.row A3 W2.length c3 43 2 (W2.flatMap cItem)] g b W2.length (N + 1) κ1 := fun w10 hM => Hp.dr ⟨A, c, L, es, clk, m, h1, h2, h3, h4, hM⟩
            rcases hW2.find (nth Ls k).x.at_ with ⟨hk1, hix⟩ | ⟨q, hq, hix, hat, hk1⟩
            · simp only [hk1, Option.getD_none, Option.isSome_none]
              (refine R.stepH ?_; (repeat' (first | (with_reducible refine And.intro ?_ ?_) | (with_reducible intro _))); all_goals refine R.Lft.mk ?_)
              all_goals first
                | exact ⟨(k + 1, W2.length, N + 1, κ1, A3, c3, W2), ⟨rfl, rfl, rfl, rfl, R.viaI rfl (by dsimp only; omega), trivial⟩, ⟨by dsimp only; omega, hn2, by dsimp only; omega, rfl, hW2, hnx _ R.ohm⟩, by dsimp only; omega⟩
                | (exfalso
                   omega)
                | (exfalso
                   rename_i hh
                   simp [hix] at hh)
            · have hgt : (ixOf (fun x => decide (x.at_ = (nth Ls k).x.at_)) W2).toNat = q := by rw [hix]; rfl
              have hkq : (nth W2 (ixOf (fun x => decide (x.at_ = (nth Ls k).x.at_)) W2).toNat).key = (nth W2 q).key := by rw [hgt]
              simp only [hk1, Option.getD_some, Option.isSome_some]
              (refine R.stepH ?_; (repeat' (first | (with_reducible refine And.intro ?_ ?_) | (with_reducible intro _))); all_goals refine R.Lft.mk ?_)
              all_goals first
                | exact ⟨(k + 1, W2.length, N + 1, κ1, A3, c3, W2), ⟨rfl, rfl, rfl, rfl, R.viaI rfl (by dsimp only; omega), trivial⟩, ⟨by dsimp only; omega, hn2, by dsimp only; omega, rfl, hW2, hnx _ R.ohm⟩, by dsimp only; omega⟩
                | (exfalso
                   omega)
                | (exfalso
                   rename_i hh
                   simp [hix] at hh)
        · subst hWl
          rcases Nat.eq_zero_or_pos W1.length with hnz | hnz
          · (refine R.stepH ?_; (repeat' (first | (with_reducible refine And.intro ?_ ?_) | (with_reducible intro _))); all_goals refine R.Lft.mk ?_)
            refine R.WO_call1 rfl rfl R.vv ?_
            refine (least20_any A2 W1.length c2 W1 _ (R.Own.inp R.ohm (.tail _ (.tail _ (.tail _ (.head _))))) rfl (by omega)).mono ?_
            rintro _ w4 ⟨v, rfl, hv, hb4⟩
            have hM := R.Own.call R.ohm hb4
            have hv : v = -1 := by
              rcases hv with c | ⟨j, hj, _⟩
              · exact c.2
              · omega
            subst hv
            refine ⟨_, rfl, ?_⟩
            (refine R.stepH ?_; (repeat' (first | (with_reducible refine And.intro ?_ ?_) | (with_reducible intro _))); all_goals refine R.Lft.mk ?_)
            have hH2 : Hp [] w w4 [.row A2 W1.length c2 43 2 (W1.flatMap cItem)] g b W1.length N κ := ⟨A, c, L, es, clk, m, h1, h2, h3, h4, hM⟩
            clear hM h1 h2 h3 h4 hH
            refine R.WO_call1 rfl rfl R.vv ?_
            refine (pop_z hH2 hnz).mono ?_
            clear hH2
            rintro _ w5 ⟨rfl, A, c, L, es, clk, m, h1, h2, h3, h4, hM⟩
            refine ⟨_, rfl, ?_⟩
            (refine R.stepH ?_; (repeat' (first | (with_reducible refine And.intro ?_ ?_) | (with_reducible intro _))); all_goals refine R.Lft.mk ?_)
            rename_i r9 _ _ _ _ _ hM
            have hM := R.dr (.blk r9 _ _) hM
            have hn2 : W1.length ≤ k + 1 := by omega
            have hN1 : 0 ≤ N + 1 := by omega
            refine R.WO_call1 rfl rfl R.vv ?_
            refine (least20_any A2 W1.length c2 W1 _ (R.Own.inp R.ohm (.tail _ (.tail _ (.tail _ (.head _))))) rfl (by omega)).mono ?_
            rintro _ w6 ⟨v, rfl, hv, hb6⟩
            have hM := R.Own.call R.ohm hb6
            refine ⟨_, rfl, ?_⟩
            (refine R.stepH ?_; (repeat' (first | (with_reducible refine And.intro ?_ ?_) | (with_reducible intro _))); all_goals refine R.Lft.mk ?_)
            have hH : Hp [] w w6 [.row A2 W1.length c2 43 2 (W1.flatMap cItem)] g b W1.length N κ := ⟨A, c, L, es, clk, m, h1, h2, h3, h4, hM⟩
            clear hM h1 h2 h3 h4
            rcases least_at hW hv with ⟨hz, rfl⟩ | ⟨j, hj, rfl, hmin⟩
            · refine R.WO_call1 rfl rfl R.vv ?_
              refine (least_z hH hz).mono ?_
              clear hH
              rintro _ w7 ⟨rfl, A, c, L, es, clk, m, h1, h2, h3, h4, hM⟩
              refine ⟨_, rfl, ?_⟩
              (refine R.stepH ?_; (repeat' (first | (with_reducible refine And.intro ?_ ?_) | (with_reducible intro _))); all_goals refine R.Lft.mk ?_)
              rename_i y _ _ _ hM
              have hM := R.pk (r := .row A _ c _ _ _) (R.pk (r := .map b _ _) (R.pk (r := .blk g _ _) hM))
              refine R.WC_planO [(0, false), (2, false), (3, false), (1, true), (4, false), (5, false), (6, false), (7, false), (8, false), (9, false), (10, false), (11, false), (12, false), (13, false), (14, false), (15, false), (16, false), (17, false), (18, false), (19, false), (20, false), (21, false)] R.mixed (by decide +kernel) R.ohm ?_
              (refine R.stepH ?_; (repeat' (first | (with_reducible refine And.intro ?_ ?_) | (with_reducible intro _))); all_goals refine R.Lft.mk ?_)
              refine R.WO_call1 rfl rfl R.vv ?_
              refine (len_own R.ohm).mono ?_
              rintro _ w8 ⟨rfl, hM⟩
              refine ⟨_, rfl, ?_⟩
              (refine R.stepH ?_; (repeat' (first | (with_reducible refine And.intro ?_ ?_) | (with_reducible intro _))); all_goals refine R.Lft.mk ?_)
              all_goals first
                | (exfalso
                   have hh : ((W1.length : Nat) : Int) ≠ ((W1.length : Nat) : Int) := by assumption
                   exact hh rfl)
                | skip
              have hH : Hp [] w w8 [.blk y 43 (cItem ⟨0, 0⟩), .row A2 W1.length c2 43 2 (W1.flatMap cItem)] g b W1.length N κ := ⟨A, c, L, es, clk, m, h1, h2, h3, h4, hM⟩
              clear hM h1 h2 h3 h4
              refine R.WO_call2 rfl rfl R.vv R.vv ?_
              refine (key_hp hH hx.2).mono ?_
              clear hH
              rintro _ w9 ⟨rfl, A, c, L, es, clk, m, h1, h2, h3, h4, hM⟩
              refine ⟨_, rfl, ?_⟩
              have hnx : ∀ w10, R.Own [] w w10 [.row A W1.length c 43 2 (L.flatMap cItem), .map b es clk, .blk g 59 [.slice A W1.length c, .map (some b)], .blk y 43 (cItem ⟨0, 0⟩), .row A2 W1.length c2 43 2 (W1.flatMap cItem)] → Hp [] w w10 [.row A2 W1.length c2 43 2 (W1.flatMap cItem)] g b W1.length N κ := fun w10 hM => Hp.dr ⟨A, c, L, es, clk, m, h1, h2, h3, h4, hM⟩
              rcases hW.find (nth Ls k).x.at_ with ⟨hk1, hix⟩ | ⟨q, hq, hix, hat, hk1⟩
              · simp only [hk1, Option.getD_none, Option.isSome_none]
                (refine R.stepH ?_; (repeat' (first | (with_reducible refine And.intro ?_ ?_) | (with_reducible intro _))); all_goals refine R.Lft.mk ?_)
                all_goals first
                  | exact ⟨(k + 1, W1.length, N, κ, A2, c2, W1), ⟨rfl, rfl, rfl, rfl, R.viaI rfl (by dsimp only; omega), trivial⟩, ⟨by dsimp only; omega, hn2, by dsimp only; omega, rfl, hW, hnx _ R.ohm⟩, by dsimp only; omega⟩
                  | (exfalso
                     omega)
                  | (exfalso
                     rename_i hh
                     simp [hix] at hh)
              · have hgt : (ixOf (fun x => decide (x.at_ = (nth Ls k).x.at_)) W1).toNat = q := by rw [hix]; rfl
                have hkq : (nth W1 (ixOf (fun x => decide (x.at_ = (nth Ls k).x.at_)) W1).toNat).key = (nth W1 q).key := by rw [hgt]
                simp only [hk1, Option.getD_some, Option.isSome_some]
                (refine R.stepH ?_; (repeat' (first | (with_reducible refine And.intro ?_ ?_) | (with_reducible intro _))); all_goals refine R.Lft.mk ?_)
                all_goals first
                  | exact ⟨(k + 1, W1.length, N, κ, A2, c2, W1), ⟨rfl, rfl, rfl, rfl, R.viaI rfl (by dsimp only; omega), trivial⟩, ⟨by dsimp only; omega, hn2, by dsimp only; omega, rfl, hW, hnx _ R.ohm⟩, by dsimp only; omega⟩
                  | (exfalso
                     omega)
                  | (exfalso
                     rename_i hh
                     simp [hix] at hh)
            · exfalso
              omega
          · (refine R.stepH ?_; (repeat' (first | (with_reducible refine And.intro ?_ ?_) | (with_reducible intro _))); all_goals refine R.Lft.mk ?_)
            have hcap : W1.length ≤ c2 := row_cap20 hM (.tail _ (.tail _ (.tail _ (.head _))))
            refine R.WO_call1 rfl rfl R.vv ?_
            refine (least20_any A2 W1.length c2 W1 _ (R.Own.inp R.ohm (.tail _ (.tail _ (.tail _ (.head _))))) rfl (by omega)).mono ?_
            rintro _ w4 ⟨v, rfl, hv, hb4⟩
            rcases least_at hW hv with ⟨hz, _⟩ | ⟨j, hj, rfl, hmin⟩
            · exfalso
              omega
            have hM := R.Own.call R.ohm hb4
            refine ⟨_, rfl, ?_⟩
            (refine R.stepH ?_; (repeat' (first | (with_reducible refine And.intro ?_ ?_) | (with_reducible intro _))); all_goals refine R.Lft.mk ?_)
            obtain ⟨n1, hn1⟩ : ∃ n1, W1.length = n1 + 1 := ⟨W1.length - 1, by omega⟩
            have hH2 : Hp [] w w4 [.row A2 W1.length c2 43 2 (W1.flatMap cItem)] g b (n1 + 1) N κ := by
              rw [← hn1]
              exact ⟨A, c, L, es, clk, m, h1, h2, h3, h4, hM⟩
            clear hM h1 h2 h3 h4 hH
            refine R.WO_call1 rfl rfl R.vv ?_
            refine (pop_hp hH2 (by omega) (by omega)).mono ?_
            clear hH2
            rintro _ w5 ⟨x9, hx9, rfl, A, c, L, es, clk, m, h1, h2, h3, h4, hM⟩
            have hxe := min_uniq hmin hx9
            subst hxe
            refine ⟨_, rfl, ?_⟩
            (refine R.stepH ?_; (repeat' (first | (with_reducible refine And.intro ?_ ?_) | (with_reducible intro _))); all_goals refine R.Lft.mk ?_)
            · exfalso
              have hh : nth W1 j ≠ nth W1 j := by assumption
              exact hh rfl
            rename_i r9 _ _ _ _ _ hM _
            have hM := R.dr (.blk r9 _ _) hM
            have hr1 : ∀ w' l', R.Own [] w w' l' → .row A2 W1.length c2 43 2 (W1.flatMap cItem) ∈ l' → R.Rd w' A2 j 2 ((W1.take j).flatMap cItem) := fun w' l' hM hm => by
              have := (R.Own.rd hM hm).take j (by omega)
              rwa [R.flat_takeN (enc := cItem) (sz := 2) encc_Item.len] at this
            have hr2 : ∀ w' l', R.Own [] w w' l' → .row A2 W1.length c2 43 2 (W1.flatMap cItem) ∈ l' → R.Rd w' (R.cutA A2 c2 (j + 1) 2) (W1.length - (j + 1)) 2 ((W1.drop (j + 1)).flatMap cItem) := fun w' l' hM hm => by
              have := (R.Own.rd hM hm).cutA (lo := j + 1) (by omega) hcap
              rwa [R.flat_dropN (enc := cItem) (sz := 2) encc_Item.len] at this
            refine R.WC_planO [(1, false), (2, false), (3, false), (5, false), (6, false), (7, false), (8, false), (0, true), (4, true), (9, true), (10, false)] R.mixed (by decide +kernel) R.ohm ?_
            (refine R.stepH ?_; (repeat' (first | (with_reducible refine And.intro ?_ ?_) | (with_reducible intro _))); all_goals refine R.Lft.mk ?_)
            rename_i A7 c7 _ hM7
            refine R.WO_appO rfl rfl rfl hM7 (fun _ _ => .head) (by infer_instance) (hr1 _ _ hM7 (.tail _ (.tail _ (.tail _ (.tail _ (.head _)))))) (by infer_instance) (by omega) (by omega) ?_
            (refine R.stepH ?_; (repeat' (first | (with_reducible refine And.intro ?_ ?_) | (with_reducible intro _))); all_goals refine R.Lft.mk ?_)
            rename_i A8 c8 _ hM8
            refine R.WO_appO rfl rfl rfl hM8 (fun _ _ => .head) (by infer_instance) (hr2 _ _ hM8 (.tail _ (.tail _ (.tail _ (.tail _ (.head _)))))) (by infer_instance) (by omega) (by omega) ?_
            (refine R.stepH ?_; (repeat' (first | (with_reducible refine And.intro ?_ ?_) | (with_reducible intro _))); all_goals refine R.Lft.mk ?_)
            rename_i A3 c3 _ hM
            obtain ⟨W2, hW2e⟩ : ∃ W2, W1.take j ++ W1.drop (j + 1) = W2 := ⟨_, rfl⟩
            have hl3 : W2.length = n1 := by rw [← hW2e, List.length_append, List.length_take, List.length_drop]; omega
            subst hl3
            have e3 : 0 + j + (W1.length - (((j : Nat) : Int) + 1).toNat) = W2.length := by omega
            rw [List.nil_append, hW2e, e3] at hM
            rw [e3]
            obtain ⟨κ1, hκ1⟩ : ∃ κ1, R.delM κ (nth W1 j).at_ = κ1 := ⟨_, rfl⟩
            rw [hκ1] at h2
            have hW2 : ItemsOk W2 κ1 := by rw [← hW2e, ← hκ1]; exact hW.del hj
            have hn2 : W2.length ≤ k + 1 := by omega
            have hM := R.dr (.row A2 W1.length c2 _ _ _) (R.pk (r := .row A _ c _ _ _) (R.pk (r := .map b _ _) (R.pk (r := .blk g _ _) hM)))
            clear hM7 hM8 hr1 hr2 hv hmin hx9
            have hN1 : 0 ≤ N + 1 := by omega
            refine R.WO_call1 rfl rfl R.vv ?_
            refine (least20_any A3 W2.length c3 W2 _ (R.Own.inp R.ohm (.tail _ (.tail _ (.tail _ (.head _))))) rfl (by omega)).mono ?_
            rintro _ w6 ⟨v, rfl, hv, hb6⟩
            have hM := R.Own.call R.ohm hb6
            refine ⟨_, rfl, ?_⟩
            (refine R.stepH ?_; (repeat' (first | (with_reducible refine And.intro ?_ ?_) | (with_reducible intro _))); all_goals refine R.Lft.mk ?_)
            have hH : Hp [] w w6 [.row A3 W2.length c3 43 2 (W2.flatMap cItem)] g b W2.length N κ1 := ⟨A, c, L, es, clk, m, h1, h2, h3, h4, hM⟩
            clear hM h1 h2 h3 h4
            rcases least_at hW2 hv with ⟨hz, rfl⟩ | ⟨j, hj, rfl, hmin⟩
            · refine R.WO_call1 rfl rfl R.vv ?_
              refine (least_z hH hz).mono ?_
              clear hH
              rintro _ w7 ⟨rfl, A, c, L, es, clk, m, h1, h2, h3, h4, hM⟩
              refine ⟨_, rfl, ?_⟩
              (refine R.stepH ?_; (repeat' (first | (with_reducible refine And.intro ?_ ?_) | (with_reducible intro _))); all_goals refine R.Lft.mk ?_)
              rename_i y _ _ _ hM
              have hM := R.pk (r := .row A _ c _ _ _) (R.pk (r := .map b _ _) (R.pk (r := .blk g _ _) hM))
              refine R.WC_planO [(0, false), (2, false), (3, false), (1, true), (4, false), (5, false), (6, false), (7, false), (8, false), (9, false), (10, false), (11, false), (12, false), (13, false), (14, false), (15, false), (16, false), (17, false), (18, false), (19, false), (20, false), (21, false)] R.mixed (by decide +kernel) R.ohm ?_
              (refine R.stepH ?_; (repeat' (first | (with_reducible refine And.intro ?_ ?_) | (with_reducible intro _))); all_goals refine R.Lft.mk ?_)
              refine R.WO_call1 rfl rfl R.vv ?_
              refine (len_own R.ohm).mono ?_
              rintro _ w8 ⟨rfl, hM⟩
              refine ⟨_, rfl, ?_⟩
              (refine R.stepH ?_; (repeat' (first | (with_reducible refine And.intro ?_ ?_) | (with_reducible intro _))); all_goals refine R.Lft.mk ?_)
              all_goals first
                | (exfalso
                   have hh : ((W2.length : Nat) : Int) ≠ ((W2.length : Nat) : Int) := by assumption
                   exact hh rfl)
                | skip
              have hH : Hp [] w w8 [.blk y 43 (cItem ⟨0, 0⟩), .row A3 W2.length c3 43 2 (W2.flatMap cItem)] g b W2.length N κ1 := ⟨A, c, L, es, clk, m, h1, h2, h3, h4, hM⟩
              clear hM h1 h2 h3 h4
              refine R.WO_call2 rfl rfl R.vv R.vv ?_
              refine (key_hp hH hx.2).mono ?_
              clear hH
              rintro _ w9 ⟨rfl, A, c, L, es, clk, m, h1, h2, h3, h4, hM⟩
              refine ⟨_, rfl, ?_⟩
              have hnx : ∀ w10, R.Own [] w w10 [.row A W2.length c 43 2 (L.flatMap cItem), .map b es clk, .blk g 59 [.slice A W2.length c, .map (some b)], .blk y 43 (cItem ⟨0, 0⟩), .row A3 W2.length c3 43 2 (W2.flatMap cItem)] → Hp [] w w10 [.row A3 W2.length c3 43 2 (W2.flatMap cItem)] g b W2.length N κ1 := fun w10 hM => Hp.dr ⟨A, c, L, es, clk, m, h1, h2, h3, h4, hM⟩
              rcases hW2.find (nth Ls k).x.at_ with ⟨hk1, hix⟩ | ⟨q, hq, hix, hat, hk1⟩
              · simp only [hk1, Option.getD_none, Option.isSome_none]
                (refine R.stepH ?_; (repeat' (first | (with_reducible refine And.intro ?_ ?_) | (with_reducible intro _))); all_goals refine R.Lft.mk ?_)
                all_goals first
                  | exact ⟨(k + 1, W2.length, N, κ1, A3, c3, W2), ⟨rfl, rfl, rfl, rfl, R.viaI rfl (by dsimp only; omega), trivial⟩, ⟨by dsimp only; omega, hn2, by dsimp only; omega, rfl, hW2, hnx _ R.ohm⟩, by dsimp only; omega⟩
                  | (exfalso
                     omega)
                  | (exfalso
                     rename_i hh
                     simp [hix] at hh)
              · have hgt : (ixOf (fun x => decide (x.at_ = (nth Ls k).x.at_)) W2).toNat = q := by rw [hix]; rfl
                have hkq : (nth W2 (ixOf (fun x => decide (x.at_ = (nth Ls k).x.at_)) W2).toNat).key = (nth W2 q).key := by rw [hgt]
                simp only [hk1, Option.getD_some, Option.isSome_some]
                (refine R.stepH ?_; (repeat' (first | (with_reducible refine And.intro ?_ ?_) | (with_reducible intro _))); all_goals refine R.Lft.mk ?_)
                all_goals first
                  | exact ⟨(k + 1, W2.length, N, κ1, A3, c3, W2), ⟨rfl, rfl, rfl, rfl, R.viaI rfl (by dsimp only; omega), trivial⟩, ⟨by dsimp only; omega, hn2, by dsimp only; omega, rfl, hW2, hnx _ R.ohm⟩, by dsimp only; omega⟩
                  | (exfalso
                     omega)
                  | (exfalso
                     rename_i hh
                     simp [hix] at hh)
            · refine R.WO_call1 rfl rfl R.vv ?_
              refine (least_hp hH (by omega) (by omega)).mono ?_
              clear hH
              rintro _ w7 ⟨x9, hx9, rfl, A, c, L, es, clk, m, h1, h2, h3, h4, hM⟩
              have hxe := min_uniq hmin hx9
              subst hxe
              refine ⟨_, rfl, ?_⟩
              (refine R.stepH ?_; (repeat' (first | (with_reducible refine And.intro ?_ ?_) | (with_reducible intro _))); all_goals refine R.Lft.mk ?_)
              rename_i y _ _ _ hM
              have hM := R.pk (r := .row A _ c _ _ _) (R.pk (r := .map b _ _) (R.pk (r := .blk g _ _) hM))
              refine R.WC_planO [(0, false), (2, false), (3, false), (1, true), (4, false), (5, false), (6, false), (7, false), (8, false), (9, false), (10, false), (11, false), (12, false), (13, false), (14, false), (15, false), (16, false), (17, false), (18, false), (19, false), (20, false), (21, false)] R.mixed (by decide +kernel) R.ohm ?_
              (refine R.stepH ?_; (repeat' (first | (with_reducible refine And.intro ?_ ?_) | (with_reducible intro _))); all_goals refine R.Lft.mk ?_)
              refine R.WO_call1 rfl rfl R.vv ?_
              refine (len_own R.ohm).mono ?_
              rintro _ w8 ⟨rfl, hM⟩
              refine ⟨_, rfl, ?_⟩
              (refine R.stepH ?_; (repeat' (first | (with_reducible refine And.intro ?_ ?_) | (with_reducible intro _))); all_goals refine R.Lft.mk ?_)
              all_goals first
                | (exfalso
                   have hh : ((W2.length : Nat) : Int) ≠ ((W2.length : Nat) : Int) := by assumption
                   exact hh rfl)
                | (exfalso
                   have hh : nth W2 j ≠ nth W2 j := by assumption
                   exact hh rfl)
                | skip
              have hH : Hp [] w w8 [.blk y 43 (cItem (nth W2 j)), .row A3 W2.length c3 43 2 (W2.flatMap cItem)] g b W2.length N κ1 := ⟨A, c, L, es, clk, m, h1, h2, h3, h4, hM⟩
              clear hM h1 h2 h3 h4
              refine R.WO_call2 rfl rfl R.vv R.vv ?_
              refine (key_hp hH hx.2).mono ?_
              clear hH
              rintro _ w9 ⟨rfl, A, c, L, es, clk, m, h1, h2, h3, h4, hM⟩
              refine ⟨_, rfl, ?_⟩
              have hnx : ∀ w10, R.Own [] w w10 [.row A W2.length c 43 2 (L.flatMap cItem), .map b es clk, .blk g 59 [.slice A W2.length c, .map (some b)], .blk y 43 (cItem (nth W2 j)), .row A3 W2.length c3 43 2 (W2.flatMap cItem)] → Hp [] w w10 [.row A3 W2.length c3 43 2 (W2.flatMap cItem)] g b W2.length N κ1 := fun w10 hM => Hp.dr ⟨A, c, L, es, clk, m, h1, h2, h3, h4, hM⟩
              rcases hW2.find (nth Ls k).x.at_ with ⟨hk1, hix⟩ | ⟨q, hq, hix, hat, hk1⟩
              · simp only [hk1, Option.getD_none, Option.isSome_none]
                (refine R.stepH ?_; (repeat' (first | (with_reducible refine And.intro ?_ ?_) | (with_reducible intro _))); all_goals refine R.Lft.mk ?_)
                all_goals first
                  | exact ⟨(k + 1, W2.length, N, κ1, A3, c3, W2), ⟨rfl, rfl, rfl, rfl, R.viaI rfl (by dsimp only; omega), trivial⟩, ⟨by dsimp only; omega, hn2, by dsimp only; omega, rfl, hW2, hnx _ R.ohm⟩, by dsimp only; omega⟩
                  | (exfalso
                     omega)
                  | (exfalso
                     rename_i hh
                     simp [hix] at hh)
              · have hgt : (ixOf (fun x => decide (x.at_ = (nth Ls k).x.at_)) W2).toNat = q := by rw [hix]; rfl
                have hkq : (nth W2 (ixOf (fun x => decide (x.at_ = (nth Ls k).x.at_)) W2).toNat).key = (nth W2 q).key := by rw [hgt]
                simp only [hk1, Option.getD_some, Option.isSome_some]
                (refine R.stepH ?_; (repeat' (first | (with_reducible refine And.intro ?_ ?_) | (with_reducible intro _))); all_goals refine R.Lft.mk ?_)
                all_goals first
                  | exact ⟨(k + 1, W2.length, N, κ1, A3, c3, W2), ⟨rfl, rfl, rfl, rfl, R.viaI rfl (by dsimp only; omega), trivial⟩, ⟨by dsimp only; omega, hn2, by dsimp only; omega, rfl, hW2, hnx _ R.ohm⟩, by dsimp only; omega⟩
                  | (exfalso
                     omega)
                  | (exfalso
                     rename_i hh
                     simp [hix] at hh)
    · obtain rfl : k = n := by omega
      (refine R.stepH ?_; (repeat' (first | (with_reducible refine And.intro ?_ ?_) | (with_reducible intro _))); all_goals refine R.Lft.mk ?_; (all_goals (try (exact ⟨rfl, R.Own.below (by assumption)⟩))))
  · refine R.calls_of_WC (fn := Try.f5) Try.func5 rfl Try.ntmps5 (Nat.le_of_ble_eq_true rfl) ?_
    (refine R.stepH ?_; (repeat' (first | (with_reducible refine And.intro ?_ ?_) | (with_reducible intro _))); all_goals refine R.Lft.mk ?_; (all_goals (try (exact ⟨rfl, R.Own.below (by assumption)⟩))))
end Go.Proofs.Ytmmfndmfibbhcaa
