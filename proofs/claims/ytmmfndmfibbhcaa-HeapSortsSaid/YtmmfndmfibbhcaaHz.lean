/- The law HeapSorts: the walk. -/
import Derived.Test.YtmmfndmfibbhcaaHn
namespace Go.Proofs.Ytmmfndmfibbhcaa
open Go.RowKit
open R (In64 InU64 lo64 nth)
/-- What is known of a heap that is being emptied: it holds nothing but what was laid in, and all of it is greater than what came out last. -/
def SortI (κ0 κ : Int → Option Int) (i : Nat) (z : Item) : Prop := (∀ y : Item, κ y.at_ = some y.key → κ0 y.at_ = some y.key) ∧ (0 < i → ∀ y : Item, κ y.at_ = some y.key → ltP z y)
theorem SortI.pop {κ0 κ : Int → Option Int} {i : Nat} {z x : Item} (h : SortI κ0 κ i z) (hx : isMin κ x) : SortI κ0 (R.delM κ x.at_) (i + 1) x ∧ κ0 x.at_ = some x.key ∧ (0 < i → ltP z x) := by
  refine ⟨⟨fun y hy => ?_, fun _ y hy => ?_⟩, h.1 x hx.1, fun hi => h.2 hi x hx.1⟩
  · unfold R.delM at hy
    split at hy
    · cases hy
    · exact h.1 y hy
  · unfold R.delM at hy
    split at hy
    · cases hy
    · rename_i hne
      have := hx.2 y hy
      unfold ltP at *
      omega
theorem item_ext {x y : Item} (h1 : x.key = y.key) (h2 : x.at_ = y.at_) : x = y := by
  cases x; cases y
  simp_all
set_option maxRecDepth 20000 in
set_option maxHeartbeats 8000000 in
theorem heapSorts_any (A0 : Option Addr) (n c0 : Nat) (Ls : List Item) (w : World) (hA0 : R.Inp [] w A0 n 2 (Ls.flatMap cItem)) (hn : n = Ls.length) (hG : ∀ x ∈ Ls, In64 x.key ∧ In64 x.at_) : Calls Try.prog 6 #[.slice A0 n c0] w fun e w' => e = .returned (.bool true) ∧ Below w.heap.size w w' := by
  have hM := R.Own.start [] w
  by_cases hl : n ≤ 200
  · refine R.calls_of_WC (fn := Try.f6) Try.func6 rfl Try.ntmps6 (Nat.le_of_ble_eq_true rfl) ?_
    (refine R.stepH ?_; (repeat' (first | (with_reducible refine And.intro ?_ ?_) | (with_reducible intro _))); all_goals refine R.Lft.mk ?_)
    refine R.WO_call0 rfl rfl ?_
    refine (new_hp (R.ohm : R.Own [] w _ [])).mono ?_
    rintro _ w1 ⟨g, b, rfl, hH⟩
    obtain ⟨A, c, L, es, clk, m, h1, h2, h3, h4, hM⟩ := id hH
    refine ⟨_, rfl, ?_⟩
    (refine R.stepH ?_; (repeat' (first | (with_reducible refine And.intro ?_ ?_) | (with_reducible intro _))); all_goals refine R.Lft.mk ?_)
    rename_i A2 c2 w2 hM
    have hH : Hp [] w w2 [.row A2 0 c2 43 2 (([] : List Item).flatMap cItem)] g b 0 0 (fun _ => none) := ⟨A, c, L, es, clk, m, h1, h2, h3, h4, R.pk (r := .row A _ _ _ _ _) (R.pk (r := .map _ _ _) (R.pk (r := .blk g _ _) hM))⟩
    refine R.WC_loop (fun s : Nat × Nat × Nat × (Int → Option Int) × Option Addr × Nat × List Item => [(0, .slice A0 n c0), (2, .bool false), (3, .pointer (some ⟨g, 0, none⟩)), (4, .slice s.2.2.2.2.1 s.2.1 s.2.2.2.2.2.1), (5, .int .i64 (s.1 : Nat))])
      (fun s w3 => s.1 ≤ n ∧ s.2.1 ≤ s.1 ∧ s.2.2.1 ≤ s.1 ∧ s.2.2.2.2.2.2.length = s.2.1 ∧ ItemsOk s.2.2.2.2.2.2 s.2.2.2.1 ∧ Hp [] w w3 [.row s.2.2.2.2.1 s.2.1 s.2.2.2.2.2.1 43 2 (s.2.2.2.2.2.2.flatMap cItem)] g b s.2.1 s.2.2.1 s.2.2.2.1) (fun s => n - s.1) ⟨(0, 0, 0, fun _ => none, A2, c2, []), ⟨rfl, rfl, rfl, rfl, rfl, trivial⟩, Nat.zero_le _, Nat.le_refl _, Nat.le_refl _, rfl, ItemsOk.nil, hH⟩ ?_
    clear hM hH h1 h2 h3 h4
    rintro ⟨k, nn, N, κ, A2, c2, W1⟩ f w3 ⟨hk, hnn, hN, hWl, hW, hH⟩
    dsimp only at hk hnn hN hWl hW hH ⊢
    obtain ⟨A, c, L, es, clk, m, h1, h2, h3, h4, hM⟩ := id hH
    by_cases hlt : k < n
    · have hx := hG _ (R.nth_mem (L := Ls) (i := k) (by omega))
      have hmx : N + 1 < maxLen := by unfold maxLen; omega
      (refine R.stepH ?_; (repeat' (first | (with_reducible refine And.intro ?_ ?_) | (with_reducible intro _))); all_goals refine R.Lft.mk ?_)
      have hH2 : Hp [] w w3 [.row A2 nn c2 43 2 (W1.flatMap cItem)] g b nn N κ := ⟨A, c, L, es, clk, m, h1, h2, h3, h4, R.ohm⟩
      clear hM h1 h2 h3 h4 hH
      refine R.WO_call2 rfl rfl R.vv R.vv ?_
      refine (put_hp (x := nth Ls k) hH2 hx (by omega) hmx).mono ?_
      clear hH2
      rintro _ w5 ⟨rfl, hH⟩
      refine ⟨_, rfl, ?_⟩
      obtain ⟨A, c, L, es, clk, m, h1, h2, h3, h4, hM⟩ := id hH
      (refine R.stepH ?_; (repeat' (first | (with_reducible refine And.intro ?_ ?_) | (with_reducible intro _))); all_goals refine R.Lft.mk ?_)
      refine R.WO_call3 rfl rfl R.vv R.vv R.vv ?_
      refine (set20_any A2 nn c2 W1 (nth Ls k) true κ _ (R.Own.inp R.ohm (.tail _ (.tail _ (.tail _ (.head _))))) hWl.symm (by omega) hW).mono ?_
      rintro _ w4 ⟨A3, c3, W2, rfl, hW2, hl2, hG2⟩
      have hM := R.Own.give R.ohm hG2
      have hM := R.dr (.row A2 nn c2 _ _ _) (R.pk (r := .row A _ c _ _ _) (R.pk (r := .map b _ _) (R.pk (r := .blk g _ _) hM)))
      refine ⟨_, rfl, ?_⟩
      rw [setQ_put] at hW2 ⊢
      have hH2 : Hp [] w w4 [.row A3 W2.length c3 43 2 (W2.flatMap cItem)] g b _ (N + 1) _ := ⟨A, c, L, es, clk, m, h1, h2, h3, h4, hM⟩
      clear hM h1 h2 h3 h4 hH
      rw [← hl2] at hH2
      obtain ⟨κ1, hκ1⟩ : ∃ κ1, (if putB κ (nth Ls k) then R.putM κ (nth Ls k).at_ (nth Ls k).key else κ) = κ1 := ⟨_, rfl⟩
      rw [hκ1] at hH2 hW2
      have hn2 : W2.length ≤ k + 1 := by rw [hl2]; split <;> omega
      (refine R.stepH ?_; (repeat' (first | (with_reducible refine And.intro ?_ ?_) | (with_reducible intro _))); all_goals refine R.Lft.mk ?_)
      exact ⟨(k + 1, W2.length, N + 1, κ1, A3, c3, W2), ⟨rfl, rfl, rfl, rfl, R.viaI rfl (by dsimp only; omega), trivial⟩, ⟨by dsimp only; omega, hn2, by dsimp only; omega, rfl, hW2, hH2⟩, by dsimp only; omega⟩
    · obtain rfl : k = n := by omega
      (refine R.stepH ?_; (repeat' (first | (with_reducible refine And.intro ?_ ?_) | (with_reducible intro _))); all_goals refine R.Lft.mk ?_)
      rename_i y _ _ _ hM
      have hM := R.pk (r := .row A _ c _ _ _) (R.pk (r := .map b _ _) (R.pk (r := .blk g _ _) hM))
      have hH : Hp [] w _ [.blk y 43 (cItem ⟨0, 0⟩), .row A2 nn c2 43 2 (W1.flatMap cItem)] g b nn N κ := ⟨A, c, L, es, clk, m, h1, h2, h3, h4, hM⟩
      have hmx : N < maxLen := by unfold maxLen; omega
      refine R.WC_loop (fun s : Nat × Nat × (Int → Option Int) × Item => [(2, .bool false), (3, .pointer (some ⟨g, 0, none⟩)), (4, .slice A2 nn c2), (6, .pointer (some ⟨y, 0, none⟩)), (7, .int .i64 (s.1 : Nat))])
        (fun s w3 => s.1 + s.2.1 = nn ∧ SortI κ s.2.2.1 s.1 s.2.2.2 ∧ Hp [] w w3 [.blk y 43 (cItem s.2.2.2), .row A2 nn c2 43 2 (W1.flatMap cItem)] g b s.2.1 N s.2.2.1) (fun s => nn - s.1) ⟨(0, nn, κ, ⟨0, 0⟩), ⟨rfl, rfl, rfl, rfl, rfl, trivial⟩, Nat.zero_add _, ⟨fun y hy => hy, fun h => absurd h (Nat.lt_irrefl _)⟩, hH⟩ ?_
      clear hM hH h1 h2 h3 h4
      rintro ⟨i, r, κ1, z⟩ f w4 ⟨hir, hS, hH⟩
      dsimp only at hir hS hH ⊢
      by_cases hi : i < nn
      · obtain ⟨r, rfl⟩ : ∃ r', r = r' + 1 := ⟨r - 1, by omega⟩
        obtain ⟨A, c, L, es, clk, m, h1, h2, h3, h4, hM⟩ := id hH
        (refine R.stepH ?_; (repeat' (first | (with_reducible refine And.intro ?_ ?_) | (with_reducible intro _))); all_goals refine R.Lft.mk ?_)
        clear hM h1 h2 h3 h4
        refine R.WO_call1 rfl rfl R.vv ?_
        refine (pop_hp hH (by omega) hmx).mono ?_
        clear hH
        rintro _ w5 ⟨x, hx, rfl, hH⟩
        refine ⟨_, rfl, ?_⟩
        obtain ⟨A, c, L, es, clk, m, h1, h2, h3, h4, hM⟩ := id hH
        obtain ⟨hS, hxk, hzx⟩ := hS.pop hx
        rcases hW.find x.at_ with ⟨hno, _⟩ | ⟨q, hq, hix, hat, hk1⟩
        · exfalso
          rw [hno] at hxk
          cases hxk
        obtain rfl : x = nth W1 q := by
          rw [hxk] at hk1
          injection hk1 with hk1
          exact item_ext hk1 hat.symm
        have hnx : ∀ gx w10, R.Own [] w w10 [.blk gx 43 (cItem (nth W1 q)), .row A r c 43 2 (L.flatMap cItem), .map b es clk, .blk g 59 [.slice A r c, .map (some b)], .blk y 43 (cItem (nth W1 q)), .row A2 nn c2 43 2 (W1.flatMap cItem)] → Hp [] w w10 [.blk y 43 (cItem (nth W1 q)), .row A2 nn c2 43 2 (W1.flatMap cItem)] g b r N (R.delM κ1 (nth W1 q).at_) := fun gx w10 hM => ⟨A, c, L, es, clk, m, h1, h2, h3, h4, R.Own.tl hM⟩
        have hgt : (ixOf (fun x => decide (x.at_ = (nth W1 q).at_)) W1).toNat = q := by rw [hix]; rfl
        (refine R.stepH ?_; (repeat' (first | (with_reducible refine And.intro ?_ ?_) | (with_reducible intro _))); all_goals refine R.Lft.mk ?_)
        all_goals first
          | (exfalso
             omega)
          | (exfalso
             rename_i hh
             rw [hgt] at hh
             exact hh rfl)
          | (exfalso
             have hh := hzx (by omega)
             unfold ltP at hh
             omega)
          | exact ⟨(i + 1, r, R.delM κ1 (nth W1 q).at_, nth W1 q), ⟨rfl, rfl, rfl, rfl, R.viaI rfl (by dsimp only; omega), trivial⟩, ⟨by dsimp only; omega, hS, hnx _ _ R.ohm⟩, by dsimp only; omega⟩
      · obtain rfl : r = 0 := by omega
        obtain ⟨A, c, L, es, clk, m, h1, h2, h3, h4, hM⟩ := id hH
        (refine R.stepH ?_; (repeat' (first | (with_reducible refine And.intro ?_ ?_) | (with_reducible intro _))); all_goals refine R.Lft.mk ?_)
        rename_i _ _ w5 hM
        refine R.WC_loop (fun s : Nat => [(2, .bool false), (3, .pointer (some ⟨g, 0, none⟩)), (11, .int .i64 (s : Nat))])
          (fun s w3 => s ≤ 2 ∧ R.Own [] w w3 [.row A 0 c 43 2 (L.flatMap cItem), .map b es clk, .blk g 59 [.slice A 0 c, .map (some b)], .blk y 43 (cItem z), .row A2 nn c2 43 2 (W1.flatMap cItem)]) (fun s => 2 - s) ⟨0, ⟨rfl, rfl, rfl, trivial⟩, Nat.zero_le _, R.ohm⟩ ?_
        clear hM hH
        rintro s f w6 ⟨hs, hM⟩
        try dsimp only at hs hM ⊢
        by_cases hs2 : s < 2
        · rcases Nat.eq_zero_or_pos s with rfl | hsp
          · (refine R.stepH ?_; (repeat' (first | (with_reducible refine And.intro ?_ ?_) | (with_reducible intro _))); all_goals refine R.Lft.mk ?_)
            refine R.WO_call1 rfl rfl R.vv ?_
            refine (popN R.ohm).mono ?_
            rintro _ w7 ⟨rfl, hM⟩
            refine ⟨_, rfl, ?_⟩
            (refine R.stepH ?_; (repeat' (first | (with_reducible refine And.intro ?_ ?_) | (with_reducible intro _))); all_goals refine R.Lft.mk ?_)
            refine R.WO_call1 rfl rfl R.vv ?_
            refine (leastN R.ohm).mono ?_
            rintro _ w7 ⟨rfl, hM⟩
            refine ⟨_, rfl, ?_⟩
            (refine R.stepH ?_; (repeat' (first | (with_reducible refine And.intro ?_ ?_) | (with_reducible intro _))); all_goals refine R.Lft.mk ?_)
            refine R.WO_call2 rfl rfl R.vv R.vv ?_
            refine (keyN R.ohm).mono ?_
            rintro _ w7 ⟨rfl, hM⟩
            refine ⟨_, rfl, ?_⟩
            (refine R.stepH ?_; (repeat' (first | (with_reducible refine And.intro ?_ ?_) | (with_reducible intro _))); all_goals refine R.Lft.mk ?_)
            refine R.WO_call2 rfl rfl R.vv R.vv ?_
            refine (putN (x := ⟨0, 0⟩) R.ohm).mono ?_
            rintro _ w7 ⟨rfl, hM⟩
            refine ⟨_, rfl, ?_⟩
            (refine R.stepH ?_; (repeat' (first | (with_reducible refine And.intro ?_ ?_) | (with_reducible intro _))); all_goals refine R.Lft.mk ?_)
            refine R.WO_call2 rfl rfl R.vv R.vv ?_
            refine (setN (x := ⟨0, 0⟩) R.ohm).mono ?_
            rintro _ w7 ⟨rfl, hM⟩
            refine ⟨_, rfl, ?_⟩
            (refine R.stepH ?_; (repeat' (first | (with_reducible refine And.intro ?_ ?_) | (with_reducible intro _))); all_goals refine R.Lft.mk ?_)
            refine R.WO_call1 rfl rfl R.vv ?_
            refine (lenN R.ohm).mono ?_
            rintro _ w7 ⟨rfl, hM⟩
            refine ⟨_, rfl, ?_⟩
            (refine R.stepH ?_; (repeat' (first | (with_reducible refine And.intro ?_ ?_) | (with_reducible intro _))); all_goals refine R.Lft.mk ?_)
            exact ⟨1, ⟨rfl, rfl, R.viaI rfl (by decide), trivial⟩, ⟨by omega, R.Own.tl (R.Own.tl R.ohm)⟩, by omega⟩
          · obtain rfl : s = 1 := by omega
            (refine R.stepH ?_; (repeat' (first | (with_reducible refine And.intro ?_ ?_) | (with_reducible intro _))); all_goals refine R.Lft.mk ?_)
            refine R.WO_call1 rfl rfl R.vv ?_
            refine (pop0 R.ohm).mono ?_
            rintro _ w7 ⟨rfl, hM⟩
            refine ⟨_, rfl, ?_⟩
            (refine R.stepH ?_; (repeat' (first | (with_reducible refine And.intro ?_ ?_) | (with_reducible intro _))); all_goals refine R.Lft.mk ?_)
            refine R.WO_call1 rfl rfl R.vv ?_
            refine (least0 (R.Own.swap R.ohm)).mono ?_
            rintro _ w7 ⟨rfl, hM⟩
            refine ⟨_, rfl, ?_⟩
            (refine R.stepH ?_; (repeat' (first | (with_reducible refine And.intro ?_ ?_) | (with_reducible intro _))); all_goals refine R.Lft.mk ?_)
            refine R.WO_call2 rfl rfl R.vv R.vv ?_
            refine (key0 (by unfold In64; decide) (R.Own.swap R.ohm)).mono ?_
            rintro _ w7 ⟨rfl, hM⟩
            refine ⟨_, rfl, ?_⟩
            (refine R.stepH ?_; (repeat' (first | (with_reducible refine And.intro ?_ ?_) | (with_reducible intro _))); all_goals refine R.Lft.mk ?_)
            refine R.WO_call2 rfl rfl R.vv R.vv ?_
            refine (put0H (x := ⟨0, 0⟩) (by unfold In64; decide) R.ohm).mono ?_
            rintro _ w7 ⟨rfl, hM⟩
            refine ⟨_, rfl, ?_⟩
            (refine R.stepH ?_; (repeat' (first | (with_reducible refine And.intro ?_ ?_) | (with_reducible intro _))); all_goals refine R.Lft.mk ?_)
            refine R.WO_call2 rfl rfl R.vv R.vv ?_
            refine (set0 (x := ⟨0, 0⟩) R.ohm).mono ?_
            rintro _ w7 ⟨rfl, hM⟩
            refine ⟨_, rfl, ?_⟩
            (refine R.stepH ?_; (repeat' (first | (with_reducible refine And.intro ?_ ?_) | (with_reducible intro _))); all_goals refine R.Lft.mk ?_)
            refine R.WO_call1 rfl rfl R.vv ?_
            refine (len0 R.ohm).mono ?_
            rintro _ w7 ⟨rfl, hM⟩
            refine ⟨_, rfl, ?_⟩
            (refine R.stepH ?_; (repeat' (first | (with_reducible refine And.intro ?_ ?_) | (with_reducible intro _))); all_goals refine R.Lft.mk ?_)
            exact ⟨2, ⟨rfl, rfl, R.viaI rfl (by decide), trivial⟩, ⟨by omega, R.Own.tl (R.Own.tl (R.Own.tl R.ohm))⟩, by omega⟩
        · obtain rfl : s = 2 := by omega
          (refine R.stepH ?_; (repeat' (first | (with_reducible refine And.intro ?_ ?_) | (with_reducible intro _))); all_goals refine R.Lft.mk ?_)
          refine R.WO_call1 rfl rfl R.vv ?_
          refine (len_own R.ohm).mono ?_
          rintro _ w7 ⟨rfl, hM⟩
          refine ⟨_, rfl, ?_⟩
          (refine R.stepH ?_; (repeat' (first | (with_reducible refine And.intro ?_ ?_) | (with_reducible intro _))); all_goals refine R.Lft.mk ?_; (all_goals (try (exact ⟨rfl, R.Own.below (by assumption)⟩))))
  · refine R.calls_of_WC (fn := Try.f6) Try.func6 rfl Try.ntmps6 (Nat.le_of_ble_eq_true rfl) ?_
    (refine R.stepH ?_; (repeat' (first | (with_reducible refine And.intro ?_ ?_) | (with_reducible intro _))); all_goals refine R.Lft.mk ?_; (all_goals (try (exact ⟨rfl, R.Own.below (by assumption)⟩))))
end Go.Proofs.Ytmmfndmfibbhcaa
