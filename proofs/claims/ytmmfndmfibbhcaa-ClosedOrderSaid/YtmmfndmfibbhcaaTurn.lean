/- Package closed: an edge closed, and opened; the document's answer. -/
import Derived.Test.YtmmfndmfibbhcaaTurnP
import Derived.Test.YtmmfndmfibbhcaaClosed3
namespace Go.Proofs.Ytmmfndmfibbhcaa
open Go.ChangeShapes Go.WideShapes Go.ChangeAt Go.RowKit
open R (In64 InU64 lo64 nth)

def chkE (L : List Int) (many : Int) : Int := if okSet L many then 0 else 1
theorem chkE_t {L : List Int} {many : Int} (h : okSet L many) : chkE L many = 0 := if_pos h
theorem chkE_f {L : List Int} {many : Int} (h : ¬ okSet L many) : chkE L many = 1 := if_neg h
instance con_check (A : Option Addr) (n c : Nat) (many : Int) : R.ConP Try.prog 57 #[.slice A n c, .int .i64 many] (List Int) (fun L w => R.Inp [] w A n 1 (L.flatMap R.cI) ∧ n = L.length ∧ n ≤ 1000000000) (fun L => .int .i64 (chkE L many)) := ⟨fun L w h => check_any A n c L many w h.1 h.2.1 h.2.2⟩
section
variable (A : Option Addr) (n c : Nat) (L : List Int) (many e : Int) (w : World) (hA : R.Inp [] w A n 1 (L.flatMap R.cI)) (hn : n = L.length) (hb : n ≤ 1000000)
include hA hn hb
theorem close_no (h : ¬ (okSet L many ∧ 0 ≤ e ∧ e < many)) : Calls Try.prog 50 #[.slice A n c, .int .i64 many, .int .i64 e] w fun en w' => en = .returned (.tuple #[.slice none 0 0, .int .i64 1]) ∧ w = w' := by
  have hM := R.Own.start [] w
  by_cases ho : okSet L many
  · have hc := chkE_t ho
    by_cases h0 : 0 ≤ e
    · have h1 : ¬ e < many := fun g => h ⟨ho, h0, g⟩
      refine R.calls_of_WC (fn := Try.f50) Try.func50 rfl Try.ntmps50 (Nat.le_of_ble_eq_true rfl) ?_
      (refine R.step ?_; (repeat' (first | (with_reducible refine And.intro ?_ ?_) | (with_reducible intro _))); all_goals refine R.Lft.mk ?_)
      exact ⟨rfl, rfl⟩
    · refine R.calls_of_WC (fn := Try.f50) Try.func50 rfl Try.ntmps50 (Nat.le_of_ble_eq_true rfl) ?_
      (refine R.step ?_; (repeat' (first | (with_reducible refine And.intro ?_ ?_) | (with_reducible intro _))); all_goals refine R.Lft.mk ?_)
      exact ⟨rfl, rfl⟩
  · have hc := chkE_f ho
    refine R.calls_of_WC (fn := Try.f50) Try.func50 rfl Try.ntmps50 (Nat.le_of_ble_eq_true rfl) ?_
    (refine R.step ?_; (repeat' (first | (with_reducible refine And.intro ?_ ?_) | (with_reducible intro _))); all_goals refine R.Lft.mk ?_)
    exact ⟨rfl, rfl⟩
theorem open_no (h : ¬ (okSet L many ∧ 0 ≤ e ∧ e < many)) : Calls Try.prog 56 #[.slice A n c, .int .i64 many, .int .i64 e] w fun en w' => en = .returned (.tuple #[.slice none 0 0, .int .i64 1]) ∧ w = w' := by
  have hM := R.Own.start [] w
  by_cases ho : okSet L many
  · have hc := chkE_t ho
    by_cases h0 : 0 ≤ e
    · have h1 : ¬ e < many := fun g => h ⟨ho, h0, g⟩
      refine R.calls_of_WC (fn := Try.f56) Try.func56 rfl Try.ntmps56 (Nat.le_of_ble_eq_true rfl) ?_
      (refine R.step ?_; (repeat' (first | (with_reducible refine And.intro ?_ ?_) | (with_reducible intro _))); all_goals refine R.Lft.mk ?_)
      exact ⟨rfl, rfl⟩
    · refine R.calls_of_WC (fn := Try.f56) Try.func56 rfl Try.ntmps56 (Nat.le_of_ble_eq_true rfl) ?_
      (refine R.step ?_; (repeat' (first | (with_reducible refine And.intro ?_ ?_) | (with_reducible intro _))); all_goals refine R.Lft.mk ?_)
      exact ⟨rfl, rfl⟩
  · have hc := chkE_f ho
    refine R.calls_of_WC (fn := Try.f56) Try.func56 rfl Try.ntmps56 (Nat.le_of_ble_eq_true rfl) ?_
    (refine R.step ?_; (repeat' (first | (with_reducible refine And.intro ?_ ?_) | (with_reducible intro _))); all_goals refine R.Lft.mk ?_)
    exact ⟨rfl, rfl⟩
variable (ho : okSet L many) (h0 : 0 ≤ e) (h1 : e < many)
include ho h0 h1
theorem close_there (he : e ∈ L) : Calls Try.prog 50 #[.slice A n c, .int .i64 many, .int .i64 e] w fun en w' => en = .returned (.tuple #[.slice none 0 0, .int .i64 7]) ∧ w = w' := by
  have hM := R.Own.start [] w
  have hc := chkE_t ho
  refine R.calls_of_WC (fn := Try.f50) Try.func50 rfl Try.ntmps50 (Nat.le_of_ble_eq_true rfl) ?_
  (refine R.step ?_; (repeat' (first | (with_reducible refine And.intro ?_ ?_) | (with_reducible intro _))); all_goals refine R.Lft.mk ?_)
  refine R.WO_call2 rfl rfl R.vv R.vv ?_
  refine (search_int A n c L e _ hA hn (by omega) ho.2.2.2).mono ?_
  rintro en w' ⟨rfl, rfl⟩
  refine ⟨_, rfl, ?_⟩
  rw [decide_eq_true he]
  (refine R.step ?_; (repeat' (first | (with_reducible refine And.intro ?_ ?_) | (with_reducible intro _))); all_goals refine R.Lft.mk ?_)
  exact ⟨rfl, rfl⟩
theorem open_none (he : e ∉ L) : Calls Try.prog 56 #[.slice A n c, .int .i64 many, .int .i64 e] w fun en w' => en = .returned (.tuple #[.slice none 0 0, .int .i64 3]) ∧ w = w' := by
  have hM := R.Own.start [] w
  have hc := chkE_t ho
  refine R.calls_of_WC (fn := Try.f56) Try.func56 rfl Try.ntmps56 (Nat.le_of_ble_eq_true rfl) ?_
  (refine R.step ?_; (repeat' (first | (with_reducible refine And.intro ?_ ?_) | (with_reducible intro _))); all_goals refine R.Lft.mk ?_)
  refine R.WO_call2 rfl rfl R.vv R.vv ?_
  refine (search_int A n c L e _ hA hn (by omega) ho.2.2.2).mono ?_
  rintro en w' ⟨rfl, rfl⟩
  refine ⟨_, rfl, ?_⟩
  rw [decide_eq_false he]
  (refine R.step ?_; (repeat' (first | (with_reducible refine And.intro ?_ ?_) | (with_reducible intro _))); all_goals refine R.Lft.mk ?_)
  exact ⟨rfl, rfl⟩
theorem close_ok (he : e ∉ L) : Calls Try.prog 50 #[.slice A n c, .int .i64 many, .int .i64 e] w fun en w' => ∃ A' c', en = .returned (.tuple #[.slice A' (n + 1) c', .int .i64 0]) ∧ R.Gives w w' A' (n + 1) c' 3 1 ((withL L e).flatMap R.cI) := by
  have hM := R.Own.start [] w
  have hc := chkE_t ho
  have hp := (pos_split e ho.2.2.2).1
  refine R.calls_of_WC (fn := Try.f50) Try.func50 rfl Try.ntmps50 (Nat.le_of_ble_eq_true rfl) ?_
  (refine R.step ?_; (repeat' (first | (with_reducible refine And.intro ?_ ?_) | (with_reducible intro _))); all_goals refine R.Lft.mk ?_)
  refine R.WO_call2 rfl rfl R.vv R.vv ?_
  refine (search_int A n c L e _ hA hn (by omega) ho.2.2.2).mono ?_
  rintro en w' ⟨rfl, rfl⟩
  refine ⟨_, rfl, ?_⟩
  rw [decide_eq_false he]
  (refine R.step ?_; (repeat' (first | (with_reducible refine And.intro ?_ ?_) | (with_reducible intro _))); all_goals refine R.Lft.mk ?_)
  refine R.WO_call1 rfl rfl R.vv ?_
  refine (clone_int A n c L _ hA hn (by omega)).mono ?_
  rintro en w' ⟨A1, c1, rfl, hG⟩
  have hM := (R.Own.start [] w).give hG
  refine ⟨_, rfl, ?_⟩
  (refine R.step ?_; (repeat' (first | (with_reducible refine And.intro ?_ ?_) | (with_reducible intro _))); all_goals refine R.Lft.mk ?_)
  rename_i B d w2 hM2
  refine R.WO_call3 rfl rfl R.vv R.vv R.vv ?_
  refine (insert_own A1 B n c1 d (posOf L e) L e _ hb hn (by omega) [] w [] hM2).mono ?_
  rintro en w3 ⟨A2, c2, rfl, hM3⟩
  refine ⟨_, rfl, ?_⟩
  (refine R.step ?_; (repeat' (first | (with_reducible refine And.intro ?_ ?_) | (with_reducible intro _))); all_goals refine R.Lft.mk ?_)
  exact ⟨A2, c2, rfl, hM3.gives⟩
theorem open_ok (he : e ∈ L) : Calls Try.prog 56 #[.slice A n c, .int .i64 many, .int .i64 e] w fun en w' => ∃ A' c', en = .returned (.tuple #[.slice A' (n - 1) c', .int .i64 0]) ∧ R.Gives w w' A' (n - 1) c' 3 1 ((lessL L e).flatMap R.cI) := by
  have hM := R.Own.start [] w
  have hc := chkE_t ho
  have hp := (pos_at ho.2.2.2 he).1
  refine R.calls_of_WC (fn := Try.f56) Try.func56 rfl Try.ntmps56 (Nat.le_of_ble_eq_true rfl) ?_
  (refine R.step ?_; (repeat' (first | (with_reducible refine And.intro ?_ ?_) | (with_reducible intro _))); all_goals refine R.Lft.mk ?_)
  refine R.WO_call2 rfl rfl R.vv R.vv ?_
  refine (search_int A n c L e _ hA hn (by omega) ho.2.2.2).mono ?_
  rintro en w' ⟨rfl, rfl⟩
  refine ⟨_, rfl, ?_⟩
  rw [decide_eq_true he]
  (refine R.step ?_; (repeat' (first | (with_reducible refine And.intro ?_ ?_) | (with_reducible intro _))); all_goals refine R.Lft.mk ?_)
  refine R.WO_call1 rfl rfl R.vv ?_
  refine (clone_int A n c L _ hA hn (by omega)).mono ?_
  rintro en w' ⟨A1, c1, rfl, hG⟩
  have hM := (R.Own.start [] w).give hG
  refine ⟨_, rfl, ?_⟩
  (refine R.step ?_; (repeat' (first | (with_reducible refine And.intro ?_ ?_) | (with_reducible intro _))); all_goals refine R.Lft.mk ?_)
  refine R.WO_call3 rfl rfl R.vv R.vv R.vv ?_
  refine (delete_own A1 n c1 (posOf L e) L _ hb hn (by omega) [] w [] hM).mono ?_
  rintro en w3 ⟨A2, c2, rfl, hM3⟩
  refine ⟨_, rfl, ?_⟩
  (refine R.step ?_; (repeat' (first | (with_reducible refine And.intro ?_ ?_) | (with_reducible intro _))); all_goals refine R.Lft.mk ?_)
  exact ⟨A2, c2, rfl, hM3.gives⟩
end
theorem turnP_at {L : List Int} {e : Int} {b : Bool} {k : Int} (h : k = e) : turnP L e b k = b := by unfold turnP; simp [h]
theorem turnP_ne {L : List Int} {e : Int} {b : Bool} {k : Int} (h : k ≠ e) : turnP L e b k = decide (k ∈ L) := by unfold turnP; simp [h]
theorem turn28_any (A : Option Addr) (n c : Nat) (L : List Int) (many e : Int) (b : Bool) (w : World) (hA : R.Inp [] w A n 1 (L.flatMap R.cI)) (hn : n = L.length) (hb : n ≤ 1000000) (hm0 : 0 ≤ many) (hm : many ≤ 2000) : Calls Try.prog 59 #[.slice A n c, .int .i64 many, .int .i64 e, .bool b] w fun en w' => ∃ A1 c1, en = .returned (.slice A1 (turnK L e b many.toNat).length c1) ∧ R.Gives w w' A1 (turnK L e b many.toNat).length c1 3 1 ((turnK L e b many.toNat).flatMap R.cI) := by
  have hM := R.Own.start [] w
  refine R.calls_of_WC (fn := Try.f59) Try.func59 rfl Try.ntmps59 (Nat.le_of_ble_eq_true rfl) ?_
  (refine R.step ?_; (repeat' (first | (with_reducible refine And.intro ?_ ?_) | (with_reducible intro _))); all_goals refine R.Lft.mk ?_)
  rename_i A0 c0 w0 hM
  refine R.WC_loop (fun s : Nat × Option Addr × Nat => [(0, .slice A n c), (1, .int .i64 many), (2, .int .i64 e), (3, .bool b), (8, .slice none 0 0), (9, .slice s.2.1 (turnK L e b s.1).length s.2.2), (10, .int .i64 (s.1 : Nat))])
    (fun s w1 => (s.1 : Int) ≤ many ∧ (turnK L e b s.1).length ≤ s.1 ∧ R.Own [] w w1 [.row s.2.1 (turnK L e b s.1).length s.2.2 3 1 ((turnK L e b s.1).flatMap R.cI)]) (fun s => many.toNat - s.1) ⟨(0, A0, c0), ⟨rfl, rfl, rfl, rfl, rfl, rfl, rfl, trivial⟩, hm0, Nat.le_refl _, hM⟩ ?_
  clear hM
  rintro ⟨k, A1, c1⟩ f w1 ⟨hk, hkl, hM⟩
  dsimp only at hk hkl hM ⊢
  by_cases hlt : (k : Int) < many
  · have hs := turnK_succ L e b k
    by_cases hp : turnP L e b (k : Nat) = true
    · rw [if_pos hp] at hs
      have hl : (turnK L e b (k + 1)).length = (turnK L e b k).length + 1 := by rw [hs, List.length_append]; rfl
      (refine R.step ?_; (repeat' (first | (with_reducible refine And.intro ?_ ?_) | (with_reducible intro _))); all_goals refine R.Lft.mk ?_)
      all_goals first
        | (refine ⟨(k + 1, _, _), ⟨rfl, rfl, rfl, rfl, rfl, R.viaS rfl hl.symm, R.viaI rfl (by dsimp only; omega), trivial⟩, ⟨by dsimp only; omega, by dsimp only; omega, ?_⟩, by dsimp only; omega⟩
           dsimp only
           rw [hs, List.length_append]
           assumption)
        | (exfalso
           by_cases hke : (k : Int) = e
           · rw [turnP_at hke] at hp
             simp_all
           · rw [turnP_ne hke] at hp
             simp_all)
    · rw [if_neg hp, List.append_nil] at hs
      (refine R.step ?_; (repeat' (first | (with_reducible refine And.intro ?_ ?_) | (with_reducible intro _))); all_goals refine R.Lft.mk ?_)
      all_goals first
        | (refine ⟨(k + 1, _, _), ⟨rfl, rfl, rfl, rfl, rfl, R.viaS rfl (by rw [hs]), R.viaI rfl (by dsimp only; omega), trivial⟩, ⟨by dsimp only; omega, by dsimp only; rw [hs]; omega, ?_⟩, by dsimp only; omega⟩
           dsimp only
           rw [hs]
           assumption)
        | (exfalso
           by_cases hke : (k : Int) = e
           · rw [turnP_at hke] at hp
             simp_all
           · rw [turnP_ne hke] at hp
             simp_all)
  · obtain rfl : k = many.toNat := by omega
    (refine R.step ?_; (repeat' (first | (with_reducible refine And.intro ?_ ?_) | (with_reducible intro _))); all_goals refine R.Lft.mk ?_)
    exact ⟨A1, c1, rfl, hM.gives⟩
end Go.Proofs.Ytmmfndmfibbhcaa
