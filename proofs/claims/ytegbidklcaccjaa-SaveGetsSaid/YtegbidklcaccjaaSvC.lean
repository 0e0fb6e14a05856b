/- Package save: the reader's numbers. -/
import Derived.Test.YtegbidklcaccjaaSvB
namespace Go.Proofs.Ytegbidklcaccjaa
open Go.RowKit
open R (In64 InU64 lo64 nth)
namespace R
section
open Go.ChangeShapes Go.WideShapes Go.ChangeAt
variable {P : Program} {n : Nat} {Q : Exit → Fr → World → Prop} {f : Fr} {w : World} {F : List Nat} {W : World} {L : List Res} {r1 r2 r3 : Res} {id : Nat} {l : List Oper}
/-- A drawing region where the two things in front are changed before all is loaded. -/
theorem WC_planXD2 (pl : List (Nat × Bool)) (hm : P.follows .mixedOrders = true) (hB : planXOk l.toArray pl = true) (hM : Own F W w (r1 :: r2 :: L))
    (h : ∀ w1, Own F W w1 (r1 :: r2 :: L) → WX P l.toArray n (fun w2 => Own F W w2 L) (fun w2 => Own F W w2 L) (fun f' w' => Q .normal f' w') pl f w1) : WC P n Q (.region id l.toArray true) f w := by
  unfold WC
  intro a ha
  simp only [planXOk, Bool.and_eq_true, beq_iff_eq] at hB
  have h1 := h _ hM.drew a _ ha hB.1.2 hB.2 fun _ _ _ => .inl hM.drew.tl.tl
  rw [hB.1.1] at h1
  refine wp_mono (wp_region_any (id := id) (Q := planQ n fun f' w' => Q .normal f' w') hm (wpAnyX_any _ _ _ _ h1)) fun e a' w' he => ?_
  obtain ⟨rfl, f', ha', hq⟩ := he
  exact ⟨f', ha', hq⟩
end
end R
/-- A reader's bytes, given ones. -/
def Rdr (F : List Nat) (W : World) (A : Option Addr) (n c : Nat) (s : Rds) : Prop := R.Inp F W A n 1 (s.1.flatMap R.cY) ∧ n = s.1.length ∧ n ≤ c ∧ c ≤ 9223372036854775807 ∧ byte s.1
section
variable {F : List Nat} {W w : World} {l : List R.Res} {g : Nat} {A : Option Addr} {n c : Nat} {s : Rds} {lo hi : Int}
set_option maxHeartbeats 1000000 in
theorem num_own (hR : Rdr F W A n c s) (_hlo : In64 lo) (_hhi : In64 hi) (hM : R.Own F W w (.blk g 101 [.slice A n c, .bool s.2] :: l)) :
    Calls Try.prog 58 #[.pointer (some ⟨g, 0, none⟩), .int .i64 lo, .int .i64 hi] w fun e w' => e = .returned (.int .i64 (rN lo hi s).1) ∧ ∃ A' n' c', Rdr F W A' n' c' (rN lo hi s).2 ∧ R.Own F W w' (.blk g 101 [.slice A' n' c', .bool (rN lo hi s).2.2] :: l) := by
  obtain ⟨L, bad⟩ := s
  obtain ⟨hA, hn, hnc, hc, hb⟩ := hR
  dsimp only at hA hn hM hb ⊢
  refine R.calls_of_WC (fn := Try.f58) Try.func58 rfl Try.ntmps58 (Nat.le_of_ble_eq_true rfl) ?_
  (refine R.stepH ?_; (repeat' (first | (with_reducible refine And.intro ?_ ?_) | (with_reducible intro _))); all_goals refine R.Lft.mk ?_)
  refine R.WO_call1 rfl rfl R.vv ?_
  refine (read_any A n c L _ (R.Own.inpIn R.ohm hA) hn (by omega) hnc hb).mono ?_
  rintro _ w3 ⟨rfl, hb3⟩
  have hM := R.Own.call R.ohm hb3
  refine ⟨_, rfl, ?_⟩
  cases ho : rdF L 0 0 with
  | none =>
    have e : rN lo hi (L, bad) = (0, (L, true)) := by unfold rN; rw [ho]
    rw [e]
    simp only [okE, rdN, rdU, Option.isSome]
    cases bad <;> (refine R.stepH ?_; (repeat' (first | (with_reducible refine And.intro ?_ ?_) | (with_reducible intro _))); all_goals refine R.Lft.mk ?_)
    all_goals exact ⟨rfl, A, n, c, ⟨hA, hn, hnc, hc, hb⟩, R.ohm⟩
  | some x =>
    have hx := rd_put hb ho
    have hle := rdF_le _ _ _ _ ho
    obtain ⟨v, u⟩ := x
    dsimp only at hx hle
    by_cases hbad : bad = true ∨ v < lo ∨ hi < v
    · have e : rN lo hi (L, bad) = (0, (L, true)) := by unfold rN; rw [ho]; exact if_pos hbad
      rw [e]
      simp only [okE, rdN, rdU, Option.isSome]
      cases bad
      · by_cases h1 : v < lo
        · (refine R.stepH ?_; (repeat' (first | (with_reducible refine And.intro ?_ ?_) | (with_reducible intro _))); all_goals refine R.Lft.mk ?_)
          exact ⟨rfl, A, n, c, ⟨hA, hn, hnc, hc, hb⟩, R.ohm⟩
        · have h2 : hi < v := by rcases hbad with h | h | h; cases h; exact absurd h h1; exact h
          (refine R.stepH ?_; (repeat' (first | (with_reducible refine And.intro ?_ ?_) | (with_reducible intro _))); all_goals refine R.Lft.mk ?_)
          exact ⟨rfl, A, n, c, ⟨hA, hn, hnc, hc, hb⟩, R.ohm⟩
      · (refine R.stepH ?_; (repeat' (first | (with_reducible refine And.intro ?_ ?_) | (with_reducible intro _))); all_goals refine R.Lft.mk ?_)
        exact ⟨rfl, A, n, c, ⟨hA, hn, hnc, hc, hb⟩, R.ohm⟩
    · have e : rN lo hi (L, bad) = (v, (L.drop u, false)) := by unfold rN; rw [ho]; exact if_neg hbad
      rw [e]
      simp only [okE, rdN, rdU, Option.isSome]
      obtain rfl : bad = false := by cases bad; rfl; exact absurd (.inl rfl) hbad
      have h1 : ¬ v < lo := fun h => hbad (.inr (.inl h))
      have h2 : ¬ hi < v := fun h => hbad (.inr (.inr h))
      (refine R.stepH ?_; (repeat' (first | (with_reducible refine And.intro ?_ ?_) | (with_reducible intro _))); all_goals refine R.Lft.mk ?_)
      have hI := R.Inp.cutA hA (lo := u) (by omega) hnc
      rw [R.flat_dropN (sz := 1) (fun _ => rfl)] at hI
      exact ⟨rfl, R.cutA A c u 1, n - u, c - u, ⟨hI, by dsimp only; rw [List.length_drop, hn], by omega, by omega, byte_drop hb u⟩, R.ohm⟩
theorem any_own (hR : Rdr F W A n c s) (hM : R.Own F W w (.blk g 101 [.slice A n c, .bool s.2] :: l)) :
    Calls Try.prog 60 #[.pointer (some ⟨g, 0, none⟩)] w fun e w' => e = .returned (.int .i64 (rAny s).1) ∧ ∃ A' n' c', Rdr F W A' n' c' (rAny s).2 ∧ R.Own F W w' (.blk g 101 [.slice A' n' c', .bool (rAny s).2.2] :: l) := by
  refine R.calls_of_WC (fn := Try.f60) Try.func60 rfl Try.ntmps60 (Nat.le_of_ble_eq_true rfl) ?_
  (refine R.stepH ?_; (repeat' (first | (with_reducible refine And.intro ?_ ?_) | (with_reducible intro _))); all_goals refine R.Lft.mk ?_)
  refine R.WO_call3 rfl rfl R.vv R.vv R.vv ?_
  refine (num_own hR (by unfold In64; omega) (by unfold In64; omega) R.ohm).mono ?_
  rintro _ w3 ⟨rfl, A2, n2, c2, hR2, hM⟩
  refine ⟨_, rfl, ?_⟩
  (refine R.stepH ?_; (repeat' (first | (with_reducible refine And.intro ?_ ?_) | (with_reducible intro _))); all_goals refine R.Lft.mk ?_)
  exact ⟨rfl, A2, n2, c2, hR2, R.ohm⟩
end
end Go.Proofs.Ytegbidklcaccjaa
