/- Package weigh, and snicketref14. -/
import Derived.Test.YtoainfnhmdcpoaaRd
import Derived.Test.YtoainfnhmdcpoaaCl
namespace Go.Proofs.Ytoainfnhmdcpoaa
open Go.ChangeShapes Go.WideShapes Go.ChangeAt Go.RowKit
open R (In64 InU64 lo64 nth)

structure P2 where
  a : Int
  b : Int
  deriving DecidableEq, Inhabited
def cP2 (x : P2) : List Value := [.int .i64 x.a, .int .i64 x.b]
instance encc_P2 : R.EncC cP2 2 := ⟨fun _ => rfl, by simp [cP2, Value.oneCell'], by decide⟩
instance enct_P2 : R.EncT Try.prog 30 P2 cP2 2 := {}
instance iss_P2 (a b : Int) : R.Iss cP2 [.int .i64 a, .int .i64 b] [⟨a, b⟩] := ⟨rfl⟩
def GP2 (_ : World) (x : P2) : Prop := In64 x.a ∧ In64 x.b
instance opn_P2 : R.Opn Try.prog 30 P2 cP2 GP2 := ⟨fun {H eh W base sp held fuel cs x} hx => by
  have hu : Try.prog.underlying 30 = some (.array 2 3) := by kernel_rfl
  have hi : Try.prog.underlying 3 = some (.int .i64) := by kernel_rfl
  have hc : Try.prog.cellsOf 3 = 1 := by kernel_rfl
  obtain ⟨m, hl, h⟩ := trod_arr hu hx
  rw [show Try.prog.cellsOf 30 = 2 by kernel_rfl] at hl
  rw [hc] at h
  obtain ⟨v0, v1, rfl⟩ : ∃ v0 v1, cs = [v0, v1] := by
    match cs, hl with
    | [v0, v1], _ => exact ⟨v0, v1, rfl⟩
  obtain ⟨y0, k0⟩ := h 0 (by decide)
  obtain ⟨y1, k1⟩ := h 1 (by decide)
  obtain ⟨n0, e0, _, g0⟩ := DataW.trod_int hi k0
  obtain ⟨n1, e1, _, g1⟩ := DataW.trod_int hi k1
  have b0 := bounds_i64 g0
  have b1 := bounds_i64 g1
  simp at e0 e1
  exact ⟨⟨n0, n1⟩, by rw [e0, e1]; rfl, by unfold GP2; dsimp only; unfold In64; omega⟩⟩
instance opn_P2s : R.Opn Try.prog 22 (R.Sl P2) R.cSl (R.GSl cP2 2 GP2) := R.opn_slice (e := 30) (by kernel_rfl) (by kernel_rfl)

/-- May a weight be; may a cut's parts be; does a cut lie ahead of the one that it stands behind? -/
def okW (w : Int) : Bool := decide (0 ≤ w) && decide (w ≤ 2147483648)
def okP (p : P2) : Bool := decide (1 ≤ p.b) && (decide (0 ≤ p.a) && decide (p.a ≤ p.b))
def fallsB (a b : P2) : Bool := decide (b.a * a.b < a.a * b.b)
instance con_within14 (v : Int) : R.ConB Try.prog 88 #[.int .i64 v] Unit (fun _ _ => True) (fun _ => .bool (okW v)) := ⟨fun _ w _ => by
  refine R.calls_of_WC (fn := Try.f88) Try.func88 rfl Try.ntmps88 (Nat.le_of_ble_eq_true rfl) ?_
  (refine R.stepV ?_; (repeat' (first | (with_reducible refine And.intro ?_ ?_) | (with_reducible intro _))); all_goals refine R.Lft.mk ?_)
  all_goals simp [okW, *, Below.refl]⟩
instance con_part14 (p : P2) : R.ConB Try.prog 90 #[.agg (cP2 p).toArray] Unit (fun _ _ => True) (fun _ => .bool (okP p)) := ⟨fun _ w _ => by
  have hM := R.Own.start [] w
  refine R.calls_of_WC (fn := Try.f90) Try.func90 rfl Try.ntmps90 (Nat.le_of_ble_eq_true rfl) ?_
  (refine R.stepV ?_; (repeat' (first | (with_reducible refine And.intro ?_ ?_) | (with_reducible intro _))); all_goals refine R.Lft.mk ?_)
  all_goals
    refine ⟨?_, R.Own.below (by assumption)⟩
    simp [okP, *]⟩
instance con_one14 (p : P2) : R.ConB Try.prog 19 #[.agg (cP2 p).toArray] Unit (fun _ _ => True) (fun _ => .bool (okP p)) := ⟨fun _ w _ => by
  have hM := R.Own.start [] w
  refine R.calls_of_WC (fn := Try.f19) Try.func19 rfl Try.ntmps19 (Nat.le_of_ble_eq_true rfl) ?_
  (refine R.stepV ?_; (repeat' (first | (with_reducible refine And.intro ?_ ?_) | (with_reducible intro _))); all_goals refine R.Lft.mk ?_)
  all_goals
    refine ⟨?_, R.Own.below (by assumption)⟩
    simp [okP, *]⟩
theorem hi_in (a b : Int) (ha : InU64 a) (hb : InU64 b) : InU64 (hi64 (a * b)) ∧ InU64 (lo64 (a * b)) := by
  unfold InU64 hi64 lo64 at *
  have h1 : 0 ≤ a * b := Int.mul_nonneg ha.1 hb.1
  have h2 : a * b ≤ 18446744073709551615 * 18446744073709551615 := Int.mul_le_mul (by omega) (by omega) hb.1 (by omega)
  omega
theorem falls_lo {x y : Int} : (hi64 y < hi64 x ∨ hi64 y = hi64 x ∧ lo64 y < lo64 x) ↔ y < x := by
  unfold hi64 lo64
  omega
theorem okP_of {p : P2} (h : okP p = true) : 1 ≤ p.b ∧ 0 ≤ p.a ∧ p.a ≤ p.b := by
  unfold okP at h
  rw [Bool.and_eq_true, Bool.and_eq_true] at h
  exact ⟨of_decide_eq_true h.1, of_decide_eq_true h.2.1, of_decide_eq_true h.2.2⟩
instance con_falls14 (a b : P2) : R.ConB Try.prog 155 #[.agg (cP2 a).toArray, .agg (cP2 b).toArray] Unit (fun _ _ => okP a = true ∧ okP b = true ∧ In64 a.b ∧ In64 b.b) (fun _ => .bool (fallsB a b)) := ⟨fun _ w ⟨h1, h2, h3, h4⟩ => by
  have hM := R.Own.start [] w
  have g1 := okP_of h1
  have g2 := okP_of h2
  unfold In64 at h3 h4
  have u1 : InU64 (hi64 (a.a * b.b)) ∧ InU64 (lo64 (a.a * b.b)) := hi_in _ _ (by unfold InU64; omega) (by unfold InU64; omega)
  have u2 : InU64 (hi64 (b.a * a.b)) ∧ InU64 (lo64 (b.a * a.b)) := hi_in _ _ (by unfold InU64; omega) (by unfold InU64; omega)
  have hf := falls_lo (x := a.a * b.b) (y := b.a * a.b)
  refine R.calls_of_WC (fn := Try.f155) Try.func155 rfl Try.ntmps155 (Nat.le_of_ble_eq_true rfl) ?_
  (refine R.stepV ?_; (repeat' (first | (with_reducible refine And.intro ?_ ?_) | (with_reducible intro _))); all_goals refine R.Lft.mk ?_)
  · rename_i h
    rw [show fallsB a b = true from decide_eq_true (hf.1 (.inl h))]
    exact ⟨rfl, R.Own.below (by assumption)⟩
  · rename_i hn he
    rw [show fallsB a b = decide (lo64 (b.a * a.b) < lo64 (a.a * b.b)) from decide_eq_decide.2 ⟨fun h => ((hf.2 h).resolve_left hn).2, fun h => hf.1 (.inr ⟨he, h⟩)⟩]
    exact ⟨rfl, R.Own.below (by assumption)⟩
  · rename_i hn he
    rw [show fallsB a b = false from decide_eq_false fun h => (hf.2 h).elim hn fun g => he g.1]
    exact ⟨rfl, R.Own.below (by assumption)⟩⟩
theorem built_p2 (a b : Int) : Try.prog.built 30 [(0, .int .i64 a), (1, .int .i64 b)] = some #[.int .i64 a, .int .i64 b] := by kernel_rfl
theorem WO_bdP2 {C : R.CallH} {o : Oper} {f : R.Fr} {w : World} {K : Value → World → Prop} {x y : Operand} {a b : Int} (hop : o.op = .build 30 #[(0, x), (1, y)]) (hx : R.ev f x = .int .i64 a) (hy : R.ev f y = .int .i64 b) (h : K (.agg (cP2 ⟨a, b⟩).toArray) w) : R.WO Try.prog C o f w K := by
  refine R.WO_build hop (cells := #[.int .i64 a, .int .i64 b]) ?_ h
  rw [← built_p2]
  simp [hx, hy]
theorem okP_bad {n d : Int} : okP ⟨n, d⟩ = !decide (n < 0 ∨ d < 1 ∨ d < n) := by
  unfold okP
  by_cases h : n < 0 ∨ d < 1 ∨ d < n
  · rw [decide_eq_true h]
    rcases h with h | h | h
    · rw [decide_eq_false (show ¬ 0 ≤ (⟨n, d⟩ : P2).a by show ¬ 0 ≤ n; omega)]; simp
    · rw [decide_eq_false (show ¬ 1 ≤ (⟨n, d⟩ : P2).b by show ¬ 1 ≤ d; omega)]; simp
    · rw [decide_eq_false (show ¬ (⟨n, d⟩ : P2).a ≤ (⟨n, d⟩ : P2).b by show ¬ n ≤ d; omega)]; simp
  · rw [decide_eq_false h, decide_eq_true (show 1 ≤ (⟨n, d⟩ : P2).b by show 1 ≤ d; omega), decide_eq_true (show 0 ≤ (⟨n, d⟩ : P2).a by show 0 ≤ n; omega), decide_eq_true (show (⟨n, d⟩ : P2).a ≤ (⟨n, d⟩ : P2).b by show n ≤ d; omega)]
    rfl
theorem okP_f {v n d : Int} (h : (!okP ⟨n, d⟩) = true) : badP v n d := by
  rw [okP_bad] at h
  simp at h
  unfold badP
  omega
instance con_upto14 (v n d : Int) : R.ConB Try.prog 18 #[.int .i64 v, .int .i64 n, .int .i64 d] Unit (fun _ _ => In64 v ∧ In64 n ∧ In64 d) (fun _ => .tuple #[.int .i64 (if okW v then partQ v n d else 0), .int .i64 (if okW v then partE v n d else 10)]) := ⟨fun _ w ⟨h1, h2, h3⟩ => by
  have hM := R.Own.start [] w
  refine R.calls_of_WC (fn := Try.f18) Try.func18 rfl Try.ntmps18 (Nat.le_of_ble_eq_true rfl) ?_
  (refine R.stepV ?_; (repeat' (first | (with_reducible refine And.intro ?_ ?_) | (with_reducible intro _))); all_goals refine R.Lft.mk ?_)
  · rename_i h
    rw [show okW v = false by simpa using h]
    exact ⟨rfl, R.Own.below (by assumption)⟩
  rename_i h
  refine WO_bdP2 rfl rfl rfl ?_
  have ho : okW v = true := by simpa using h
  rw [ho]
  (refine R.stepV ?_; (repeat' (first | (with_reducible refine And.intro ?_ ?_) | (with_reducible intro _))); all_goals refine R.Lft.mk ?_)
  · rename_i h
    unfold partQ partE
    rw [if_pos (okP_f h), if_pos (okP_f h)]
    exact ⟨rfl, R.Own.below (by assumption)⟩
  · exact ⟨rfl, R.Own.below (by assumption)⟩⟩
end Go.Proofs.Ytoainfnhmdcpoaa
