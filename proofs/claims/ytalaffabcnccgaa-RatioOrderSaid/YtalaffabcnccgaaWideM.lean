/- Numbers of eight words in the blocks that a call has laid. -/
import Derived.Test.YtalaffabcnccgaaWide4
import Derived.Test.YtalaffabcnccgaaHold
namespace Go.Proofs.Ytalaffabcnccgaa
open Go.RowKit
open R (In64 InU64 lo64)

theorem wsmall {n : Nat} (h : n < 18446744073709551616) : n < W512 := Nat.lt_of_lt_of_le (by rw [wsz1]; exact h) (wsz_le (k := 1) (m := 8) (by omega))
theorem wof_call (i : Int) (h : InU64 i) (w : World) : Calls Try.prog 45 #[.int .u64 i] w fun e w' => ∃ n, n = i.toNat ∧ e = .returned (.agg (wcs n).toArray) ∧ Below w.heap.size w w' := by
  unfold InU64 at h
  have := wof_any i.toNat (by omega) w
  rw [Int.toNat_of_nonneg h.1] at this
  exact this.mono fun _ _ h => ⟨_, rfl, h⟩
theorem WO_allocW {C : R.CallH} {o : Oper} {f : R.Fr} {W w : World} {K : Value → World → Prop} {l : List R.Blk} (hop : o.op = .alloc 43) (hM : R.Hold W w l) (hk : ∀ w', R.Hold W w' ((w.heap.size, 43, wcs 0) :: l) → K (.pointer (some ⟨w.heap.size, 0, none⟩)) w') : R.WO Try.prog C o f w K :=
  R.WO_allocM hop hM (by rw [wcs_zero] at hk; exact hk)
theorem wtwo {n : Nat} (h : n < 340282366920938463463374607431768211456) : n < W512 := Nat.lt_of_lt_of_le (by rw [wsz2]; exact h) (wsz_le (k := 2) (m := 8) (by omega))
section
variable {C : R.CallH} {o : Oper} {f : R.Fr} {w : World} {K : Value → World → Prop} {u : TypeId} {x y i : Operand} {m n : Nat}
theorem WO_buildW0g (hop : o.op = .build 43 #[]) (h : ∀ n, n = 0 → K (.agg (wcs n).toArray) w) : R.WO Try.prog C o f w K := WO_buildW0 hop (h _ rfl)
theorem WO_buildW1g {a : Int} (hop : o.op = .build 43 #[(0, x)]) (hx : R.ev f x = .int .u64 a) (ha : InU64 a) (h : ∀ n, n = a.toNat → K (.agg (wcs n).toArray) w) : R.WO Try.prog C o f w K := WO_buildW1 hop hx ha (h _ rfl)
theorem WO_buildW2g {a b : Int} (hop : o.op = .build 43 #[(0, x), (1, y)]) (hx : R.ev f x = .int .u64 a) (hy : R.ev f y = .int .u64 b) (ha : InU64 a) (hb : InU64 b) (h : ∀ n, n = a.toNat + b.toNat * 18446744073709551616 → K (.agg (wcs n).toArray) w) : R.WO Try.prog C o f w K := WO_buildW2 hop hx hy ha hb (h _ rfl)
theorem WO_eqlWt (hop : o.op = .binOp .eql 43 x y u) (hx : R.ev f x = .agg (wcs m).toArray) (hy : R.ev f y = .agg (wcs n).toArray) (hm : m < W512) (hn : n < W512) (he : m = n) (h : K (.bool true) w) : R.WO Try.prog C o f w K :=
  WO_eqlW hop hx hy hm hn (by rw [decide_eq_true he]; exact h)
end
end Go.Proofs.Ytalaffabcnccgaa
