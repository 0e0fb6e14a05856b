/- Slices cut, copied over, appended to in place. -/
import Derived.Test.YtmoppmfbfpjdnaaGreatOwn3
import Derived.Lib.AppendZerosOnto
namespace Go.Proofs.YtmoppmfbfpjdnaaGreat.R
open Go.RowKit

section
variable {w : World} {A : Option Addr} {n c sz lo : Nat} {cs : List Value} {F : List Nat} {W : World}
/-- Where a slice lies that is cut from 'lo' on. -/
def cutA (A : Option Addr) (m lo sz : Nat) : Option Addr := if m = lo then A else A.map (·.add (lo * sz))
theorem Rd.cutA (h : Rd w A n sz cs) (hlo : lo ≤ n) {m : Nat} (hm : n ≤ m) : Rd w (R.cutA A m lo sz) (n - lo) sz (cs.drop (lo * sz)) := by
  refine ⟨by rw [List.length_drop, h.1, Nat.sub_mul], fun j v hj => ?_⟩
  have hlt : j < (cs.drop (lo * sz)).length := (List.getElem?_eq_some_iff.1 hj).1
  rw [List.length_drop, h.1] at hlt
  have hne : m ≠ lo := fun e => by
    have : n = lo := by omega
    subst this
    omega
  rw [List.getElem?_drop] at hj
  obtain ⟨a, hA, hc⟩ := h.2 _ v hj
  refine ⟨a.add (lo * sz), by simp [R.cutA, hne, hA], ?_⟩
  rw [add_twice]
  exact hc
theorem Inp.cutA (h : Inp F W A n sz cs) (hlo : lo ≤ n) {m : Nat} (hm : n ≤ m) : Inp F W (R.cutA A m lo sz) (n - lo) sz (cs.drop (lo * sz)) := by
  refine ⟨by rw [List.length_drop, h.1, Nat.sub_mul], fun j v hj => ?_⟩
  have hlt : j < (cs.drop (lo * sz)).length := (List.getElem?_eq_some_iff.1 hj).1
  rw [List.length_drop, h.1] at hlt
  have hne : m ≠ lo := fun e => by
    have : n = lo := by omega
    subst this
    omega
  rw [List.getElem?_drop] at hj
  obtain ⟨a, hA, h1, h2, hc⟩ := h.2 _ v hj
  refine ⟨a.add (lo * sz), by simp [R.cutA, hne, hA], by rw [add_block]; exact h1, by rw [add_block]; exact h2, ?_⟩
  rw [add_twice]
  exact hc
end
section
variable {P : Program} {C : CallH} {o : Oper} {f : Fr} {F : List Nat} {W w : World} {K : Value → World → Prop} {l l' : List Res} {g : Nat} {t u e : TypeId} {x y i1 i2 i3 : Operand} {A A' : Option Addr} {n c sz m : Nat} {k k2 k3 : IntKind} {lo hi mx : Int} {jl jh jm : Nat}
theorem elemT (ht : P.underlying t = some (.slice e)) : P.elem t = e := by unfold Program.elem; rw [ht]
theorem WO_slcL (hop : o.op = .slice t x (some i1) none none) [ht : SliceT P t e sz] (hx : ev f x = .slice A n c) (h1 : ev f i1 = .int k lo) (h0 : 0 ≤ lo) (hl : lo ≤ n) [hj : ToN lo jl] (hk : K (.slice (cutA A c jl sz) (n - jl) (c - jl)) w) : WO P C o f w K := by
  have hr := run_slice_l (P := P) w t A n c (by rw [elemT ht.h]; exact ht.h) k lo h0 hl
  rw [elemT ht.h, run_sz ht.s] at hr
  have e2 := hj.h
  subst e2
  refine WO_val ?_ hk
  simp [execOp, hop, hx, h1, Instr.sliceAt, run_underlying ht.h, hr, Result.andThen, sliced, cutA]
theorem WO_slcH (hop : o.op = .slice t x none (some i1) none) [ht : SliceT P t e sz] (hx : ev f x = .slice A n c) (h1 : ev f i1 = .int k hi) (h0 : 0 ≤ hi) (hl : hi ≤ c) [hj : ToN hi jl] (hk : K (.slice A jl c) w) : WO P C o f w K := by
  have hr := run_slice_h (P := P) w t A n c (by rw [elemT ht.h]; exact ht.h) k hi h0 hl
  rw [elemT ht.h, run_sz ht.s] at hr
  have e2 := hj.h
  subst e2
  refine WO_val ?_ hk
  have hA : (if c = 0 then A else A.map fun x => x.add 0) = A := by
    split
    · rfl
    · cases A with
      | none => rfl
      | some a => simp [Addr.add]
  simp [execOp, hop, hx, h1, Instr.sliceAt, run_underlying ht.h, hr, Result.andThen, sliced, hA]
theorem WO_slcM (hop : o.op = .slice t x (some i1) (some i2) (some i3)) [ht : SliceT P t e sz] (hx : ev f x = .slice A n c) (h1 : ev f i1 = .int k lo) (h2 : ev f i2 = .int k2 hi) (h3 : ev f i3 = .int k3 mx) (h0 : 0 ≤ lo) (hl : lo ≤ hi) (hm : hi ≤ mx) (hc : mx ≤ c) [hj : ToN lo jl] [hj2 : ToN hi jh] [hj3 : ToN mx jm]
    (hk : K (.slice (cutA A jm jl sz) (jh - jl) (jm - jl)) w) : WO P C o f w K := by
  have hr := run_slice_lhm (P := P) w t A n c (by rw [elemT ht.h]; exact ht.h) k k2 k3 lo hi mx h0 hl hm hc
  rw [elemT ht.h, run_sz ht.s] at hr
  have e2 := hj.h
  have e3 := hj2.h
  have e4 := hj3.h
  subst e2 e3 e4
  refine WO_val ?_ hk
  simp [execOp, hop, hx, h1, h2, h3, Instr.sliceAt, run_underlying ht.h, hr, Result.andThen, sliced, cutA]
theorem WO_cap (hop : o.op = .call { callee := .builtin .cap, args := #[x], argTypes := #[t] }) [ht : SliceT P t e sz] (hx : ev f x = .slice A n c) (hk : K (.int .i64 c) w) : WO P C o f w K := by
  refine WO_val ?_ hk
  have hr := run_cap_slice (P := P) w t o.type A n c (by rw [elemT ht.h]; exact ht.h)
  simp [execOp, hop, hx, resolve, invoke, builtin, hr]
  rfl
theorem WO_eqlS0 (hop : o.op = .binOp .eql t x y u) [ht : SliceT P t e sz] (hx : ev f x = .slice A n c) (hy : ev f y = .slice none 0 0) (hk : K (.bool A.isNone) w) : WO P C o f w K := by
  refine WO_val (v := .bool A.isNone) ?_ hk
  have h1 : (binOp .eql t (.slice A n c) (.slice none 0 0)).run P w = .ok (.bool A.isNone) w := by
    simp only [binOp, Op.equal, Op.maxDepth]
    rw [show (10000 : Nat) = 9999 + 1 from rfl, Op.equalIn]
    cases A <;> simp [run_underlying ht.h]
  simp only [execOp, hop, hx, hy, Sem.run_bind, eqGuard_at_slice, Sem.run_pure, Result.andThen_ok, h1]
theorem WO_shr_u1 {t' : TypeId} {k' : IntKind} {a : Int} (hop : o.op = .binOp .shr t x y t') (hx : ev f x = .int .u64 a) (hy : ev f y = .int k' 1) (hk : K (.int .u64 (a / 2)) w) : WO P C o f w K :=
  WO_shr_u hop hx hy (by omega) (by omega) hk
end
end Go.Proofs.YtmoppmfbfpjdnaaGreat.R
