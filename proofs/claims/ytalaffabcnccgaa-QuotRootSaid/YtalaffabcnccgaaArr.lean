/- Arrays of whole numbers are compared, and built. -/
import Derived.Test.YtalaffabcnccgaaMem
import Derived.Laws.StructEq
import Derived.Laws.Tables
namespace Go.Proofs.Ytalaffabcnccgaa.R
open Go.RowKit

section
variable {P : Program}
theorem run_eqArr {t e : TypeId} {m : Nat} {k k' : IntKind} (ht : P.underlying t = some (.array m e)) (he : P.underlying e = some (.int k')) (hs : szT P e = some 1) (hk : kindT P e = some false) (d : Nat) (w : World) (a b : List Int) (ha : a.length = m) (hb : b.length = m) :
    (Op.equalIn (d + 2) t (.agg (a.map (.int k)).toArray) (.agg (b.map (.int k)).toArray)).run P w = .ok (decide (a = b)) w := by
  rw [Op.equalIn]
  simp only [Sem.run_bind, run_underlying ht, Result.andThen_ok, run_sz hs]
  simp only [Std.Legacy.Range.forIn_eq_forIn_range', Std.Legacy.Range.size, Nat.sub_zero, Nat.add_sub_cancel, Nat.div_one]
  have key : ∀ (r s : Nat), s + r = m → a.take s = b.take s → 
    (Sem.run P (forIn (List.range' s r 1) (none, PUnit.unit) fun i __s => do
            let x ← part e (List.map (Value.int k) a).toArray (i * 1)
            let y ← part e (List.map (Value.int k) b).toArray (i * 1)
            let c ← Op.equalIn (d + 1) e x y
            if (!c) = true then pure (ForInStep.done (some false, PUnit.unit)) else pure (ForInStep.yield (none, PUnit.unit))) w) = .ok (if a = b then none else some false, PUnit.unit) w := by
    intro r
    induction r with
    | zero =>
      intro s hs' ht'
      obtain rfl : s = m := by omega
      have hab : a = b := by rw [← List.take_length (l := a), ← List.take_length (l := b), ha, hb]; exact ht'
      simp [hab]
    | succ r ih =>
      intro s hs' ht'
      have h1 : s < a.length := by omega
      have h2 : s < b.length := by omega
      have p1 : (part e (a.map (Value.int k)).toArray (s * 1)).run P w = .ok (.int k a[s]) w := by simp [part, run_kind hk, h1]
      have p2 : (part e (b.map (Value.int k)).toArray (s * 1)).run P w = .ok (.int k b[s]) w := by simp [part, run_kind hk, h2]
      simp only [List.range'_succ, List.forIn_cons, Sem.run_bind, p1, p2, Result.andThen_ok, run_equalIn_int w d e k k' _ _ he]
      by_cases hx : a[s] = b[s]
      · have hb1 : (!(a[s] == b[s])) = false := by simp [hx]
        simp only [hb1, Bool.false_eq_true, if_false, Sem.run_pure, Result.andThen_ok]
        refine ih (s + 1) (by omega) ?_
        rw [List.take_succ_eq_append_getElem h1, List.take_succ_eq_append_getElem h2, ht', hx]
      · have hb1 : (!(a[s] == b[s])) = true := by simp [hx]
        simp only [hb1, if_true, Sem.run_pure, Result.andThen_ok]
        rw [if_neg (fun hab => hx (by subst hab; rfl))]
  have h0 := key m 0 (by omega) rfl
  rw [h0]
  by_cases hab : a = b
  · simp [hab]
  · simp [hab]
variable {C : CallH} {o : Oper} {f : Fr} {w : World} {K : Value → World → Prop}
theorem WO_eqlArr {t u e : TypeId} {x y : Operand} {m : Nat} {k k' : IntKind} {a b : List Int} (hop : o.op = .binOp .eql t x y u) (hx : ev f x = .agg (a.map (.int k)).toArray) (hy : ev f y = .agg (b.map (.int k)).toArray) [ht : ArrT P t m e 1] (he : P.underlying e = some (.int k')) (hk : kindT P e = some false) (hm : P.eqGuardType P.depth t = false) (ha : a.length = m) (hb : b.length = m)
    (h : K (.bool (decide (a = b))) w) : WO P C o f w K := by
  refine WO_val ?_ h
  have h1 := run_eqArr (k := k) ht.h he ht.s hk 9998 w a b ha hb
  simp only [execOp, hop, hx, hy, Sem.run_bind, run_eqGuard_agg w .eql t x y _ _ hm, Result.andThen_ok, run_eql_struct, h1]
  simp
theorem WO_neqArr {t u e : TypeId} {x y : Operand} {m : Nat} {k k' : IntKind} {a b : List Int} (hop : o.op = .binOp .neq t x y u) (hx : ev f x = .agg (a.map (.int k)).toArray) (hy : ev f y = .agg (b.map (.int k)).toArray) [ht : ArrT P t m e 1] (he : P.underlying e = some (.int k')) (hk : kindT P e = some false) (hm : P.eqGuardType P.depth t = false) (ha : a.length = m) (hb : b.length = m)
    (h : K (.bool (!decide (a = b))) w) : WO P C o f w K := by
  refine WO_val ?_ h
  have h1 := run_eqArr (k := k) ht.h he ht.s hk 9998 w a b ha hb
  simp only [execOp, hop, hx, hy, Sem.run_bind, run_eqGuard_agg w .neq t x y _ _ hm, Result.andThen_ok, run_neq_struct, h1]
  simp
/-- A value is built of parts. -/
theorem WO_build {t : TypeId} {parts : Array (Nat × Operand)} {cells : Array Value} (hop : o.op = .build t parts) (hc : P.built t (parts.map fun (i, x) => (i, ev f x)).toList = some cells) (h : K (.agg cells) w) : WO P C o f w K :=
  WO_val (by simp only [execOp, hop, Sem.run_bind, run_build w t _ cells hc, Result.andThen_ok]; simp) h
/-- A place of an array that is a value. -/
theorem WO_idxI {t e : TypeId} {x i : Operand} {cs : List Value} {m sz : Nat} {k k' : IntKind} {j n : Int} (hop : o.op = .index t x i) [ht : ArrT P t m e sz] (hs : sz = 1) (hk : kindT P e = some false) (hx : ev f x = .agg cs.toArray) (hi : ev f i = .int k j) (h0 : 0 ≤ j) (h1 : j < m) (hv : cs[j.toNat]? = some (.int k' n))
    (h : K (.int k' n) w) : WO P C o f w K := by
  refine WO_val ?_ h
  subst hs
  simp [execOp, hop, hx, hi, Instr.index, asIntOf, run_underlying ht.h, h0, h1, run_sz ht.s, part, run_kind hk, hv]
end
end Go.Proofs.Ytalaffabcnccgaa.R
