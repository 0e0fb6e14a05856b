/- The law DijkClosed: what it copies and lays. -/
import Derived.Test.YtegbidklcaccjaaDl
import Derived.Laws.IdiomCopy
namespace Go.Proofs.Ytegbidklcaccjaa
open Go.ChangeShapes Go.WideShapes Go.ChangeAt Go.RowKit
open R (In64 InU64 lo64 nth)
section
open R
variable {P : Program} {C : R.CallH} {o : Oper} {f : R.Fr} {w : World} {K : Value → World → Prop} {t t' e : TypeId} {x y : Operand} {n c c1 : Nat} {A A1 : Option Addr} {F : List Nat} {W : World} {l l' : List Res} {cs ds : List Value}
theorem WO_cpD (hop : o.op = .call { callee := .builtin .copy, args := #[x, y], argTypes := #[t, t'] }) [hS : SliceT P t e 1] (hx : ev f x = .slice A1 n c1) (hy : ev f y = .slice A n c) (hM : Own F W w l) (hu : Upd l (.row A1 n c1 e 1 cs) (.row A1 n c1 e 1 ds) l')
    (hr : Rd w A n 1 ds) (h1 : ∀ v ∈ ds, v.oneCell' = true) (hk : ∀ w', Own F W w' l' → K (.int .i64 (n : Nat)) w') : WO P C o f w K := by
  have hrow : w.ownsRow 0 e 1 (.slice A1 n c1) n cs := hM.ok _ hu.old
  have hsz : (P.info? e).map (·.size) = some 1 := by
    have := hS.s
    unfold szT at this
    exact this
  have hl : ds.length = n := by rw [hr.1, Nat.mul_one]
  rcases Nat.eq_zero_or_pos n with h0 | h0
  · have hds : ds = [] := List.eq_nil_of_length_eq_zero (by omega)
    have hcs : cs = [] := List.eq_nil_of_length_eq_zero (by rw [hrow.1, h0, Nat.zero_mul])
    subst hds hcs h0
    refine WO_eff (v := .int .i64 0) (w' := w) ?_ (hk w (hM.upd hu ⟨rfl, rfl, rfl, Nat.le_refl _, fun _ _ _ => rfl⟩ hrow (.inl rfl)))
    have hc := run_copy_none (P := P) w t t' o.type e A1 A 0 c1 0 c hS.h hsz (Nat.zero_min _)
    simp only [execOp, hop, resolve, invoke, builtin, Sem.run_bind, Sem.run_pure, Result.andThen_ok, List.map_toArray, List.map_cons, List.map_nil, hx, hy, hc]
    rfl
  · obtain ⟨g, cur, rfl, hg, hnc, hcm, hcs, hct⟩ := row_form hrow h0
    obtain ⟨a, rfl⟩ := hr.some_ h0 (by decide)
    rw [Nat.mul_one] at hcs hct
    have hc := run_copy_cells (P := P) w t t' o.type e g 0 n c1 a n c ds hS.h hsz (by rw [hl]; exact (Nat.min_self n).symm)
      (fun j v hj => by
        obtain ⟨a', ha, hv⟩ := hr.2 j v hj
        cases ha
        exact hv)
      (fun j hj => by simp only [World.cell?, hg, Nat.zero_add]; rw [Array.getElem?_eq_getElem (by omega)]; rfl) (fun j hj => by simp [World.frozen?, hg]) h1
    obtain ⟨c2, b1, b2, b3, b4⟩ := setCells_blk g e ds 0 w cur hg (by omega)
    refine WO_eff (v := .int .i64 (n : Nat)) (w' := w.setCells g 0 ds) ?_ (hk _ (hM.upd hu b4 ⟨by rw [hl, Nat.mul_one], .inr ⟨g, c1, c2, rfl, Nat.zero_le _, b1, hnc, hcm, by rw [b2, hcs, Nat.mul_one], ?_⟩⟩ (.inl rfl)))
    · simp only [execOp, hop, resolve, invoke, builtin, Sem.run_bind, Sem.run_pure, Result.andThen_ok, List.map_toArray, List.map_cons, List.map_nil, hx, hy, hc]
      rw [hl]
      rfl
    · rw [Nat.mul_one, b3, List.take_zero, List.nil_append]
      have := tA (b := cur.toList.drop (0 + ds.length)) hl 0
      rwa [Nat.add_zero, List.take_zero, List.append_nil] at this
theorem WO_cpN (hop : o.op = .call { callee := .builtin .copy, args := #[x, y], argTypes := #[t, t'] }) [hS : SliceT P t e 1] (hx : ev f x = .slice A1 n c1) (hy : ev f y = .slice A 0 c) (hk : K (.int .i64 0) w) : WO P C o f w K := by
  have hsz : (P.info? e).map (·.size) = some 1 := by
    have := hS.s
    unfold szT at this
    exact this
  refine WO_eff (v := .int .i64 0) (w' := w) ?_ hk
  have hc := run_copy_none (P := P) w t t' o.type e A1 A n c1 0 c hS.h hsz (Nat.zero_min _)
  simp only [execOp, hop, resolve, invoke, builtin, Sem.run_bind, Sem.run_pure, Result.andThen_ok, List.map_toArray, List.map_cons, List.map_nil, hx, hy, hc]
  rfl
end
section
variable {H : Type} {enc : TypeId × Value → H} {P : Program} {W : World} {base : Nat} {sp : Nat → Bool} {held : Bool} {t e : TypeId} {cs : List Value} {x : DataW H × List MemPlace} {fuel : Nat}
theorem mapM_all {α β : Type} {f : α → Option β} : ∀ {l : List α} {ys : List β}, l.mapM f = some ys → ∀ a ∈ l, ∃ y, f a = some y
  | [], _, _, a, h => by cases h
  | b :: l, ys, hm, a, h => by
    rw [List.mapM_cons] at hm
    simp only [bind, Option.bind_eq_some_iff, pure] at hm
    obtain ⟨y, hy, zs, hz, _⟩ := hm
    rcases List.mem_cons.1 h with rfl | h
    · exact ⟨y, hy⟩
    · exact mapM_all hz a h
theorem trod_arr {n : Nat} (hu : P.underlying t = some (.array n e)) (h : DataW.trod enc P W base sp held fuel t cs = some x) :
    ∃ m, cs.length = P.cellsOf t ∧ ∀ i, i < n → ∃ y, DataW.trod enc P W base sp held m e ((cs.drop (i * P.cellsOf e)).take (P.cellsOf e)) = some y := by
  cases fuel with
  | zero => simp [DataW.trod] at h
  | succ m =>
    rw [DataW.trod_step] at h
    unfold DataW.trodStep at h
    simp only [hu] at h
    split at h
    · rename_i hl
      rw [Option.map_eq_some_iff] at h
      obtain ⟨ys, hy, _⟩ := h
      exact ⟨m, hl, fun i hi => mapM_all hy i (List.mem_range.2 hi)⟩
    · cases h
end
structure P2 where
  a : Int
  b : Int
  deriving DecidableEq, Inhabited
def cP2 (x : P2) : List Value := [.int .i64 x.a, .int .i64 x.b]
instance encc_P2 : R.EncC cP2 2 := ⟨fun _ => rfl, by simp [cP2, Value.oneCell'], by decide⟩
instance enct_P2 : R.EncT Try.prog 75 P2 cP2 2 := {}
instance iss_P2 (a b : Int) : R.Iss cP2 [.int .i64 a, .int .i64 b] [⟨a, b⟩] := ⟨rfl⟩
def GP2 (_ : World) (x : P2) : Prop := In64 x.a ∧ In64 x.b
instance opn_P2 : R.Opn Try.prog 75 P2 cP2 GP2 := ⟨fun {H eh W base sp held fuel cs x} hx => by
  have hu : Try.prog.underlying 75 = some (.array 2 3) := by kernel_rfl
  have hi : Try.prog.underlying 3 = some (.int .i64) := by kernel_rfl
  have hc : Try.prog.cellsOf 3 = 1 := by kernel_rfl
  obtain ⟨m, hl, h⟩ := trod_arr hu hx
  rw [show Try.prog.cellsOf 75 = 2 by kernel_rfl] at hl
  rw [hc] at h
  obtain ⟨v0, v1, rfl⟩ : ∃ v0 v1, cs = [v0, v1] := by
    match cs, hl with
    | [v0, v1], _ => exact ⟨v0, v1, rfl⟩
  obtain ⟨y0, k0⟩ := h 0 (by decide)
  obtain ⟨y1, k1⟩ := h 1 (by decide)
  obtain ⟨n0, e0, _, g0⟩ := DataW.trod_int hi k0
  obtain ⟨n1, e1, _, g1⟩ := DataW.trod_int hi k1
  have b0 := bounds_i64 g0
  have b1 := bounds_i64 g1
  simp at e0 e1
  exact ⟨⟨n0, n1⟩, by rw [e0, e1]; rfl, by unfold GP2; dsimp only; unfold In64; omega⟩⟩
theorem one_flatB (L : List Bool) : ∀ v ∈ L.flatMap R.cB, v.oneCell' = true := fun v hv => by
  obtain ⟨x, _, hx⟩ := List.mem_flatMap.1 hv
  rw [List.mem_singleton.1 hx]
  rfl
section
open R
variable {P : Program} {C : R.CallH} {o : Oper} {f : R.Fr} {w : World} {K : Value → World → Prop} {t t' e : TypeId} {x y : Operand} {n c1 : Nat} {A1 : Option Addr} {F : List Nat} {W : World} {l : List Res} {c : R.Sl Bool}
theorem WO_cpC (hop : o.op = .call { callee := .builtin .copy, args := #[x, y], argTypes := #[t, t'] }) [hS : SliceT P t e 1] (hx : ev f x = .slice A1 n c1) (hy : ev f y = .slice c.A c.n c.c) (hM : Own F W w (.row A1 n c1 e 1 ((List.replicate n false).flatMap R.cB) :: l)) (hn : 0 < c.n → c.n = n) (hr : Rd w c.A c.n 1 (c.L.flatMap R.cB))
    (hk : ∀ w', Own F W w' (.row A1 n c1 e 1 ((if c.n = 0 then List.replicate n false else c.L).flatMap R.cB) :: l) → K (.int .i64 (c.n : Nat)) w') : WO P C o f w K := by
  rcases Nat.eq_zero_or_pos c.n with h0 | h0
  · refine WO_cpN (A := c.A) (c := c.c) hop hx (by rw [hy, h0]) ?_
    rw [if_pos h0, h0] at hk
    exact hk w hM
  · have hcn := hn h0
    rw [if_neg (by omega), hcn] at hk
    rw [hcn] at hr hy
    exact WO_cpD hop hx hy hM .head hr (one_flatB c.L) hk
end
theorem Ask.cl {w : World} {g : Gph} {s : R.Sl Item} {c : R.Sl Bool} (h : Ask w g s c) {A : Option Addr} {n d : Nat} {L : List Bool} (hI : R.Inp [] w A n 1 (L.flatMap R.cB)) (hn : n = L.length) (hd : n ≤ d ∧ d ≤ 9223372036854775807) : Ask w g s ⟨A, n, d, L⟩ := ⟨h.1, h.2.1, ⟨hI, hn, hd, fun _ _ => trivial⟩⟩
theorem Ask.st {w : World} {g : Gph} {s : R.Sl Item} {c : R.Sl Bool} (h : Ask w g s c) {A : Option Addr} {n d : Nat} {L : List Item} (hI : R.Inp [] w A n 2 (L.flatMap cItem)) (hn : n = L.length) (hd : n ≤ d ∧ d ≤ 9223372036854775807) (hL : ∀ x ∈ L, In64 x.key ∧ In64 x.at_) : Ask w g ⟨A, n, d, L⟩ c := ⟨h.1, ⟨hI, hn, hd, fun x hx => ⟨R.wf64 (hL x hx).1, R.wf64 (hL x hx).2⟩⟩, h.2.2⟩
end Go.Proofs.Ytegbidklcaccjaa
