/- Rows of structs: an append in place, what lies behind a row made zero. slices.Delete at roads. -/
import Derived.Test.YtmmfndmfibbhcaaRi
import Derived.ArgAppend
namespace Go.Proofs.Ytmmfndmfibbhcaa
open Go.RowKit
open R (In64 InU64 lo64 nth)
namespace R
section
variable {P : Program} {C : CallH} {o : Oper} {f : Fr} {w : World} {K : Value → World → Prop} {t t' e : TypeId} {x y : Operand} {n c c1 m mc d dc sz lo k cc i bytes : Nat} {z : Value} {A B : Option Addr} {F : List Nat} {W : World} {l l' : List Res} {cs ms ss : List Value}
/-- append(s[:i], ..) where there is room. -/
theorem WO_appIn (hop : o.op = .call { callee := .builtin .append, args := #[x, y], argTypes := #[t, t] }) [hS : SliceT P t e sz] [EL : ElemT P e z sz bytes] (hx : ev f x = .slice A i c) (hy : ev f y = .slice B m mc) (hM : Own F W w (.row A n c e sz cs :: l)) (hn0 : 0 < n) (hin : i ≤ n) (hroom : i + m ≤ c) (hB : ∃ b, B = some b) (hr : Rd w B m sz ms) (h1 : ∀ v ∈ ms, v.oneCell' = true)
    (hk : ∀ w', Own F W w' (.row A (i + m) c e sz (cs.take (i * sz) ++ ms) :: l) → K (.slice A (i + m) c) w') : WO P C o f w K := by
  have hrow : w.ownsRow 0 e sz (.slice A n c) n cs := hM.ok _ (.head _)
  obtain ⟨g, cur, rfl, hgb, hnc, hcm, hcs, hct⟩ := row_form hrow hn0
  obtain ⟨i0, hi0, hz0, hz1, hz2⟩ := info_parts EL.h
  obtain ⟨b, rfl⟩ := hB
  have hcl : cs.length = n * sz := hrow.1
  have hml : ms.length = m * sz := hr.1
  have hfit : i * sz + m * sz ≤ cur.size := by
    rw [hcs, ← Nat.add_mul]
    exact Nat.mul_le_mul_right _ hroom
  have hrun := run_append_room_cells (P := P) (w := w) t o.type e i0 hS.h hi0 g 0 i c b m mc ms (by rw [hz1]; exact hml) (fun j u hj => by
      obtain ⟨a', ha, hv⟩ := hr.2 j u hj
      cases ha
      exact hv) h1 hroom
    (fun j hj => by rw [hz1]; simp only [World.cell?, hgb]; rw [Array.getElem?_eq_getElem (by omega)]; rfl) (fun j hj => by simp [World.frozen?, hgb])
  rw [hz1, Nat.zero_add] at hrun
  obtain ⟨c2, b1, b2, b3, b4⟩ := setCells_blk g e ms (i * sz) w cur hgb (by omega)
  refine WO_eff (v := .slice (some ⟨g, 0, none⟩) (i + m) c) (w' := w.setCells g (i * sz) ms) ?_ (hk _ (hM.upd .head b4 ⟨by rw [List.length_append, List.length_take, hml, Nat.min_eq_left (by rw [hcl]; exact Nat.mul_le_mul_right _ hin), Nat.add_mul], .inr ⟨g, c, c2, rfl, Nat.zero_le _, b1, hroom, hcm, by rw [b2, hcs], ?_⟩⟩ (.inl rfl)))
  · simp [execOp, hop, resolve, invoke, builtin, hx, hy, hrun, Result.andThen]
  · have e1 : (cur.toList.take (i * sz)).length = i * sz := by rw [List.length_take, Array.length_toList]; omega
    have hle : i * sz ≤ n * sz := Nat.mul_le_mul_right _ hin
    have := tA (b := cur.toList.drop (i * sz + ms.length)) hml 0
    rw [Nat.add_zero, List.take_zero, List.append_nil] at this
    rw [b3, Nat.add_mul, tA e1, this, ← hct, List.take_take, Nat.min_eq_left hle]
/-- clear(s[lo:hi]), all of it behind the row. -/
theorem WO_clearR {g : Nat} (hop : o.op = .call { callee := .builtin .clear, args := #[x], argTypes := #[t] }) [hS : SliceT P t e sz] [hZ : ZeroT P e z] (hzs : z.cells.size = sz) (hz1 : ∀ v ∈ z.cells.toList, v.oneCell' = true) (hs0 : 0 < sz) (hx : ev f x = .slice (cutA (some ⟨g, 0, none⟩) cc lo sz) k dc) (hM : Own F W w (.row (some ⟨g, 0, none⟩) n c e sz cs :: l)) (hcc : cc ≠ lo) (hk0 : 0 < k) (hnl : n ≤ lo) (hlk : lo + k ≤ c)
    (hk : ∀ w', Own F W w' (.row (some ⟨g, 0, none⟩) n c e sz cs :: l) → K (.tuple #[]) w') : WO P C o f w K := by
  have hrow : w.ownsRow 0 e sz (.slice (some ⟨g, 0, none⟩) n c) n cs := hM.ok _ (.head _)
  rcases hrow.2 with ⟨hv, _⟩ | ⟨g', cap, cur, hv, _, hgb, hnc, hcm, hcs, hct⟩
  · cases hv
  injection hv with a1 a2 a3
  injection a1 with a1
  injection a1 with a1
  subst a1 a3
  have hx2 : ev f x = .slice (some ⟨g, lo * sz, none⟩) k dc := by
    rw [hx]
    unfold cutA
    rw [if_neg hcc]
    simp [Addr.add_lit]
  have hfit : lo * sz + k * sz ≤ cur.size := by
    rw [hcs, ← Nat.add_mul]
    exact Nat.mul_le_mul_right _ hlk
  obtain ⟨zs, hzs2⟩ : ∃ zs, (Builtin.zeroCells z.cells k).toList = zs := ⟨_, rfl⟩
  have hzl : zs.length = k * sz := by rw [← hzs2, Array.length_toList, zeroCells_size, hzs]
  have hzo : ∀ v ∈ zs, v.oneCell' = true := fun v hv => by
    rw [← hzs2] at hv
    unfold Builtin.zeroCells at hv
    rw [Array.toList_map] at hv
    obtain ⟨q, _, rfl⟩ := List.mem_map.1 hv
    have hq : q % z.cells.size < z.cells.size := Nat.mod_lt _ (by omega)
    rw [getElem!_pos z.cells _ hq]
    exact hz1 _ (Array.getElem_mem_toList hq)
  have hst := run_storeCells_cells (P := P) g (lo * sz) zs 0 w (fun j hj => by simp only [World.cell?, hgb, Nat.add_zero]; rw [Array.getElem?_eq_getElem (by omega)]; rfl) (fun j hj => by simp [World.frozen?, hgb]) hzo
  obtain ⟨c2, b1, b2, b3, b4⟩ := setCells_blk g e zs (lo * sz) w cur hgb (by omega)
  have hle : n * sz ≤ lo * sz := Nat.mul_le_mul_right _ hnl
  obtain ⟨k, rfl⟩ : ∃ k', k = k' + 1 := ⟨k - 1, by omega⟩
  refine WO_eff (v := .tuple #[]) (w' := w.setCells g (lo * sz) zs) ?_ (hk _ (hM.upd .head b4 ⟨hrow.1, .inr ⟨g, c, c2, rfl, Nat.zero_le _, b1, hnc, hcm, by rw [b2, hcs], ?_⟩⟩ (.inl rfl)))
  · simp only [Nat.add_zero] at hst
    simp [execOp, hop, resolve, invoke, builtin, hx2, Builtin.clear_, run_underlying hS.h, hZ.h, hzs2, hst, Result.andThen]
  · have e1 : (cur.toList.take (lo * sz)).length = lo * sz := by rw [List.length_take, Array.length_toList]; omega
    rw [b3, List.take_append_of_le_length (by omega), List.take_take, Nat.min_eq_left hle, hct]
end
end R
theorem WO_slcLH {P : Program} {C : R.CallH} {o : Oper} {f : R.Fr} {w : World} {K : Value → World → Prop} {t e : TypeId} {x i1 i2 : Operand} {A : Option Addr} {n c sz : Nat} {k k2 : IntKind} {lo hi : Int} {jl jh : Nat} (hop : o.op = .slice t x (some i1) (some i2) none) [ht : R.SliceT P t e sz] (hx : R.ev f x = .slice A n c) (h1 : R.ev f i1 = .int k lo) (h2 : R.ev f i2 = .int k2 hi) (h0 : 0 ≤ lo) (hl : lo ≤ hi) (hc : hi ≤ c) [hj : R.ToN lo jl] [hj2 : R.ToN hi jh]
    (hk : K (.slice (R.cutA A c jl sz) (jh - jl) (c - jl)) w) : R.WO P C o f w K := by
  have hr := run_slice_lh (P := P) w t A n c (by rw [R.elemT ht.h]; exact ht.h) k k2 lo hi h0 hl hc
  rw [R.elemT ht.h, R.run_sz ht.s] at hr
  have e2 := hj.h
  have e3 := hj2.h
  subst e2 e3
  refine R.WO_val ?_ hk
  simp [execOp, hop, hx, h1, h2, Instr.sliceAt, run_underlying ht.h, hr, Result.andThen, sliced, R.cutA]
set_option maxHeartbeats 2000000 in
theorem deleteR_any {F : List Nat} {W w : World} {l : List R.Res} {A : Option Addr} {n c i : Nat} {M : List Road} (hb : n ≤ 1000000) (hn : n = M.length) (hi : i < n) (hM : R.Own F W w (.row A n c 101 4 (M.flatMap cRoad) :: l)) :
    Calls Try.prog 101 #[.slice A n c, .int .i64 (i : Nat), .int .i64 (((i : Nat) : Int) + 1)] w fun e w' => e = .returned (.slice A (n - 1) c) ∧ R.Own F W w' (.row A (n - 1) c 101 4 ((M.take i ++ M.drop (i + 1)).flatMap cRoad) :: l) := by
  have hcap := cap_of hM (.head _)
  have hcs := flat_lenR M
  obtain ⟨g, cur, rfl, _⟩ := row_form (hM.ok _ (.head _) : w.ownsRow 0 101 4 (.slice A n c) n (M.flatMap cRoad)) (by omega)
  have hB : ∃ b, R.cutA (some ⟨g, 0, none⟩) c (i + 1) 4 = some b := by
    unfold R.cutA
    split
    · exact ⟨_, rfl⟩
    · exact ⟨_, rfl⟩
  refine R.calls_of_WC (fn := Try.f101) Try.func101 rfl Try.ntmps101 (Nat.le_of_ble_eq_true rfl) ?_
  (refine R.stepH ?_; (repeat' (first | (with_reducible refine And.intro ?_ ?_) | (with_reducible intro _))); all_goals refine R.Lft.mk ?_)
  rename_i w2 hM
  refine R.WO_appIn rfl rfl rfl hM (by omega) (by omega) (by omega) hB ((R.Own.rd hM (.head _)).cutA (lo := i + 1) (by omega) hcap.1) (fun v hv => one_flatR M v (List.mem_of_mem_drop hv)) (fun w3 hM => ?_)
  have e1 : i + (n - ((i : Int) + 1).toNat) = n - 1 := by omega
  rw [e1] at hM ⊢
  rw [flat_takeR, flat_dropR, ← List.flatMap_append] at hM
  (refine R.stepH ?_; (repeat' (first | (with_reducible refine And.intro ?_ ?_) | (with_reducible intro _))); all_goals refine R.Lft.mk ?_)
  refine WO_slcLH rfl rfl rfl rfl (by omega) (by omega) (by omega) ?_
  (refine R.stepH ?_; (repeat' (first | (with_reducible refine And.intro ?_ ?_) | (with_reducible intro _))); all_goals refine R.Lft.mk ?_)
  refine R.WO_clearR (sz := 4) (e := 101) (z := .agg #[.int .i64 0, .slice none 0 0, .slice none 0 0, .bool false]) (lo := n - 1) (k := n - (n - 1)) (cc := c) rfl rfl (fun v hv => ?_) (by decide) rfl hM (by omega) (by omega) (by omega) (by omega) (fun w4 hM => ?_)
  · have : v = .int .i64 0 ∨ v = .slice none 0 0 ∨ v = .slice none 0 0 ∨ v = .bool false := by simpa [Value.cells] using hv
    rcases this with rfl | rfl | rfl | rfl <;> rfl
  (refine R.stepH ?_; (repeat' (first | (with_reducible refine And.intro ?_ ?_) | (with_reducible intro _))); all_goals refine R.Lft.mk ?_)
  exact ⟨rfl, hM⟩
end Go.Proofs.Ytmmfndmfibbhcaa
