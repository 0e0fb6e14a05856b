/- Package save: a number's bytes; the document's answer: the walks. -/
import Derived.Test.YtegbidklcaccjaaSvP
import Derived.Laws.IdiomCopy
import Derived.Test.YtegbidklcaccjaaIns
namespace Go.Proofs.Ytegbidklcaccjaa
open Go.ChangeShapes Go.WideShapes Go.ChangeAt Go.RowKit
open R (In64 InU64 lo64 nth)

section
open R
variable {P : Program} {C : R.CallH} {o : Oper} {f : R.Fr} {w : World} {K : Value → World → Prop} {t t' e : TypeId} {x y : Operand} {n c c1 : Nat} {A A1 : Option Addr} {F : List Nat} {W : World} {l l' : List Res} {cs ds : List Value}
theorem WO_cpR (hop : o.op = .call { callee := .builtin .copy, args := #[x, y], argTypes := #[t, t'] }) [hS : SliceT P t e 1] (hx : ev f x = .slice A1 n c1) (hy : ev f y = .slice A n c) (hM : Own F W w l) (hu : Upd l (.row A1 n c1 e 1 cs) (.row A1 n c1 e 1 ds) l')
    (hr : Rd w A n 1 ds) (h1 : ∀ v ∈ ds, v.oneCell' = true) (hk : ∀ w', Own F W w' l' → K (.int .i64 (n : Nat)) w') : WO P C o f w K := by
  have hrow : w.ownsRow 0 e 1 (.slice A1 n c1) n cs := hM.ok _ hu.old
  have hsz : (P.info? e).map (·.size) = some 1 := by
    have := hS.s
    unfold szT at this
    exact this
  have hl : ds.length = n := by rw [hr.1, Nat.mul_one]
  rcases Nat.eq_zero_or_pos n with h0 | h0
  · have hds : ds = [] := List.eq_nil_of_length_eq_zero (by omega)
    have hcs : cs = [] := List.eq_nil_of_length_eq_zero (by rw [hrow.1, h0, Nat.zero_mul])
    subst hds hcs h0
    refine WO_eff (v := .int .i64 0) (w' := w) ?_ (hk w (hM.upd hu ⟨rfl, rfl, rfl, Nat.le_refl _, fun _ _ _ => rfl⟩ hrow (.inl rfl)))
    have hc := run_copy_none (P := P) w t t' o.type e A1 A 0 c1 0 c hS.h hsz (Nat.zero_min _)
    simp only [execOp, hop, resolve, invoke, builtin, Sem.run_bind, Sem.run_pure, Result.andThen_ok, List.map_toArray, List.map_cons, List.map_nil, hx, hy, hc]
    rfl
  · obtain ⟨g, cur, rfl, hg, hnc, hcm, hcs, hct⟩ := row_form hrow h0
    obtain ⟨a, rfl⟩ := hr.some_ h0 (by decide)
    rw [Nat.mul_one] at hcs hct
    have hc := run_copy_cells (P := P) w t t' o.type e g 0 n c1 a n c ds hS.h hsz (by rw [hl]; exact (Nat.min_self n).symm)
      (fun j v hj => by
        obtain ⟨a', ha, hv⟩ := hr.2 j v hj
        cases ha
        exact hv)
      (fun j hj => by simp only [World.cell?, hg, Nat.zero_add]; rw [Array.getElem?_eq_getElem (by omega)]; rfl) (fun j hj => by simp [World.frozen?, hg]) h1
    obtain ⟨c2, b1, b2, b3, b4⟩ := setCells_blk g e ds 0 w cur hg (by omega)
    refine WO_eff (v := .int .i64 (n : Nat)) (w' := w.setCells g 0 ds) ?_ (hk _ (hM.upd hu b4 ⟨by rw [hl, Nat.mul_one], .inr ⟨g, c1, c2, rfl, Nat.zero_le _, b1, hnc, hcm, by rw [b2, hcs, Nat.mul_one], ?_⟩⟩ (.inl rfl)))
    · simp only [execOp, hop, resolve, invoke, builtin, Sem.run_bind, Sem.run_pure, Result.andThen_ok, List.map_toArray, List.map_cons, List.map_nil, hx, hy, hc]
      rw [hl]
      rfl
    · rw [Nat.mul_one, b3, List.take_zero, List.nil_append]
      have := tA (b := cur.toList.drop (0 + ds.length)) hl 0
      rwa [Nat.add_zero, List.take_zero, List.append_nil] at this
theorem WO_cplU {a : Int} (hop : o.op = .unOp .xor t x) (hx : ev f x = .int .u64 a) (h0 : 0 ≤ a) (h1 : a ≤ 18446744073709551615) (hk : K (.int .u64 (18446744073709551615 - a)) w) : WO P C o f w K := by
  refine WO_val ?_ hk
  have := u64_not h0 h1
  simp [execOp, hop, hx, Op.unary, intBits_xor, IntKind.signed, IntKind.max, IntKind.bits, this]
theorem WO_cplI {a : Int} (hop : o.op = .unOp .xor t x) (hx : ev f x = .int .i64 a) (h0 : 0 ≤ a) (h1 : a ≤ 9223372036854775807) (hk : K (.int .i64 (-a - 1)) w) : WO P C o f w K := by
  refine WO_val ?_ hk
  have := i64_not0 h0 h1
  simp [execOp, hop, hx, Op.unary, intBits_xor, IntKind.signed, this]
theorem WO_rem8 {a b : Int} (hop : o.op = .binOp .rem t x y t') (hx : ev f x = .int .u8 a) (hy : ev f y = .int .u8 b) (ha : 0 ≤ a) (hb : 0 < b) (hk : K (.int .u8 (a % b)) w) : WO P C o f w K := by
  refine WO_val ?_ hk
  have h0 : b ≠ 0 := by omega
  simp [execOp, hop, hx, hy, eqGuard_rem, binOp_rem, Op.intDiv, h0, Int.tmod_eq_emod_of_nonneg ha]
end
theorem one_flatY (L : List Int) : ∀ v ∈ L.flatMap R.cY, v.oneCell' = true := fun v hv => by
  obtain ⟨x, _, hx⟩ := List.mem_flatMap.1 hv
  exact R.encc_Y.one x v hx
theorem wrap8 (x : Int) : IntKind.u8.wrap x = x % 256 := IntKind.wrap_u8 x
theorem num46_any (v : Int) (h0 : -1152921504606846976 ≤ v) (h1 : v ≤ 1152921504606846976) (w : World) : Calls Try.prog 61 #[.int .i64 v] w fun e w' => ∃ A1 c1, e = .returned (.slice A1 (numB (zig v)).length c1) ∧ R.Gives w w' A1 (numB (zig v)).length c1 5 1 ((numB (zig v)).flatMap R.cY) := by
  have hM := R.Own.start [] w
  have hz := zig_in h0 h1
  have hlen := numB_len 8 (zig v) hz.1 (by omega)
  refine R.calls_of_WC (fn := Try.f61) Try.func61 rfl Try.ntmps61 (Nat.le_of_ble_eq_true rfl) ?_
  (refine R.step ?_; (repeat' (first | (with_reducible refine And.intro ?_ ?_) | (with_reducible intro _))); all_goals refine R.Lft.mk ?_)
  all_goals
    rename_i A0 c0 w0 hM
    refine R.WC_loop (fun s : List Int × Int × Option Addr × Nat => [(2, .slice none 0 0), (3, .int .i64 s.2.1), (4, .slice s.2.2.1 s.1.length s.2.2.2)])
      (fun s w2 => numB (zig v) = s.1 ++ numB s.2.1 ∧ 0 ≤ s.2.1 ∧ s.2.1 ≤ 2305843009213693952 ∧ R.Own [] w w2 [.row s.2.2.1 s.1.length s.2.2.2 5 1 (s.1.flatMap R.cY)]) (fun s => s.2.1.toNat) ⟨([], zig v, A0, c0), ⟨rfl, R.viaI rfl (by dsimp only; unfold zig; split <;> omega), rfl, trivial⟩, rfl, hz.1, hz.2, hM⟩ ?_
    clear hM
    rintro ⟨pre, u, A1, c1⟩ f w2 ⟨he, hu0, hu1, hM⟩
    dsimp only at he hu0 hu1 hM ⊢
    have hpl : pre.length + (numB u).length = (numB (zig v)).length := by rw [he, List.length_append]
    have hpp := numB_pos u
    by_cases hlt : 128 ≤ u
    · have hb := numB_hi hlt
      (refine R.step ?_; (repeat' (first | (with_reducible refine And.intro ?_ ?_) | (with_reducible intro _))); all_goals refine R.Lft.mk ?_)
      rename_i hM
      refine ⟨(pre ++ [128 + u % 128], u / 128, _, _), ⟨rfl, rfl, R.viaS rfl (by rw [List.length_append]; rfl), trivial⟩, ⟨by dsimp only; rw [he, hb]; simp, by dsimp only; omega, by dsimp only; omega, ?_⟩, by dsimp only; omega⟩
      dsimp only
      rw [List.length_append]
      rw [wrap8, show (128 + u % 128) % 256 = 128 + u % 128 by omega] at hM
      exact hM
    · have hb := numB_lo hlt
      rw [hb] at hpl
      (refine R.step ?_; (repeat' (first | (with_reducible refine And.intro ?_ ?_) | (with_reducible intro _))); all_goals refine R.Lft.mk ?_)
      rename_i A2 c2 w3 hM
      rw [wrap8, show u % 256 = u by omega] at hM
      refine ⟨A2, c2, ?_, ?_⟩
      · rw [he, hb, List.length_append]
        rfl
      · rw [he, hb, List.length_append]
        exact hM.gives
theorem same46_any (A B : Option Addr) (n c m d : Nat) (L M : List Int) (w : World) (hA : R.Inp [] w A n 1 (L.flatMap R.cY)) (hn : n = L.length) (hnb : n ≤ 9223372036854775807) (hB : R.Inp [] w B m 1 (M.flatMap R.cY)) (hm : m = M.length) : Calls Try.prog 26 #[.slice A n c, .slice B m d] w fun e w' => e = .returned (.bool (decide (L = M))) ∧ Below w.heap.size w w' := by
  have hM := R.Own.start [] w
  by_cases hl : n = m
  · refine R.calls_of_WC (fn := Try.f26) Try.func26 rfl Try.ntmps26 (Nat.le_of_ble_eq_true rfl) ?_
    (refine R.step ?_; (repeat' (first | (with_reducible refine And.intro ?_ ?_) | (with_reducible intro _))); all_goals refine R.Lft.mk ?_)
    refine R.WC_loop (fun k : Nat => [(0, .slice A n c), (1, .slice B m d), (4, .bool false), (5, .int .i64 (k : Nat))])
      (fun k w2 => k ≤ n ∧ R.Own [] w w2 [] ∧ ∀ i, i < k → nth L i = nth M i) (fun k => n - k) ⟨0, ⟨rfl, rfl, rfl, rfl, trivial⟩, by omega, hM, fun i hi => absurd hi (Nat.not_lt_zero _)⟩ ?_
    clear hM
    rintro k f w2 ⟨hk, hM, hall⟩
    by_cases hlt : k < n
    · (refine R.step ?_; (repeat' (first | (with_reducible refine And.intro ?_ ?_) | (with_reducible intro _))); all_goals refine R.Lft.mk ?_)
      · have h : nth L k ≠ nth M k := by assumption
        rw [decide_eq_false (fun g : L = M => h (by rw [g]))]
        exact ⟨rfl, R.Own.below (by assumption)⟩
      · have h : ¬ nth L k ≠ nth M k := by assumption
        refine ⟨k + 1, ⟨rfl, rfl, rfl, R.viaI rfl (by omega), trivial⟩, ⟨by omega, by assumption, fun i hi => ?_⟩, by omega⟩
        rcases Nat.lt_or_ge i k with h1 | h1
        · exact hall i h1
        · obtain rfl : i = k := by omega
          simpa using h
    · obtain rfl : k = n := by omega
      (refine R.step ?_; (repeat' (first | (with_reducible refine And.intro ?_ ?_) | (with_reducible intro _))); all_goals refine R.Lft.mk ?_)
      rw [decide_eq_true (show L = M from List.ext_getElem (by omega) fun i h1 h2 => by rw [← R.nth_eq h1, ← R.nth_eq h2]; exact hall i (by omega))]
      exact ⟨rfl, R.Own.below (by assumption)⟩
  · rw [decide_eq_false (fun g : L = M => hl (by rw [hn, hm, g]))]
    refine R.calls_of_WC (fn := Try.f26) Try.func26 rfl Try.ntmps26 (Nat.le_of_ble_eq_true rfl) ?_
    (refine R.step ?_; (repeat' (first | (with_reducible refine And.intro ?_ ?_) | (with_reducible intro _))); all_goals refine R.Lft.mk ?_)
    all_goals first
      | exact ⟨rfl, R.Own.below (by assumption)⟩
      | (exfalso; omega)
/-- What is put behind bytes. -/
def putL (L : List Int) (v : Int) : List Int := if -1152921504606846976 ≤ v ∧ v ≤ 1152921504606846976 then L ++ numB (zig v) else L
theorem num_any (A : Option Addr) (n c : Nat) (L : List Int) (v : Int) (w : World) (hA : R.Inp [] w A n 1 (L.flatMap R.cY)) (hn : n = L.length) (hb : n ≤ 1000000) (hv : In64 v) : Calls Try.prog 55 #[.slice A n c, .int .i64 v] w fun e w' => ∃ A1 c1, e = .returned (.slice A1 (putL L v).length c1) ∧ R.Gives w w' A1 (putL L v).length c1 5 1 ((putL L v).flatMap R.cY) := by
  have hM := R.Own.start [] w
  unfold In64 at hv
  by_cases hr : -1152921504606846976 ≤ v ∧ v ≤ 1152921504606846976
  · rw [show putL L v = L ++ numB (zig v) from if_pos hr]
    obtain ⟨h0, h1⟩ := hr
    have hz := zig_in h0 h1
    have hlen := numB_len 8 (zig v) hz.1 (by omega)
    have hlo : ∀ x : Int, lo64 x = x % 18446744073709551616 := fun x => rfl
    have e2 : (2 : Int) ^ Int.toNat 1 = 2 := rfl
    have hu1 : lo64 (lo64 v * 2 ^ Int.toNat 1) = if v < 0 then 2 * v + 18446744073709551616 else 2 * v := by
      rw [hlo, hlo, e2]
      split <;> omega
    refine R.calls_of_WC (fn := Try.f55) Try.func55 rfl Try.ntmps55 (Nat.le_of_ble_eq_true rfl) ?_
    (refine R.step ?_; (repeat' (first | (with_reducible refine And.intro ?_ ?_) | (with_reducible intro _))); all_goals refine R.Lft.mk ?_)
    rename_i hM
    refine WO_cpR rfl rfl rfl hM R.upds (R.Own.rdIn hM hA) (one_flatY L) (fun w2 hM => ?_)
    (refine R.step ?_; (repeat' (first | (with_reducible refine And.intro ?_ ?_) | (with_reducible intro _))); all_goals refine R.Lft.mk ?_)
    · rename_i hneg
      rw [if_pos hneg] at hu1
      rw [hu1]
      refine WO_cplU rfl rfl (by omega) (by omega) ?_
      have hz2 : zig v = 18446744073709551615 - (2 * v + 18446744073709551616) := by unfold zig; rw [if_pos hneg]; omega
      rw [← hz2]
      (refine R.step ?_; (repeat' (first | (with_reducible refine And.intro ?_ ?_) | (with_reducible intro _))); all_goals refine R.Lft.mk ?_)
      all_goals
        refine R.WC_loop (fun s : List Int × Int × Option Addr × Nat => [(4, .slice none 0 0), (5, .slice s.2.2.1 (L ++ s.1).length s.2.2.2), (6, .int .u64 s.2.1)])
           (fun s w3 => numB (zig v) = s.1 ++ numB s.2.1 ∧ 0 ≤ s.2.1 ∧ s.2.1 ≤ 2305843009213693952 ∧ R.Own [] w w3 [.row s.2.2.1 (L ++ s.1).length s.2.2.2 5 1 ((L ++ s.1).flatMap R.cY)]) (fun s => s.2.1.toNat) ⟨([], zig v, _, _), ⟨rfl, R.viaS rfl (by simp; omega), rfl, trivial⟩, rfl, hz.1, hz.2, by dsimp only; rw [List.append_nil, ← hn]; exact hM⟩ ?_
        clear hM
        rintro ⟨pre, u, A1, c1⟩ f w3 ⟨he, hu0, hu1, hM⟩
        dsimp only at he hu0 hu1 hM ⊢
        have hpl : pre.length + (numB u).length = (numB (zig v)).length := by rw [he, List.length_append]
        have hpp := numB_pos u
        have hLl : (L ++ pre).length = n + pre.length := by rw [List.length_append, hn]
        have e7 : (2 : Int) ^ Int.toNat 7 = 128 := rfl
        by_cases hlt : 128 ≤ u
        · have hb := numB_hi hlt
          have e9 : (L ++ (pre ++ [128 + u % 128])).length = (L ++ pre).length + 1 := by rw [← List.append_assoc]; exact List.length_append
          (refine R.step ?_; (repeat' (first | (with_reducible refine And.intro ?_ ?_) | (with_reducible intro _))); all_goals refine R.Lft.mk ?_)
          rename_i hM
          refine ⟨(pre ++ [128 + u % 128], u / 128, _, _), ⟨rfl, R.viaS rfl (by dsimp only; rw [e9]), rfl, trivial⟩, ⟨by dsimp only; rw [he, hb]; simp, by dsimp only; omega, by dsimp only; omega, ?_⟩, by dsimp only; omega⟩
          dsimp only
          rw [e9, ← List.append_assoc]
          rw [wrap8, u8_or_hi (by omega) (by omega), show 128 + u % 256 % 128 = 128 + u % 128 by omega] at hM
          exact hM
        · have hb := numB_lo hlt
          have e9 : (L ++ (pre ++ [u])).length = (L ++ pre).length + 1 := by rw [← List.append_assoc]; exact List.length_append
          rw [hb] at hpl
          (refine R.step ?_; (repeat' (first | (with_reducible refine And.intro ?_ ?_) | (with_reducible intro _))); all_goals refine R.Lft.mk ?_)
          rename_i A2 c2 w4 hM
          rw [wrap8, show u % 256 = u by omega] at hM
          refine ⟨A2, c2, ?_, ?_⟩
          · rw [he, hb, e9]
          · rw [he, hb, e9, ← List.append_assoc]
            exact R.Own.gives hM
    · rename_i hneg
      rw [if_neg hneg] at hu1
      have hz2 : zig v = 2 * v := by unfold zig; rw [if_neg hneg]
      rw [hu1, ← hz2]
      all_goals
        refine R.WC_loop (fun s : List Int × Int × Option Addr × Nat => [(4, .slice none 0 0), (5, .slice s.2.2.1 (L ++ s.1).length s.2.2.2), (6, .int .u64 s.2.1)])
           (fun s w3 => numB (zig v) = s.1 ++ numB s.2.1 ∧ 0 ≤ s.2.1 ∧ s.2.1 ≤ 2305843009213693952 ∧ R.Own [] w w3 [.row s.2.2.1 (L ++ s.1).length s.2.2.2 5 1 ((L ++ s.1).flatMap R.cY)]) (fun s => s.2.1.toNat) ⟨([], zig v, _, _), ⟨rfl, R.viaS rfl (by simp; omega), rfl, trivial⟩, rfl, hz.1, hz.2, by dsimp only; rw [List.append_nil, ← hn]; exact hM⟩ ?_
        clear hM
        rintro ⟨pre, u, A1, c1⟩ f w3 ⟨he, hu0, hu1, hM⟩
        dsimp only at he hu0 hu1 hM ⊢
        have hpl : pre.length + (numB u).length = (numB (zig v)).length := by rw [he, List.length_append]
        have hpp := numB_pos u
        have hLl : (L ++ pre).length = n + pre.length := by rw [List.length_append, hn]
        have e7 : (2 : Int) ^ Int.toNat 7 = 128 := rfl
        by_cases hlt : 128 ≤ u
        · have hb := numB_hi hlt
          have e9 : (L ++ (pre ++ [128 + u % 128])).length = (L ++ pre).length + 1 := by rw [← List.append_assoc]; exact List.length_append
          (refine R.step ?_; (repeat' (first | (with_reducible refine And.intro ?_ ?_) | (with_reducible intro _))); all_goals refine R.Lft.mk ?_)
          rename_i hM
          refine ⟨(pre ++ [128 + u % 128], u / 128, _, _), ⟨rfl, R.viaS rfl (by dsimp only; rw [e9]), rfl, trivial⟩, ⟨by dsimp only; rw [he, hb]; simp, by dsimp only; omega, by dsimp only; omega, ?_⟩, by dsimp only; omega⟩
          dsimp only
          rw [e9, ← List.append_assoc]
          rw [wrap8, u8_or_hi (by omega) (by omega), show 128 + u % 256 % 128 = 128 + u % 128 by omega] at hM
          exact hM
        · have hb := numB_lo hlt
          have e9 : (L ++ (pre ++ [u])).length = (L ++ pre).length + 1 := by rw [← List.append_assoc]; exact List.length_append
          rw [hb] at hpl
          (refine R.step ?_; (repeat' (first | (with_reducible refine And.intro ?_ ?_) | (with_reducible intro _))); all_goals refine R.Lft.mk ?_)
          rename_i A2 c2 w4 hM
          rw [wrap8, show u % 256 = u by omega] at hM
          refine ⟨A2, c2, ?_, ?_⟩
          · rw [he, hb, e9]
          · rw [he, hb, e9, ← List.append_assoc]
            exact R.Own.gives hM
  · rw [show putL L v = L from if_neg hr]
    refine R.calls_of_WC (fn := Try.f55) Try.func55 rfl Try.ntmps55 (Nat.le_of_ble_eq_true rfl) ?_
    (refine R.step ?_; (repeat' (first | (with_reducible refine And.intro ?_ ?_) | (with_reducible intro _))); all_goals refine R.Lft.mk ?_)
    all_goals
      rename_i hM
      refine WO_cpR rfl rfl rfl hM R.upds (R.Own.rdIn hM hA) (one_flatY L) (fun w2 hM => ?_)
      (refine R.step ?_; (repeat' (first | (with_reducible refine And.intro ?_ ?_) | (with_reducible intro _))); all_goals refine R.Lft.mk ?_)
      all_goals first
        | exact ⟨_, _, by rw [← hn], by rw [← hn]; exact R.Own.gives hM⟩
        | (exfalso; omega)
end Go.Proofs.Ytegbidklcaccjaa
