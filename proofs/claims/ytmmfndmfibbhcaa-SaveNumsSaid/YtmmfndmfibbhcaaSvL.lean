/- The law SaveNums. -/
import Derived.Test.YtmmfndmfibbhcaaSvA
import Derived.Test.YtmmfndmfibbhcaaFrame
namespace Go.Proofs.Ytmmfndmfibbhcaa
open Go.ChangeShapes Go.WideShapes Go.ChangeAt Go.RowKit
open R (In64 InU64 lo64 nth)

theorem numB_byte : ∀ (k : Nat) (u : Int), 0 ≤ u → u < 128 ^ (k + 1) → byte (numB u)
  | 0, u, h0, h1 => by
    rw [numB_lo (by simp at h1; omega)]
    intro x hx
    simp at hx h1
    omega
  | k + 1, u, h0, h1 => by
    by_cases h : 128 ≤ u
    · rw [numB_hi h]
      intro x hx
      rcases List.mem_cons.1 hx with rfl | hx
      · omega
      · exact numB_byte k (u / 128) (by omega) (by rw [Int.pow_succ] at h1; omega) x hx
    · rw [numB_lo h]
      intro x hx
      simp at hx
      omega
theorem flat_dropY (L : List Int) (i : Nat) : (L.flatMap R.cY).drop (i * 1) = (L.drop i).flatMap R.cY := by
  have e : ∀ M : List Int, M.flatMap R.cY = M.map (Value.int .u8) := fun M => by induction M with
    | nil => rfl
    | cons x M ih => rw [List.flatMap_cons, ih]; rfl
  rw [e, e, List.map_drop, Nat.mul_one]
theorem read_at (A : Option Addr) (n c : Nat) (L : List Int) (w : World) (hA : R.Inp [] w A n 1 (L.flatMap R.cY)) (hn : n = L.length) (hb : n ≤ 9223372036854775807) (hc : n ≤ c) (hL : byte L) {m er : Int} {k : Nat} (h1 : rdN (rdF L 0 0) = m) (h2 : rdU (rdF L 0 0) = k) (h3 : okE (rdF L 0 0) = er) : Calls Try.prog 39 #[.slice A n c] w fun e w' => e = .returned (.tuple #[.int .i64 m, .int .i64 (k : Nat), .int .i64 er]) ∧ Below w.heap.size w w' := by
  rw [← h1, ← h2, ← h3]
  exact read_any A n c L w hA hn hb hc hL
theorem read46_at (A : Option Addr) (n c : Nat) (L : List Int) (w : World) (hA : R.Inp [] w A n 1 (L.flatMap R.cY)) (hn : n = L.length) (hb : n ≤ 9223372036854775807) (hL : byte L) {m : Int} {k : Nat} {b : Bool} (h1 : rdN (rdF L 0 0) = m) (h2 : rdU (rdF L 0 0) = k) (h3 : (rdF L 0 0).isSome = b) : Calls Try.prog 40 #[.slice A n c, .int .i64 0] w fun e w' => e = .returned (.tuple #[.int .i64 m, .int .i64 (k : Nat), .bool b]) ∧ Below w.heap.size w w' := by
  rw [← h1, ← h2, ← h3]
  exact read46_any A n c L w hA hn hb hL
set_option maxHeartbeats 4000000 in
theorem saveNums_any (A : Option Addr) (n c : Nat) (L : List Int) (v : Int) (w : World) (hA : R.Inp [] w A n 1 (L.flatMap R.cY)) (hn : n = L.length) (hc : n ≤ c) (hL : byte L) (hv : In64 v) : Calls Try.prog 7 #[.slice A n c, .int .i64 v] w fun e w' => e = .returned (.bool true) ∧ Below w.heap.size w w' := by
  have hM := R.Own.start [] w
  by_cases hl : n ≤ 100
  · obtain ⟨m, k, b, er, h1, h2, h3, h4, hbe⟩ : ∃ m k b er, rdN (rdF L 0 0) = m ∧ rdU (rdF L 0 0) = k ∧ (rdF L 0 0).isSome = b ∧ okE (rdF L 0 0) = er ∧ ((b = true ∧ er = 0) ∨ (b = false ∧ er = 2)) := by
      refine ⟨_, _, _, _, rfl, rfl, rfl, rfl, ?_⟩
      cases rdF L 0 0 with
      | none => exact .inr ⟨rfl, rfl⟩
      | some x => exact .inl ⟨rfl, rfl⟩
    by_cases hr : -1152921504606846976 ≤ v ∧ v ≤ 1152921504606846976
    · have hput : putL L v = L ++ numB (zig v) := if_pos hr
      obtain ⟨h0, h1v⟩ := hr
      have hz := zig_in h0 h1v
      have hlen := numB_len 8 (zig v) hz.1 (by omega)
      have hby := numB_byte 8 (zig v) hz.1 (by omega)
      have hrd := rd_zig h0 h1v
      obtain ⟨N, hN⟩ : ∃ N, numB (zig v) = N := ⟨_, rfl⟩
      have hnum := num46_any v h0 h1v
      rw [hN] at hput hlen hby hrd hnum
      clear hN hz
      have hll : (L ++ N).length = n + N.length := by rw [List.length_append, hn]
      have htk : (L ++ N).take n = L := by rw [hn, List.take_left]
      have hdk : (L ++ N).drop n = N := by rw [hn, List.drop_left]
      refine R.calls_of_WC (fn := Try.f7) Try.func7 rfl Try.ntmps7 (Nat.le_of_ble_eq_true rfl) ?_
      (refine R.step ?_; (repeat' (first | (with_reducible refine And.intro ?_ ?_) | (with_reducible intro _))); all_goals refine R.Lft.mk ?_)
      refine R.WO_call2 rfl rfl R.vv R.vv ?_
      refine (num_any A n c L v _ (R.Own.inpIn R.ohm hA) hn (by omega) hv).mono ?_
      rintro _ w2 ⟨A1, c1, rfl, hG⟩
      rw [hput, hll] at hG ⊢
      have hM := R.Own.give R.ohm hG
      have hcap : n + N.length ≤ c1 := row_cap hM (.head _)
      refine ⟨_, rfl, ?_⟩
      (refine R.step ?_; (repeat' (first | (with_reducible refine And.intro ?_ ?_) | (with_reducible intro _))); all_goals refine R.Lft.mk ?_)
      refine R.WO_call1 rfl rfl R.vv ?_
      refine (read_at A n c L _ (R.Own.inpIn R.ohm hA) hn (by omega) hc hL h1 h2 h4).mono ?_
      rintro _ w3 ⟨rfl, hb1⟩
      have hM := R.Own.call R.ohm hb1
      refine ⟨_, rfl, ?_⟩
      (refine R.step ?_; (repeat' (first | (with_reducible refine And.intro ?_ ?_) | (with_reducible intro _))); all_goals refine R.Lft.mk ?_)
      refine R.WO_call2 rfl rfl R.vv R.vv ?_
      refine (read46_at A n c L _ (R.Own.inpIn R.ohm hA) hn (by omega) hL h1 h2 h3).mono ?_
      rintro _ w4 ⟨rfl, hb2⟩
      have hM := R.Own.call R.ohm hb2
      refine ⟨_, rfl, ?_⟩
      rcases hbe with ⟨rfl, rfl⟩ | ⟨rfl, rfl⟩
      all_goals
        (refine R.step ?_; (repeat' (first | (with_reducible refine And.intro ?_ ?_) | (with_reducible intro _))); all_goals refine R.Lft.mk ?_)
        · exfalso
          omega
        rename_i hM _
        refine R.WO_call2 rfl rfl R.vv R.vv ?_
        refine (same46_any A1 A n c1 n c L L _ (by have := (R.Own.inp hM (.head _)).take n (by omega); rwa [flat_takeY, htk] at this) hn (by omega) (R.Own.inpIn hM hA) hn).mono ?_
        rintro _ w5 ⟨rfl, hb3⟩
        have hM := R.Own.call hM hb3
        refine ⟨_, rfl, ?_⟩
        rw [show decide (L = L) = true from decide_eq_true rfl]
        (refine R.step ?_; (repeat' (first | (with_reducible refine And.intro ?_ ?_) | (with_reducible intro _))); all_goals refine R.Lft.mk ?_)
        refine R.WO_call1 rfl rfl R.vv ?_
        refine (hnum _).mono ?_
        rintro _ w6 ⟨A2, c2, rfl, hG2⟩
        have hM := R.Own.give hM hG2
        have hI : ∀ w7, R.Own [] w w7 [.row A2 N.length c2 5 1 (N.flatMap R.cY), .row A1 (n + N.length) c1 5 1 ((L ++ N).flatMap R.cY)] → R.Inp [] w7 (R.cutA A1 c1 n 1) (n + N.length - n) 1 (N.flatMap R.cY) := fun w7 hM => by
          have := (R.Own.inp hM (.tail _ (.head _))).cutA (lo := n) (m := c1) (by omega) hcap
          rwa [flat_dropY, hdk] at this
        refine ⟨_, rfl, ?_⟩
        (refine R.step ?_; (repeat' (first | (with_reducible refine And.intro ?_ ?_) | (with_reducible intro _))); all_goals refine R.Lft.mk ?_)
        refine R.WO_call2 rfl rfl R.vv R.vv ?_
        refine (same46_any (R.cutA A1 c1 n 1) A2 (n + N.length - n) (c1 - n) N.length c2 N N _ (hI _ hM) (by omega) (by omega) (R.Own.inp hM (.head _)) rfl).mono ?_
        rintro _ w7 ⟨rfl, hb4⟩
        have hM := R.Own.call hM hb4
        refine ⟨_, rfl, ?_⟩
        rw [show decide (N = N) = true from decide_eq_true rfl]
        (refine R.step ?_; (repeat' (first | (with_reducible refine And.intro ?_ ?_) | (with_reducible intro _))); all_goals refine R.Lft.mk ?_)
        refine R.WO_call1 rfl rfl R.vv ?_
        refine (read_at (R.cutA A1 c1 n 1) (n + N.length - n) (c1 - n) N _ (hI _ R.ohm) (by omega) (by omega) (by omega) hby (m := v) (k := N.length) (er := 0) (by rw [hrd]; rfl) (by rw [hrd]; rfl) (by rw [hrd]; rfl)).mono ?_
        rintro _ w8 ⟨rfl, hb5⟩
        have hM := R.Own.call R.ohm hb5
        refine ⟨_, rfl, ?_⟩
        (refine R.step ?_; (repeat' (first | (with_reducible refine And.intro ?_ ?_) | (with_reducible intro _))); all_goals refine R.Lft.mk ?_; (all_goals (try (exact ⟨rfl, R.Own.below (by assumption)⟩))))
    · have hput : putL L v = L := if_neg hr
      refine R.calls_of_WC (fn := Try.f7) Try.func7 rfl Try.ntmps7 (Nat.le_of_ble_eq_true rfl) ?_
      (refine R.step ?_; (repeat' (first | (with_reducible refine And.intro ?_ ?_) | (with_reducible intro _))); all_goals refine R.Lft.mk ?_)
      refine R.WO_call2 rfl rfl R.vv R.vv ?_
      refine (num_any A n c L v _ (R.Own.inpIn R.ohm hA) hn (by omega) hv).mono ?_
      rintro _ w2 ⟨A1, c1, rfl, hG⟩
      rw [hput, ← hn] at hG ⊢
      have hM := R.Own.give R.ohm hG
      refine ⟨_, rfl, ?_⟩
      (refine R.step ?_; (repeat' (first | (with_reducible refine And.intro ?_ ?_) | (with_reducible intro _))); all_goals refine R.Lft.mk ?_)
      refine R.WO_call1 rfl rfl R.vv ?_
      refine (read_at A n c L _ (R.Own.inpIn R.ohm hA) hn (by omega) hc hL h1 h2 h4).mono ?_
      rintro _ w3 ⟨rfl, hb1⟩
      have hM := R.Own.call R.ohm hb1
      refine ⟨_, rfl, ?_⟩
      (refine R.step ?_; (repeat' (first | (with_reducible refine And.intro ?_ ?_) | (with_reducible intro _))); all_goals refine R.Lft.mk ?_)
      refine R.WO_call2 rfl rfl R.vv R.vv ?_
      refine (read46_at A n c L _ (R.Own.inpIn R.ohm hA) hn (by omega) hL h1 h2 h3).mono ?_
      rintro _ w4 ⟨rfl, hb2⟩
      have hM := R.Own.call R.ohm hb2
      refine ⟨_, rfl, ?_⟩
      rcases hbe with ⟨rfl, rfl⟩ | ⟨rfl, rfl⟩
      all_goals
        (refine R.step ?_; (repeat' (first | (with_reducible refine And.intro ?_ ?_) | (with_reducible intro _))); all_goals refine R.Lft.mk ?_)
        all_goals first
          | (exfalso; omega)
          | (rename_i hM _
             refine R.WO_call2 rfl rfl R.vv R.vv ?_
             refine (same46_any A1 A n c1 n c L L _ (R.Own.inp R.ohm R.memb) hn (by omega) (R.Own.inpIn R.ohm hA) hn).mono ?_
             rintro _ w5 ⟨rfl, hb3⟩
             have hM := R.Own.call R.ohm hb3
             refine ⟨_, rfl, ?_⟩
             rw [show decide (L = L) = true from decide_eq_true rfl]
             (refine R.step ?_; (repeat' (first | (with_reducible refine And.intro ?_ ?_) | (with_reducible intro _))); all_goals refine R.Lft.mk ?_; (all_goals (try (exact ⟨rfl, R.Own.below (by assumption)⟩)))))
          | (refine R.WO_call2 rfl rfl R.vv R.vv ?_
             refine (same46_any A1 A n c1 n c L L _ (R.Own.inp R.ohm R.memb) hn (by omega) (R.Own.inpIn R.ohm hA) hn).mono ?_
             rintro _ w5 ⟨rfl, hb3⟩
             have hM := R.Own.call R.ohm hb3
             refine ⟨_, rfl, ?_⟩
             rw [show decide (L = L) = true from decide_eq_true rfl]
             (refine R.step ?_; (repeat' (first | (with_reducible refine And.intro ?_ ?_) | (with_reducible intro _))); all_goals refine R.Lft.mk ?_; (all_goals (try (exact ⟨rfl, R.Own.below (by assumption)⟩)))))
  · refine R.calls_of_WC (fn := Try.f7) Try.func7 rfl Try.ntmps7 (Nat.le_of_ble_eq_true rfl) ?_
    (refine R.step ?_; (repeat' (first | (with_reducible refine And.intro ?_ ?_) | (with_reducible intro _))); all_goals refine R.Lft.mk ?_; (all_goals (try (exact ⟨rfl, R.Own.below (by assumption)⟩))))
theorem wf_byte {n : Int} (h : (Lit.int .u8 n).wf = true) : 0 ≤ n ∧ n < 256 := by
  simp [Lit.wf, IntKind.min, IntKind.max, IntKind.signed, IntKind.bits] at h
  omega
theorem wf_int {n : Int} (h : (Lit.int .i64 n).wf = true) : In64 n := by
  have h1 := bounds_i64 h
  unfold In64; omega
set_option maxRecDepth 100000 in
theorem walk_SaveNums {H : Type} {enc : TypeId × Value → H} (W : World) (base : Nat) (args : Array Value) (ds : List (DataW H)) (ps : List MemPlace) (hA : DataW.TrodAll enc Try.prog W 0 (fun _ => true) true [60, 3] args.toList ds ps)
    (hval : ∀ (j : Nat) t v, #[60, 3][j]? = some t → args[j]? = some v → Value.okWide Try.prog W .any base t v) :
    Calls Try.prog 7 args W fun e W' => e = .returned (.bool true) ∧ Below W.heap.size W W' := by
  obtain ⟨v0, v1, d0, d1, p0, p1, rfl, rfl, _, h0, h1⟩ := trodAll_two hA
  obtain ⟨z0, q0, g0, a0, b0⟩ := R.open_arg (hval 0 60 v0 rfl rfl) h0
  obtain ⟨z1, q1, g1, a1, b1⟩ := R.open_arg (hval 1 3 v1 rfl rfl) h1
  obtain rfl := b0 (by kernel_rfl) _ rfl
  obtain rfl := b1 (by kernel_rfl) _ rfl
  exact saveNums_any z0.A z0.n z0.c z0.L z1 W g0.1 g0.2.1 g0.2.2.1.1 (fun x hx => wf_byte (g0.2.2.2 x hx)) (wf_int g1)
end Go.Proofs.Ytmmfndmfibbhcaa
