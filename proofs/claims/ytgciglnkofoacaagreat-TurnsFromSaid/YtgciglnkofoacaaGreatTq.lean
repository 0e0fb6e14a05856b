/- Turns: what may be taken, in plain Lean. Turns: edges at a node, ways, what follows, what may be taken. -/
import Derived.Test.YtgciglnkofoacaaGreatTb
namespace Go.Proofs.YtgciglnkofoacaaGreat
open Go.RowKit
open R (In64 InU64 lo64 nth)

def banB (L : List Bn) (v w : Int) : Bool := L.any fun b => !b.only && (decide (b.frm = v) && decide (b.to = w))
def forB (L : List Bn) (v w : Int) : Bool := L.any fun b => b.only && (decide (b.frm = v) && decide (b.to = w))
def someB (L : List Bn) (v : Int) : Bool := L.any fun b => b.only && decide (b.frm = v)
def cntI (E : List Ed) (v : Int) : Nat → Nat
  | 0 => 0
  | k + 1 => cntI E v k + (if (nth E k).a = v ∨ (nth E k).b = v then 1 else 0)
theorem cntI_le (E : List Ed) (v : Int) : ∀ k, cntI E v k ≤ k
  | 0 => Nat.le_refl _
  | k + 1 => by
    have := cntI_le E v k
    unfold cntI
    split <;> omega
theorem cntI_t {E : List Ed} {v : Int} {k : Nat} (h : (nth E k).a = v ∨ (nth E k).b = v) : cntI E v (k + 1) = cntI E v k + 1 := by
  show cntI E v k + _ = _
  rw [if_pos h]
theorem cntI_f {E : List Ed} {v : Int} {k : Nat} (h1 : ¬ (nth E k).a = v) (h2 : ¬ (nth E k).b = v) : cntI E v (k + 1) = cntI E v k := by
  show cntI E v k + _ = _
  rw [if_neg (by omega), Nat.add_zero]
def dieB (x : Nt) (r : Rl) (v : Int) : Bool := decide (r.p = 2) || (decide (r.p = 1) && decide (cntI x.e.L (headV x v) x.e.n = 1))
def turnB (x : Nt) (r : Rl) (v w : Int) : Bool := if banB r.b.L v w then false else if someB r.b.L v then forB r.b.L v w else if w = aboutV v then dieB x r v else true
def takeB (x : Nt) (r : Rl) (v w : Int) : Bool := folB x v w && turnB x r v w
theorem forB_some {L : List Bn} {v w : Int} (h : forB L v w = true) : someB L v = true := by
  unfold forB at h
  unfold someB
  obtain ⟨b, hb, h⟩ := List.any_eq_true.1 h
  refine List.any_eq_true.2 ⟨b, hb, ?_⟩
  simp at h
  simp [h.1, h.2.1]
theorem any_snoc {T : Type} [Inhabited T] {L : List T} {k : Nat} (p : T → Bool) (h : k < L.length) : (L.take (k + 1)).any p = ((L.take k).any p || p (nth L k)) := by
  rw [take_snoc h, List.any_append]
  simp
/-- Ways that follow and lie on one edge are about. -/
theorem fol_about {x : Nt} {v w : Int} (hn : netB x = true) (hf : folB x v w = true) : v / 2 = w / 2 ↔ w = aboutV v := by
  unfold folB at hf
  rw [Bool.and_eq_true, Bool.and_eq_true] at hf
  obtain ⟨h1, h2, h3⟩ := hf
  have h3 := of_decide_eq_true h3
  obtain ⟨a1, a2, a3⟩ := wayB_of h1
  obtain ⟨c1, c2, c3⟩ := wayB_of h2
  have he := (netB_iff.1 hn).2.2.2.2.1 (v / 2).toNat (by omega)
  have hab := he.2.1
  unfold aboutV
  rw [if_neg (by omega)]
  constructor
  · intro h
    have hne : v ≠ w := by
      rintro rfl
      unfold headV tailV edW at h3
      split at h3 <;> omega
    split <;> omega
  · intro h
    split at h <;> omega
theorem take_ref {x : Nt} {r : Rl} {v w : Int} (hn : netB x = true) (hf : folB x v w = true) : turnB x r v w = if banB r.b.L v w = true ∨ (someB r.b.L v = true ∧ forB r.b.L v w = false) then false else if v / 2 ≠ w / 2 ∨ forB r.b.L v w = true then true else dieB x r v := by
  have ha := fol_about hn hf
  unfold turnB
  cases h1 : banB r.b.L v w with
  | true => simp
  | false =>
    cases h3 : forB r.b.L v w with
    | true => rw [forB_some h3]; simp
    | false =>
      cases h2 : someB r.b.L v with
      | true => simp
      | false =>
        by_cases h : w = aboutV v
        · rw [if_neg (by simp), if_neg (by simp), if_pos h, if_neg (by simp), if_neg (by simp [ha.2 h])]
        · rw [if_neg (by simp), if_neg (by simp), if_neg h, if_neg (by simp), if_pos (.inl fun g => h (ha.1 g))]
/-- The ways that are meant, rising. -/
def upL (m : Nat) (p : Int → Bool) : List Int := ((List.range m).map fun i => ((i : Nat) : Int)).filter p
theorem upL_t {m : Nat} {p : Int → Bool} (h : p (m : Nat) = true) : upL (m + 1) p = upL m p ++ [((m : Nat) : Int)] := by
  unfold upL
  rw [List.range_succ, List.map_append, List.filter_append]
  simp [h]
theorem upL_f {m : Nat} {p : Int → Bool} (h : p (m : Nat) = false) : upL (m + 1) p = upL m p := by
  unfold upL
  rw [List.range_succ, List.map_append, List.filter_append]
  simp [h]
theorem upL_len (m : Nat) (p : Int → Bool) : (upL m p).length ≤ m := by
  unfold upL
  refine Nat.le_trans (List.length_filter_le _ _) ?_
  simp
theorem upL_mem {m : Nat} {p : Int → Bool} {v : Int} : v ∈ upL m p ↔ 0 ≤ v ∧ v < m ∧ p v = true := by
  unfold upL
  rw [List.mem_filter, List.mem_map]
  constructor
  · rintro ⟨⟨i, hi, rfl⟩, h⟩
    have := List.mem_range.1 hi
    exact ⟨by omega, by omega, h⟩
  · rintro ⟨h1, h2, h⟩
    exact ⟨⟨v.toNat, List.mem_range.2 (by omega), by omega⟩, h⟩
theorem upL_none (m : Nat) {p : Int → Bool} (h : ∀ v, p v = false) : upL m p = [] := by
  unfold upL
  rw [List.filter_eq_nil_iff]
  intro a _
  rw [h a]
  decide
theorem take_range {x : Nt} {r : Rl} {v w : Int} (h : takeB x r v w = true) : (0 ≤ v ∧ v < (2 * x.e.n : Nat)) ∧ 0 ≤ w ∧ w < (2 * x.e.n : Nat) := by
  unfold takeB folB at h
  rw [Bool.and_eq_true, Bool.and_eq_true, Bool.and_eq_true] at h
  obtain ⟨a1, a2, _⟩ := wayB_of h.1.1
  obtain ⟨c1, c2, _⟩ := wayB_of h.1.2.1
  omega
noncomputable def mayT (x : Nt) (r : Rl) (v w : Int) : Bool := rulesB x r && takeB x r v w
noncomputable def fromL (x : Nt) (r : Rl) (v : Int) : List Int := upL (2 * x.e.n) fun w => mayT x r v w
noncomputable def intoL (x : Nt) (r : Rl) (w : Int) : List Int := upL (2 * x.e.n) fun v => mayT x r v w
end Go.Proofs.YtgciglnkofoacaaGreat
namespace Go.Proofs.YtgciglnkofoacaaGreat
open Go.RowKit
open R (In64 InU64 lo64 nth)

section
variable (x : Nt) (w : World) (hG : GNt w x)
include hG
theorem tedges_any (v : Int) : Calls Tryz.prog 42 #[.agg (cNt x).toArray, .int .i64 v] w fun e w' => e = .returned (.int .i64 ((cntI x.e.L v x.e.n : Nat) : Int)) ∧ Below w.heap.size w w' := by
  have hM := R.Own.start [] w
  obtain ⟨-, ⟨e1, e2, e3, -⟩, -⟩ := hG
  refine R.calls_of_WC (fn := Tryz.f42) Tryz.func42 rfl Tryz.ntmps42 (Nat.le_of_ble_eq_true rfl) ?_
  (refine R.stepV ?_; (repeat' (first | (with_reducible refine And.intro ?_ ?_) | (with_reducible intro _))); all_goals refine R.Lft.mk ?_)
  rename_i hM
  refine R.WC_loop (fun k : Nat => [(1, .int .i64 v), (4, .int .i64 0), (5, .int .i64 ((cntI x.e.L v k : Nat) : Int)), (9, .slice x.e.A x.e.n x.e.c), (10, .int .i64 (x.e.n : Nat)), (11, .int .i64 (k : Nat))])
    (fun k w2 => k ≤ x.e.n ∧ R.Own [] w w2 []) (fun k => x.e.n - k) ⟨0, ⟨rfl, rfl, rfl, rfl, rfl, rfl, trivial⟩, by omega, hM.nul⟩ ?_
  clear hM
  rintro k f w2 ⟨hk, hM⟩
  by_cases hlt : k < x.e.n
  · have hc := cntI_le x.e.L v k
    (refine R.stepV ?_; (repeat' (first | (with_reducible refine And.intro ?_ ?_) | (with_reducible intro _))); all_goals refine R.Lft.mk ?_)
    all_goals first
      | exact ⟨k + 1, ⟨rfl, rfl, R.viaI rfl (by rw [cntI_t (.inl (by assumption))]; omega), rfl, rfl, R.viaI rfl (by omega), trivial⟩, ⟨by omega, R.Own.nul (by assumption)⟩, by omega⟩
      | exact ⟨k + 1, ⟨rfl, rfl, R.viaI rfl (by rw [cntI_t (.inr (by assumption))]; omega), rfl, rfl, R.viaI rfl (by omega), trivial⟩, ⟨by omega, R.Own.nul (by assumption)⟩, by omega⟩
      | exact ⟨k + 1, ⟨rfl, rfl, R.viaI rfl (by rw [cntI_f (by assumption) (by assumption)]), rfl, rfl, R.viaI rfl (by omega), trivial⟩, ⟨by omega, R.Own.nul (by assumption)⟩, by omega⟩
  · obtain rfl : k = x.e.n := by omega
    (refine R.stepV ?_; (repeat' (first | (with_reducible refine And.intro ?_ ?_) | (with_reducible intro _))); all_goals refine R.Lft.mk ?_; (all_goals (try (exact ⟨rfl, R.Own.below (by assumption)⟩))))
theorem redges_any (v : Int) : Calls Tryz.prog 12 #[.agg (cNt x).toArray, .int .i64 v] w fun e w' => e = .returned (.int .i64 ((cntI x.e.L v x.e.n : Nat) : Int)) ∧ Below w.heap.size w w' := by
  have hM := R.Own.start [] w
  obtain ⟨-, ⟨e1, e2, e3, -⟩, -⟩ := hG
  refine R.calls_of_WC (fn := Tryz.f12) Tryz.func12 rfl Tryz.ntmps12 (Nat.le_of_ble_eq_true rfl) ?_
  (refine R.stepV ?_; (repeat' (first | (with_reducible refine And.intro ?_ ?_) | (with_reducible intro _))); all_goals refine R.Lft.mk ?_)
  rename_i g _ hM
  refine R.WC_loop (fun k : Nat => [(1, .int .i64 v), (2, .pointer (some ⟨g, 0, none⟩)), (4, .int .i64 0), (5, .int .i64 ((cntI x.e.L v k : Nat) : Int)), (6, .int .i64 (k : Nat))])
    (fun k w2 => k ≤ x.e.n ∧ R.Own [] w w2 [.blk g 26 (cNt x)]) (fun k => x.e.n - k) ⟨0, ⟨rfl, rfl, rfl, rfl, rfl, trivial⟩, by omega, hM⟩ ?_
  clear hM
  rintro k f w2 ⟨hk, hM⟩
  by_cases hlt : k < x.e.n
  · have hc := cntI_le x.e.L v k
    (refine R.stepV ?_; (repeat' (first | (with_reducible refine And.intro ?_ ?_) | (with_reducible intro _))); all_goals refine R.Lft.mk ?_)
    all_goals first
      | exact ⟨k + 1, ⟨rfl, rfl, rfl, R.viaI rfl (by rw [cntI_t (.inl (by assumption))]; omega), R.viaI rfl (by omega), trivial⟩, ⟨by omega, by assumption⟩, by omega⟩
      | exact ⟨k + 1, ⟨rfl, rfl, rfl, R.viaI rfl (by rw [cntI_t (.inr (by assumption))]; omega), R.viaI rfl (by omega), trivial⟩, ⟨by omega, by assumption⟩, by omega⟩
      | exact ⟨k + 1, ⟨rfl, rfl, rfl, R.viaI rfl (by rw [cntI_f (by assumption) (by assumption)]), R.viaI rfl (by omega), trivial⟩, ⟨by omega, by assumption⟩, by omega⟩
  · obtain rfl : k = x.e.n := by omega
    (refine R.stepV ?_; (repeat' (first | (with_reducible refine And.intro ?_ ?_) | (with_reducible intro _))); all_goals refine R.Lft.mk ?_; (all_goals (try (exact ⟨rfl, R.Own.below (by assumption)⟩))))
end
instance con_tedges (x : Nt) (v : Int) : R.ConB Tryz.prog 42 #[.agg (cNt x).toArray, .int .i64 v] Unit (fun _ w => GNt w x) (fun _ => .int .i64 ((cntI x.e.L v x.e.n : Nat) : Int)) := ⟨fun _ w h => tedges_any x w h v⟩
instance con_redges (x : Nt) (v : Int) : R.ConB Tryz.prog 12 #[.agg (cNt x).toArray, .int .i64 v] Unit (fun _ w => GNt w x) (fun _ => .int .i64 ((cntI x.e.L v x.e.n : Nat) : Int)) := ⟨fun _ w h => redges_any x w h v⟩
/-- A way's ends, where there may be one. -/
def inW (x : Nt) (v : Int) : Prop := 0 ≤ v ∧ v / 2 < x.e.n
instance dec_inW (x : Nt) (v : Int) : Decidable (inW x v) := by unfold inW; infer_instance
instance con_tway (x : Nt) (v : Int) : R.ConB Tryz.prog 43 #[.agg (cNt x).toArray, .int .i64 v] Unit (fun _ w => GNt w x ∧ In64 v) (fun _ => .tuple #[.int .i64 (if inW x v then tailV x v else 0), .int .i64 (if inW x v then headV x v else 0), .bool (wayB x v)]) := ⟨fun _ w ⟨⟨_, ⟨h1, h2, h3, _⟩, _⟩, hv⟩ => by
  have hM := R.Own.start [] w
  unfold In64 at hv
  by_cases hi : inW x v
  · obtain ⟨k0, k1⟩ := hi
    rw [if_pos ⟨k0, k1⟩, if_pos ⟨k0, k1⟩]
    refine R.calls_of_WC (fn := Tryz.f43) Tryz.func43 rfl Tryz.ntmps43 (Nat.le_of_ble_eq_true rfl) ?_
    (refine R.stepV ?_; (repeat' (first | (with_reducible refine And.intro ?_ ?_) | (with_reducible intro _))); all_goals refine R.Lft.mk ?_)
    · have h : ¬ v % 2 = 0 := by omega
      refine ⟨?_, R.Own.below (by assumption)⟩
      unfold tailV headV edW
      rw [if_neg h, if_neg h, wbk (by omega) (by omega) h]
    · have h : v % 2 = 0 := by omega
      refine ⟨?_, R.Own.below (by assumption)⟩
      unfold tailV headV edW
      rw [if_pos h, if_pos h, wbf (by omega) (by omega) h]
  · rw [if_neg hi, if_neg hi]
    unfold inW at hi
    refine R.calls_of_WC (fn := Tryz.f43) Tryz.func43 rfl Tryz.ntmps43 (Nat.le_of_ble_eq_true rfl) ?_
    (refine R.stepV ?_; (repeat' (first | (with_reducible refine And.intro ?_ ?_) | (with_reducible intro _))); all_goals refine R.Lft.mk ?_)
    all_goals first
      | (exfalso; omega)
      | (refine ⟨?_, R.Own.below (by assumption)⟩
         first
          | rw [wb0 (by assumption)]
          | rw [wb1 (by omega)])⟩
theorem inW_of {x : Nt} {v : Int} (h : wayB x v = true) : inW x v := ⟨(wayB_of h).1, (wayB_of h).2.1⟩
attribute [local irreducible] wayB tailV headV inW in
instance con_tfol (x : Nt) (v u : Int) : R.ConB Tryz.prog 39 #[.agg (cNt x).toArray, .int .i64 v, .int .i64 u] Unit (fun _ w => GNt w x ∧ In64 v ∧ In64 u) (fun _ => .bool (folB x v u)) := ⟨fun _ w ⟨hG, hv, hu⟩ => by
  have hM := R.Own.start [] w
  have hL := hG.lasts
  cases h1 : wayB x v with
  | false =>
    rw [folB_v h1]
    refine R.calls_of_WC (fn := Tryz.f39) Tryz.func39 rfl Tryz.ntmps39 (Nat.le_of_ble_eq_true rfl) ?_
    (refine R.stepV ?_; (repeat' (first | (with_reducible refine And.intro ?_ ?_) | (with_reducible intro _))); all_goals refine R.Lft.mk ?_)
    all_goals first
      | exact ⟨rfl, R.Own.below (by assumption)⟩
      | exact bbw_t (by assumption) h1
      | exact bbw_t h1 (by assumption)
  | true =>
    cases h2 : wayB x u with
    | false =>
      rw [folB_w h2]
      refine R.calls_of_WC (fn := Tryz.f39) Tryz.func39 rfl Tryz.ntmps39 (Nat.le_of_ble_eq_true rfl) ?_
      (refine R.stepV ?_; (repeat' (first | (with_reducible refine And.intro ?_ ?_) | (with_reducible intro _))); all_goals refine R.Lft.mk ?_)
      all_goals first
        | exact ⟨rfl, R.Own.below (by assumption)⟩
        | exact bbw_t (by assumption) h2
        | exact bbw_t h1 (by assumption)
    | true =>
      rw [folB_t h1 h2]
      have e1 : (if inW x v then headV x v else 0) = headV x v := if_pos (inW_of h1)
      have e2 : (if inW x u then tailV x u else 0) = tailV x u := if_pos (inW_of h2)
      refine R.calls_of_WC (fn := Tryz.f39) Tryz.func39 rfl Tryz.ntmps39 (Nat.le_of_ble_eq_true rfl) ?_
      (refine R.stepV ?_; (repeat' (first | (with_reducible refine And.intro ?_ ?_) | (with_reducible intro _))); all_goals refine R.Lft.mk ?_)
      all_goals first
        | exact ⟨by rw [e1, e2], R.Own.below (by assumption)⟩
        | exact bbw_t h1 (by assumption)
        | exact bbw_t h2 (by assumption)⟩
/-- slices.Contains of bans. -/
theorem indexBn (A : Option Addr) (n c : Nat) (L : List Bn) (t : Bn) (w : World) (hA : R.Inp [] w A n 3 (L.flatMap cBn)) (hn : n = L.length) (hb : n ≤ 9223372036854775807) : Calls Tryz.prog 83 #[.slice A n c, .agg (cBn t).toArray] w fun e w' => (∃ z : Int, e = .returned (.int .i64 z) ∧ decide (0 ≤ z) = decide (t ∈ L)) ∧ Below w.heap.size w w' := by
  have hM := R.Own.start [] w
  refine R.calls_of_WC (fn := Tryz.f83) Tryz.func83 rfl Tryz.ntmps83 (Nat.le_of_ble_eq_true rfl) ?_
  (refine R.stepV ?_; (repeat' (first | (with_reducible refine And.intro ?_ ?_) | (with_reducible intro _))); all_goals refine R.Lft.mk ?_)
  rename_i g _ hM
  refine R.WC_loop (fun k : Nat => [(0, .slice A n c), (3, .pointer (some ⟨g, 0, none⟩)), (4, .int .i64 0), (7, .int .i64 (n : Nat)), (8, .int .i64 (k : Nat))])
    (fun k w1 => k ≤ n ∧ R.Own [] w w1 [.blk g 50 (cBn t)] ∧ ∀ i, i < k → t ≠ nth L i) (fun k => n - k) ⟨0, ⟨rfl, rfl, rfl, rfl, rfl, trivial⟩, by omega, hM, fun i hi => absurd hi (Nat.not_lt_zero _)⟩ ?_
  clear hM
  rintro k f w1 ⟨hk, hM, hall⟩
  by_cases hlt : k < n
  · (refine R.stepV ?_; (repeat' (first | (with_reducible refine And.intro ?_ ?_) | (with_reducible intro _))); all_goals refine R.Lft.mk ?_)
    · rename_i heq
      exact ⟨⟨_, rfl, by rw [decide_eq_true (by omega), decide_eq_true (by rw [heq]; exact R.nth_mem (by omega))]⟩, R.Own.below (by assumption)⟩
    · rename_i hne
      refine ⟨k + 1, ⟨rfl, rfl, rfl, rfl, R.viaI rfl (by omega), trivial⟩, ⟨by omega, by assumption, fun i hi => ?_⟩, by omega⟩
      rcases Nat.lt_or_ge i k with h | h
      · exact hall i h
      · obtain rfl : i = k := by omega
        exact hne
  · obtain rfl : k = n := by omega
    (refine R.stepV ?_; (repeat' (first | (with_reducible refine And.intro ?_ ?_) | (with_reducible intro _))); all_goals refine R.Lft.mk ?_)
    refine ⟨⟨_, rfl, ?_⟩, R.Own.below (by assumption)⟩
    rw [decide_eq_false (by decide), decide_eq_false]
    intro hm
    obtain ⟨q, hq, hqt⟩ := List.getElem_of_mem hm
    rw [← R.nth_eq hq] at hqt
    exact hall q (by omega) hqt.symm
theorem containsBn (A : Option Addr) (n c : Nat) (L : List Bn) (t : Bn) (w : World) (hA : R.Inp [] w A n 3 (L.flatMap cBn)) (hn : n = L.length) (hb : n ≤ 9223372036854775807) : Calls Tryz.prog 59 #[.slice A n c, .agg (cBn t).toArray] w fun e w' => e = .returned (.bool (decide (t ∈ L))) ∧ Below w.heap.size w w' := by
  have hM := R.Own.start [] w
  refine R.calls_of_WC (fn := Tryz.f59) Tryz.func59 rfl Tryz.ntmps59 (Nat.le_of_ble_eq_true rfl) ?_
  (refine R.stepV ?_; (repeat' (first | (with_reducible refine And.intro ?_ ?_) | (with_reducible intro _))); all_goals refine R.Lft.mk ?_)
  rename_i hM
  refine R.WO_call2 rfl rfl R.vv R.vv ?_
  refine (indexBn A n c L t _ (hM.inpIn hA) hn hb).mono ?_
  rintro _ w2 ⟨⟨z, rfl, hz⟩, hb2⟩
  have hM := hM.call hb2
  refine ⟨_, rfl, ?_⟩
  (refine R.stepV ?_; (repeat' (first | (with_reducible refine And.intro ?_ ?_) | (with_reducible intro _))); all_goals refine R.Lft.mk ?_)
  exact ⟨by rw [← hz], R.Own.below (by assumption)⟩
theorem banB_eq {L : List Bn} {v w : Int} : banB L v w = decide ((⟨v, w, false⟩ : Bn) ∈ L) := by
  unfold banB
  rw [Bool.eq_iff_iff, List.any_eq_true, decide_eq_true_iff]
  constructor
  · rintro ⟨b, hb, h⟩
    obtain ⟨b1, b2, b3⟩ := b
    simp at h
    obtain ⟨rfl, rfl, rfl⟩ := h
    exact hb
  · intro h
    exact ⟨_, h, by simp⟩
theorem forB_eq {L : List Bn} {v w : Int} : forB L v w = decide ((⟨v, w, true⟩ : Bn) ∈ L) := by
  unfold forB
  rw [Bool.eq_iff_iff, List.any_eq_true, decide_eq_true_iff]
  constructor
  · rintro ⟨b, hb, h⟩
    obtain ⟨b1, b2, b3⟩ := b
    simp at h
    obtain ⟨rfl, rfl, rfl⟩ := h
    exact hb
  · intro h
    exact ⟨_, h, by simp⟩
end Go.Proofs.YtgciglnkofoacaaGreat
