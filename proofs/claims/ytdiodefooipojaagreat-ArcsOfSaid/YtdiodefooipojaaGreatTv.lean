/- Turns: what may be taken, in plain Lean. Turns: edges at a node, ways, what follows, what may be taken. Turns: what may be taken; the ways that are meant. snicketref18.Take. -/
import Derived.Test.YtdiodefooipojaaGreatTb
namespace Go.Proofs.YtdiodefooipojaaGreat
open Go.RowKit
open R (In64 InU64 lo64 nth)

def banB (L : List Bn) (v w : Int) : Bool := L.any fun b => !b.only && (decide (b.frm = v) && decide (b.to = w))
def forB (L : List Bn) (v w : Int) : Bool := L.any fun b => b.only && (decide (b.frm = v) && decide (b.to = w))
def someB (L : List Bn) (v : Int) : Bool := L.any fun b => b.only && decide (b.frm = v)
def cntI (E : List Ed) (v : Int) : Nat → Nat
  | 0 => 0
  | k + 1 => cntI E v k + (if (nth E k).a = v ∨ (nth E k).b = v then 1 else 0)
theorem cntI_le (E : List Ed) (v : Int) : ∀ k, cntI E v k ≤ k
  | 0 => Nat.le_refl _
  | k + 1 => by
    have := cntI_le E v k
    unfold cntI
    split <;> omega
theorem cntI_t {E : List Ed} {v : Int} {k : Nat} (h : (nth E k).a = v ∨ (nth E k).b = v) : cntI E v (k + 1) = cntI E v k + 1 := by
  show cntI E v k + _ = _
  rw [if_pos h]
theorem cntI_f {E : List Ed} {v : Int} {k : Nat} (h1 : ¬ (nth E k).a = v) (h2 : ¬ (nth E k).b = v) : cntI E v (k + 1) = cntI E v k := by
  show cntI E v k + _ = _
  rw [if_neg (by omega), Nat.add_zero]
def dieB (x : Nt) (r : Rl) (v : Int) : Bool := decide (r.p = 2) || (decide (r.p = 1) && decide (cntI x.e.L (headV x v) x.e.n = 1))
def turnB (x : Nt) (r : Rl) (v w : Int) : Bool := if banB r.b.L v w then false else if someB r.b.L v then forB r.b.L v w else if w = aboutV v then dieB x r v else true
def takeB (x : Nt) (r : Rl) (v w : Int) : Bool := folB x v w && turnB x r v w
theorem forB_some {L : List Bn} {v w : Int} (h : forB L v w = true) : someB L v = true := by
  unfold forB at h
  unfold someB
  obtain ⟨b, hb, h⟩ := List.any_eq_true.1 h
  refine List.any_eq_true.2 ⟨b, hb, ?_⟩
  simp at h
  simp [h.1, h.2.1]
theorem any_snoc {T : Type} [Inhabited T] {L : List T} {k : Nat} (p : T → Bool) (h : k < L.length) : (L.take (k + 1)).any p = ((L.take k).any p || p (nth L k)) := by
  rw [take_snoc h, List.any_append]
  simp
/-- Ways that follow and lie on one edge are about. -/
theorem fol_about {x : Nt} {v w : Int} (hn : netB x = true) (hf : folB x v w = true) : v / 2 = w / 2 ↔ w = aboutV v := by
  unfold folB at hf
  rw [Bool.and_eq_true, Bool.and_eq_true] at hf
  obtain ⟨h1, h2, h3⟩ := hf
  have h3 := of_decide_eq_true h3
  obtain ⟨a1, a2, a3⟩ := wayB_of h1
  obtain ⟨c1, c2, c3⟩ := wayB_of h2
  have he := (netB_iff.1 hn).2.2.2.2.1 (v / 2).toNat (by omega)
  have hab := he.2.1
  unfold aboutV
  rw [if_neg (by omega)]
  constructor
  · intro h
    have hne : v ≠ w := by
      rintro rfl
      unfold headV tailV edW at h3
      split at h3 <;> omega
    split <;> omega
  · intro h
    split at h <;> omega
theorem take_ref {x : Nt} {r : Rl} {v w : Int} (hn : netB x = true) (hf : folB x v w = true) : turnB x r v w = if banB r.b.L v w = true ∨ (someB r.b.L v = true ∧ forB r.b.L v w = false) then false else if v / 2 ≠ w / 2 ∨ forB r.b.L v w = true then true else dieB x r v := by
  have ha := fol_about hn hf
  unfold turnB
  cases h1 : banB r.b.L v w with
  | true => simp
  | false =>
    cases h3 : forB r.b.L v w with
    | true => rw [forB_some h3]; simp
    | false =>
      cases h2 : someB r.b.L v with
      | true => simp
      | false =>
        by_cases h : w = aboutV v
        · rw [if_neg (by simp), if_neg (by simp), if_pos h, if_neg (by simp), if_neg (by simp [ha.2 h])]
        · rw [if_neg (by simp), if_neg (by simp), if_neg h, if_neg (by simp), if_pos (.inl fun g => h (ha.1 g))]
/-- The ways that are meant, rising. -/
def upL (m : Nat) (p : Int → Bool) : List Int := ((List.range m).map fun i => ((i : Nat) : Int)).filter p
theorem upL_t {m : Nat} {p : Int → Bool} (h : p (m : Nat) = true) : upL (m + 1) p = upL m p ++ [((m : Nat) : Int)] := by
  unfold upL
  rw [List.range_succ, List.map_append, List.filter_append]
  simp [h]
theorem upL_f {m : Nat} {p : Int → Bool} (h : p (m : Nat) = false) : upL (m + 1) p = upL m p := by
  unfold upL
  rw [List.range_succ, List.map_append, List.filter_append]
  simp [h]
theorem upL_len (m : Nat) (p : Int → Bool) : (upL m p).length ≤ m := by
  unfold upL
  refine Nat.le_trans (List.length_filter_le _ _) ?_
  simp
theorem upL_mem {m : Nat} {p : Int → Bool} {v : Int} : v ∈ upL m p ↔ 0 ≤ v ∧ v < m ∧ p v = true := by
  unfold upL
  rw [List.mem_filter, List.mem_map]
  constructor
  · rintro ⟨⟨i, hi, rfl⟩, h⟩
    have := List.mem_range.1 hi
    exact ⟨by omega, by omega, h⟩
  · rintro ⟨h1, h2, h⟩
    exact ⟨⟨v.toNat, List.mem_range.2 (by omega), by omega⟩, h⟩
theorem upL_none (m : Nat) {p : Int → Bool} (h : ∀ v, p v = false) : upL m p = [] := by
  unfold upL
  rw [List.filter_eq_nil_iff]
  intro a _
  rw [h a]
  decide
theorem take_range {x : Nt} {r : Rl} {v w : Int} (h : takeB x r v w = true) : (0 ≤ v ∧ v < (2 * x.e.n : Nat)) ∧ 0 ≤ w ∧ w < (2 * x.e.n : Nat) := by
  unfold takeB folB at h
  rw [Bool.and_eq_true, Bool.and_eq_true, Bool.and_eq_true] at h
  obtain ⟨a1, a2, _⟩ := wayB_of h.1.1
  obtain ⟨c1, c2, _⟩ := wayB_of h.1.2.1
  omega
noncomputable def mayT (x : Nt) (r : Rl) (v w : Int) : Bool := rulesB x r && takeB x r v w
noncomputable def fromL (x : Nt) (r : Rl) (v : Int) : List Int := upL (2 * x.e.n) fun w => mayT x r v w
noncomputable def intoL (x : Nt) (r : Rl) (w : Int) : List Int := upL (2 * x.e.n) fun v => mayT x r v w
end Go.Proofs.YtdiodefooipojaaGreat
namespace Go.Proofs.YtdiodefooipojaaGreat
open Go.RowKit
open R (In64 InU64 lo64 nth)

section
variable (x : Nt) (w : World) (hG : GNt w x)
include hG
theorem redges_any (v : Int) : Calls Tryz.prog 30 #[.agg (cNt x).toArray, .int .i64 v] w fun e w' => e = .returned (.int .i64 ((cntI x.e.L v x.e.n : Nat) : Int)) ∧ Below w.heap.size w w' := by
  have hM := R.Own.start [] w
  obtain ⟨-, ⟨e1, e2, e3, -⟩, -⟩ := hG
  refine R.calls_of_WC (fn := Tryz.f30) Tryz.func30 rfl Tryz.ntmps30 (Nat.le_of_ble_eq_true rfl) ?_
  (refine R.stepV ?_; (repeat' (first | (with_reducible refine And.intro ?_ ?_) | (with_reducible intro _))); all_goals refine R.Lft.mk ?_)
  rename_i g _ hM
  refine R.WC_loop (fun k : Nat => [(1, .int .i64 v), (2, .pointer (some ⟨g, 0, none⟩)), (4, .int .i64 0), (5, .int .i64 ((cntI x.e.L v k : Nat) : Int)), (6, .int .i64 (k : Nat))])
    (fun k w2 => k ≤ x.e.n ∧ R.Own [] w w2 [.blk g 26 (cNt x)]) (fun k => x.e.n - k) ⟨0, ⟨rfl, rfl, rfl, rfl, rfl, trivial⟩, by omega, hM⟩ ?_
  clear hM
  rintro k f w2 ⟨hk, hM⟩
  by_cases hlt : k < x.e.n
  · have hc := cntI_le x.e.L v k
    (refine R.stepV ?_; (repeat' (first | (with_reducible refine And.intro ?_ ?_) | (with_reducible intro _))); all_goals refine R.Lft.mk ?_)
    all_goals first
      | exact ⟨k + 1, ⟨rfl, rfl, rfl, R.viaI rfl (by rw [cntI_t (.inl (by assumption))]; omega), R.viaI rfl (by omega), trivial⟩, ⟨by omega, by assumption⟩, by omega⟩
      | exact ⟨k + 1, ⟨rfl, rfl, rfl, R.viaI rfl (by rw [cntI_t (.inr (by assumption))]; omega), R.viaI rfl (by omega), trivial⟩, ⟨by omega, by assumption⟩, by omega⟩
      | exact ⟨k + 1, ⟨rfl, rfl, rfl, R.viaI rfl (by rw [cntI_f (by assumption) (by assumption)]), R.viaI rfl (by omega), trivial⟩, ⟨by omega, by assumption⟩, by omega⟩
  · obtain rfl : k = x.e.n := by omega
    (refine R.stepV ?_; (repeat' (first | (with_reducible refine And.intro ?_ ?_) | (with_reducible intro _))); all_goals refine R.Lft.mk ?_; (all_goals (try (exact ⟨rfl, R.Own.below (by assumption)⟩))))
end
instance con_redges (x : Nt) (v : Int) : R.ConB Tryz.prog 30 #[.agg (cNt x).toArray, .int .i64 v] Unit (fun _ w => GNt w x) (fun _ => .int .i64 ((cntI x.e.L v x.e.n : Nat) : Int)) := ⟨fun _ w h => redges_any x w h v⟩
/-- A way's ends, where there may be one. -/
def inW (x : Nt) (v : Int) : Prop := 0 ≤ v ∧ v / 2 < x.e.n
instance dec_inW (x : Nt) (v : Int) : Decidable (inW x v) := by unfold inW; infer_instance
theorem inW_of {x : Nt} {v : Int} (h : wayB x v = true) : inW x v := ⟨(wayB_of h).1, (wayB_of h).2.1⟩
theorem banB_eq {L : List Bn} {v w : Int} : banB L v w = decide ((⟨v, w, false⟩ : Bn) ∈ L) := by
  unfold banB
  rw [Bool.eq_iff_iff, List.any_eq_true, decide_eq_true_iff]
  constructor
  · rintro ⟨b, hb, h⟩
    obtain ⟨b1, b2, b3⟩ := b
    simp at h
    obtain ⟨rfl, rfl, rfl⟩ := h
    exact hb
  · intro h
    exact ⟨_, h, by simp⟩
theorem forB_eq {L : List Bn} {v w : Int} : forB L v w = decide ((⟨v, w, true⟩ : Bn) ∈ L) := by
  unfold forB
  rw [Bool.eq_iff_iff, List.any_eq_true, decide_eq_true_iff]
  constructor
  · rintro ⟨b, hb, h⟩
    obtain ⟨b1, b2, b3⟩ := b
    simp at h
    obtain ⟨rfl, rfl, rfl⟩ := h
    exact hb
  · intro h
    exact ⟨_, h, by simp⟩
end Go.Proofs.YtdiodefooipojaaGreat
namespace Go.Proofs.YtdiodefooipojaaGreat
open Go.RowKit
open R (In64 InU64 lo64 nth)

theorem cap_ptr (g sz : Nat) : Value.pointer (some ⟨g, 0, none⟩) = R.ptr (some ⟨g, 0, none⟩) 0 sz 0 := by
  rw [R.ptr_some]
  simp [Addr.add]
theorem cap_inp {T : Type} {enc : T → List Value} {F : List Nat} {W w : World} {l : List R.Res} {g sz : Nat} {t : TypeId} {x : T} (h : R.Own F W w l) (hm : .blk g t (enc x) ∈ l) (hn : (enc x).length = sz) : R.Inp [] w (some ⟨g, 0, none⟩) 1 sz ([x].flatMap enc) := by
  have hb := h.ok _ hm
  refine ⟨by simp [hn], fun j v hj => ⟨⟨g, 0, none⟩, rfl, (Array.getElem?_eq_some_iff.1 (show w.heap[g]? = _ from hb)).1, by simp, ?_⟩⟩
  simp at hj
  have := (h.rdBlk (n := 1) (sz := sz) hm (by rw [hn, Nat.one_mul])).2 j v hj
  obtain ⟨a, ha, hv⟩ := this
  cases ha
  exact hv
theorem fol_way {x : Nt} {v u : Int} (h : folB x v u = true) : wayB x v = true ∧ wayB x u = true := by
  unfold folB at h
  rw [Bool.and_eq_true, Bool.and_eq_true] at h
  exact ⟨h.1, h.2.1⟩
theorem take_t {x : Nt} {r : Rl} {v u : Int} (h : folB x v u = true) : takeB x r v u = turnB x r v u := by unfold takeB; rw [h]; rfl
theorem take_f {x : Nt} {r : Rl} {v u : Int} (h : folB x v u = false) : takeB x r v u = false := by unfold takeB; rw [h]; rfl
/-- Whether just one edge ends at a node. -/
noncomputable def deadB (x : Nt) (v : Int) : Bool := netB x && (decide (0 ≤ v) && (decide (v < x.s.n) && decide (cntI x.e.L v x.e.n = 1)))
instance inh_Nt : Inhabited Nt := ⟨⟨⟨none, 0, 0, []⟩, ⟨none, 0, 0, []⟩, ⟨none, 0, 0, []⟩⟩⟩
instance inh_Rl : Inhabited Rl := ⟨⟨⟨none, 0, 0, []⟩, 0⟩⟩
end Go.Proofs.YtdiodefooipojaaGreat
namespace Go.Proofs.YtdiodefooipojaaGreat
open Go.RowKit
open R (In64 InU64 lo64 nth)

theorem banB_step {L : List Bn} {v u : Int} {k : Nat} (h : k < L.length) : banB (L.take (k + 1)) v u = (banB (L.take k) v u || (!(nth L k).only && (decide ((nth L k).frm = v) && decide ((nth L k).to = u)))) := any_snoc _ h
theorem forB_step {L : List Bn} {v u : Int} {k : Nat} (h : k < L.length) : forB (L.take (k + 1)) v u = (forB (L.take k) v u || ((nth L k).only && (decide ((nth L k).frm = v) && decide ((nth L k).to = u)))) := any_snoc _ h
theorem someB_step {L : List Bn} {v : Int} {k : Nat} (h : k < L.length) : someB (L.take (k + 1)) v = (someB (L.take k) v || ((nth L k).only && decide ((nth L k).frm = v))) := any_snoc _ h
attribute [local irreducible] wayB tailV headV inW folB takeB rulesB banB forB someB in
set_option maxHeartbeats 4000000 in
theorem rtake_any (x : Nt) (r : Rl) (v u : Int) (w : World) (hG : GNt w x) (hR : GRl w r) (hv : In64 v) (hu : In64 u) (hb : netB x = true) : Calls Tryz.prog 13 #[.agg (cNt x).toArray, .agg (cRl r).toArray, .int .i64 v, .int .i64 u] w fun e w' => e = .returned (.bool (takeB x r v u)) ∧ Below w.heap.size w w' := by
  have hM := R.Own.start [] w
  have hL := hG.lasts
  have hLR := hR.lasts
  have hn := netB_e hb
  obtain ⟨⟨r1, r2, r3, -⟩, -⟩ := hR
  cases hf : folB x v u with
  | false =>
    rw [take_f hf]
    refine R.calls_of_WC (fn := Tryz.f13) Tryz.func13 rfl Tryz.ntmps13 (Nat.le_of_ble_eq_true rfl) ?_
    (refine R.stepV ?_; (repeat' (first | (with_reducible refine And.intro ?_ ?_) | (with_reducible intro _))); all_goals refine R.Lft.mk ?_)
    all_goals first
      | exact ⟨rfl, R.Own.below (by assumption)⟩
      | exact nbw_f hf (by assumption)
  | true =>
    rw [take_t hf, take_ref hb hf]
    have t3 := (fol_way hf).1
    have ⟨y1, y2, _⟩ := wayB_of t3
    have ⟨z1, z2, _⟩ := wayB_of (fol_way hf).2
    refine R.calls_of_WC (fn := Tryz.f13) Tryz.func13 rfl Tryz.ntmps13 (Nat.le_of_ble_eq_true rfl) ?_
    (refine R.stepV ?_; (repeat' (first | (with_reducible refine And.intro ?_ ?_) | (with_reducible intro _))); all_goals refine R.Lft.mk ?_)
    · exact nbw_t hf (by assumption)
    rename_i g1 _ _ g2 _ _ _ hM _
    refine R.WC_loop (fun j : Nat => [(2, .int .i64 v), (3, .int .i64 u), (4, .pointer (some ⟨g1, 0, none⟩)), (5, .pointer (some ⟨g2, 0, none⟩)), (8, .bool false), (9, .bool (banB (r.b.L.take j) v u)), (10, .bool (forB (r.b.L.take j) v u)), (11, .bool (someB (r.b.L.take j) v)), (12, .int .i64 (j : Nat))])
      (fun j w2 => j ≤ r.b.n ∧ R.Own [] w w2 [.blk g2 29 (cRl r), .blk g1 26 (cNt x)]) (fun j => r.b.n - j) ⟨0, ⟨rfl, rfl, rfl, rfl, rfl, R.viaB rfl (by unfold banB; rfl), R.viaB rfl (by unfold forB; rfl), R.viaB rfl (by unfold someB; rfl), rfl, trivial⟩, by omega, hM⟩ ?_
    clear hM
    rintro j f w2 ⟨hj, hM⟩
    by_cases hlt : j < r.b.n
    · have s1 := banB_step (L := r.b.L) (v := v) (u := u) (k := j) (by omega)
      have s2 := forB_step (L := r.b.L) (v := v) (u := u) (k := j) (by omega)
      have s3 := someB_step (L := r.b.L) (v := v) (k := j) (by omega)
      cases ho : (nth r.b.L j).only with
      | true =>
        (refine R.stepV ?_; (repeat' (first | (with_reducible refine And.intro ?_ ?_) | (with_reducible intro _))); all_goals refine R.Lft.mk ?_)
        all_goals first
          | exact bbw_t ho (by assumption)
          | exact nbw_t ho (by assumption)
          | exact ⟨j + 1, ⟨rfl, rfl, rfl, rfl, rfl, R.viaB rfl (by rw [s1]; simp [*]), R.viaB rfl (by rw [s2]; simp [*]), R.viaB rfl (by rw [s3]; simp [*]), R.viaI rfl (by omega), trivial⟩, ⟨by omega, R.Own.tl (by assumption)⟩, by omega⟩
      | false =>
        (refine R.stepV ?_; (repeat' (first | (with_reducible refine And.intro ?_ ?_) | (with_reducible intro _))); all_goals refine R.Lft.mk ?_)
        all_goals first
          | exact bbw_t (by assumption) ho
          | exact nbw_f ho (by assumption)
          | exact ⟨j + 1, ⟨rfl, rfl, rfl, rfl, rfl, R.viaB rfl (by rw [s1]; simp [*]), R.viaB rfl (by rw [s2]; simp [*]), R.viaB rfl (by rw [s3]; simp [*]), R.viaI rfl (by omega), trivial⟩, ⟨by omega, R.Own.tl (by assumption)⟩, by omega⟩
    · obtain rfl : j = r.b.n := by omega
      have e : r.b.L.take r.b.n = r.b.L := by rw [r2]; exact List.take_length
      rw [e]
      (refine R.stepV ?_; (repeat' (first | (with_reducible refine And.intro ?_ ?_) | (with_reducible intro _))); all_goals refine R.Lft.mk ?_)
      all_goals first
        | exact bbw_t (b := forB r.b.L v u) (nbk_ (by assumption)) (by assumption)
        | (refine ⟨?_, R.Own.below (by assumption)⟩
           simp [*]
           done)
        | (refine ⟨?_, R.Own.below (by assumption)⟩
           simp [*, dieB]
           done)
        | (refine ⟨?_, R.Own.below (by assumption)⟩
           simp [*, dieB]
           omega)
instance con_rtake (x : Nt) (r : Rl) (v u : Int) : R.ConB Tryz.prog 13 #[.agg (cNt x).toArray, .agg (cRl r).toArray, .int .i64 v, .int .i64 u] Unit (fun _ w => GNt w x ∧ GRl w r ∧ In64 v ∧ In64 u ∧ netB x = true) (fun _ => .bool (takeB x r v u)) := ⟨fun _ w h => rtake_any x r v u w h.1 h.2.1 h.2.2.1 h.2.2.2.1 h.2.2.2.2⟩
end Go.Proofs.YtdiodefooipojaaGreat
