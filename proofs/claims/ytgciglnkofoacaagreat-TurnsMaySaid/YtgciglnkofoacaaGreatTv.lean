/- snicketref18.Take. -/
import Derived.Test.YtgciglnkofoacaaGreatTr
namespace Go.Proofs.YtgciglnkofoacaaGreat
open Go.RowKit
open R (In64 InU64 lo64 nth)

theorem banB_step {L : List Bn} {v u : Int} {k : Nat} (h : k < L.length) : banB (L.take (k + 1)) v u = (banB (L.take k) v u || (!(nth L k).only && (decide ((nth L k).frm = v) && decide ((nth L k).to = u)))) := any_snoc _ h
theorem forB_step {L : List Bn} {v u : Int} {k : Nat} (h : k < L.length) : forB (L.take (k + 1)) v u = (forB (L.take k) v u || ((nth L k).only && (decide ((nth L k).frm = v) && decide ((nth L k).to = u)))) := any_snoc _ h
theorem someB_step {L : List Bn} {v : Int} {k : Nat} (h : k < L.length) : someB (L.take (k + 1)) v = (someB (L.take k) v || ((nth L k).only && decide ((nth L k).frm = v))) := any_snoc _ h
attribute [local irreducible] wayB tailV headV inW folB takeB rulesB banB forB someB in
set_option maxHeartbeats 4000000 in
theorem rtake_any (x : Nt) (r : Rl) (v u : Int) (w : World) (hG : GNt w x) (hR : GRl w r) (hv : In64 v) (hu : In64 u) (hb : netB x = true) : Calls Tryz.prog 14 #[.agg (cNt x).toArray, .agg (cRl r).toArray, .int .i64 v, .int .i64 u] w fun e w' => e = .returned (.bool (takeB x r v u)) ∧ Below w.heap.size w w' := by
  have hM := R.Own.start [] w
  have hL := hG.lasts
  have hLR := hR.lasts
  have hn := netB_e hb
  obtain ⟨⟨r1, r2, r3, -⟩, -⟩ := hR
  cases hf : folB x v u with
  | false =>
    rw [take_f hf]
    refine R.calls_of_WC (fn := Tryz.f14) Tryz.func14 rfl Tryz.ntmps14 (Nat.le_of_ble_eq_true rfl) ?_
    (refine R.stepV ?_; (repeat' (first | (with_reducible refine And.intro ?_ ?_) | (with_reducible intro _))); all_goals refine R.Lft.mk ?_)
    all_goals first
      | exact ⟨rfl, R.Own.below (by assumption)⟩
      | exact nbw_f hf (by assumption)
  | true =>
    rw [take_t hf, take_ref hb hf]
    have t3 := (fol_way hf).1
    have ⟨y1, y2, _⟩ := wayB_of t3
    have ⟨z1, z2, _⟩ := wayB_of (fol_way hf).2
    refine R.calls_of_WC (fn := Tryz.f14) Tryz.func14 rfl Tryz.ntmps14 (Nat.le_of_ble_eq_true rfl) ?_
    (refine R.stepV ?_; (repeat' (first | (with_reducible refine And.intro ?_ ?_) | (with_reducible intro _))); all_goals refine R.Lft.mk ?_)
    · exact nbw_t hf (by assumption)
    rename_i g1 _ _ g2 _ _ _ hM _
    refine R.WC_loop (fun j : Nat => [(2, .int .i64 v), (3, .int .i64 u), (4, .pointer (some ⟨g1, 0, none⟩)), (5, .pointer (some ⟨g2, 0, none⟩)), (8, .bool false), (9, .bool (banB (r.b.L.take j) v u)), (10, .bool (forB (r.b.L.take j) v u)), (11, .bool (someB (r.b.L.take j) v)), (12, .int .i64 (j : Nat))])
      (fun j w2 => j ≤ r.b.n ∧ R.Own [] w w2 [.blk g2 29 (cRl r), .blk g1 26 (cNt x)]) (fun j => r.b.n - j) ⟨0, ⟨rfl, rfl, rfl, rfl, rfl, R.viaB rfl (by unfold banB; rfl), R.viaB rfl (by unfold forB; rfl), R.viaB rfl (by unfold someB; rfl), rfl, trivial⟩, by omega, hM⟩ ?_
    clear hM
    rintro j f w2 ⟨hj, hM⟩
    by_cases hlt : j < r.b.n
    · have s1 := banB_step (L := r.b.L) (v := v) (u := u) (k := j) (by omega)
      have s2 := forB_step (L := r.b.L) (v := v) (u := u) (k := j) (by omega)
      have s3 := someB_step (L := r.b.L) (v := v) (k := j) (by omega)
      cases ho : (nth r.b.L j).only with
      | true =>
        (refine R.stepV ?_; (repeat' (first | (with_reducible refine And.intro ?_ ?_) | (with_reducible intro _))); all_goals refine R.Lft.mk ?_)
        all_goals first
          | exact bbw_t ho (by assumption)
          | exact nbw_t ho (by assumption)
          | exact ⟨j + 1, ⟨rfl, rfl, rfl, rfl, rfl, R.viaB rfl (by rw [s1]; simp [*]), R.viaB rfl (by rw [s2]; simp [*]), R.viaB rfl (by rw [s3]; simp [*]), R.viaI rfl (by omega), trivial⟩, ⟨by omega, R.Own.tl (by assumption)⟩, by omega⟩
      | false =>
        (refine R.stepV ?_; (repeat' (first | (with_reducible refine And.intro ?_ ?_) | (with_reducible intro _))); all_goals refine R.Lft.mk ?_)
        all_goals first
          | exact bbw_t (by assumption) ho
          | exact nbw_f ho (by assumption)
          | exact ⟨j + 1, ⟨rfl, rfl, rfl, rfl, rfl, R.viaB rfl (by rw [s1]; simp [*]), R.viaB rfl (by rw [s2]; simp [*]), R.viaB rfl (by rw [s3]; simp [*]), R.viaI rfl (by omega), trivial⟩, ⟨by omega, R.Own.tl (by assumption)⟩, by omega⟩
    · obtain rfl : j = r.b.n := by omega
      have e : r.b.L.take r.b.n = r.b.L := by rw [r2]; exact List.take_length
      rw [e]
      (refine R.stepV ?_; (repeat' (first | (with_reducible refine And.intro ?_ ?_) | (with_reducible intro _))); all_goals refine R.Lft.mk ?_)
      all_goals first
        | exact bbw_t (b := forB r.b.L v u) (nbk_ (by assumption)) (by assumption)
        | (refine ⟨?_, R.Own.below (by assumption)⟩
           simp [*]
           done)
        | (refine ⟨?_, R.Own.below (by assumption)⟩
           simp [*, dieB]
           done)
        | (refine ⟨?_, R.Own.below (by assumption)⟩
           simp [*, dieB]
           omega)
instance con_rtake (x : Nt) (r : Rl) (v u : Int) : R.ConB Tryz.prog 14 #[.agg (cNt x).toArray, .agg (cRl r).toArray, .int .i64 v, .int .i64 u] Unit (fun _ w => GNt w x ∧ GRl w r ∧ In64 v ∧ In64 u ∧ netB x = true) (fun _ => .bool (takeB x r v u)) := ⟨fun _ w h => rtake_any x r v u w h.1 h.2.1 h.2.2.1 h.2.2.2.1 h.2.2.2.2⟩
end Go.Proofs.YtgciglnkofoacaaGreat
