/- net.May: the same as snicketref15.May. -/
import Derived.Test.YtiebimdjdmogkaaNm
import Derived.Test.YtiebimdjdmogkaaBw
namespace Go.Proofs.Ytiebimdjdmogkaa
open Go.RowKit
open R (In64 InU64 lo64 nth)

theorem nodesB_of {x : Nt} (hl : x.s.n = x.s.L.length) (h : nodesB x.s.L = true) : ∀ i, i < x.s.n → nodeP x.s.L i := by
  have := @of_decide_eq_true _ (Classical.propDecidable _) h
  rw [hl]
  exact this
theorem cmpZ_ge {a b c d : Int} : 0 ≤ orI (cmpZ a b) (cmpZ c d) ↔ ¬ (a < b ∨ a = b ∧ c < d) := by
  unfold orI
  rcases Int.lt_trichotomy a b with h | h | h
  · rw [cmpZ_lt h]
    simp [h]
  · subst h
    rw [cmpZ_self]
    rcases Int.lt_trichotomy c d with g | g | g
    · rw [cmpZ_lt g]; simp [g]
    · subst g; rw [cmpZ_self]; simp
    · rw [cmpZ_gt g]; simp; omega
  · rw [cmpZ_gt h]
    simp
    omega
theorem wt_t {v : Int} {p : Prop} (h : weightP v) (g : (!(decide (0 ≤ v) && decide (v ≤ 2147483648))) = true) : p := by
  obtain ⟨h1, h2⟩ := h
  rw [decide_eq_true h1, decide_eq_true h2] at g
  cases g
theorem wt_f {v : Int} (g : (!(decide (0 ≤ v) && decide (v ≤ 2147483648))) = false) : weightP v := by
  simpa [weightP] using g
attribute [local irreducible] W512 cmpS mayS cS cR cSp cW orI cmpZ in
set_option maxHeartbeats 4000000 in
theorem netmay_any (x : Nt) (w : World) (hG : GNt w x) : Calls Try.prog 28 #[.agg (cNt x).toArray] w fun e w' => e = .returned (.bool (netB x)) ∧ Below w.heap.size w w' := by
  have hM := R.Own.start [] w
  have hL := hG.lasts
  obtain ⟨⟨s1, s2, s3, -⟩, ⟨e1, e2, e3, -⟩, p1, p2, p3, p4⟩ := hG
  by_cases hs : x.s.n ≤ 200000 ∧ x.e.n ≤ 200000 ∧ x.p.n ≤ 200000
  · obtain ⟨hs1, hs2, hs3⟩ := hs
    refine R.calls_of_WC (fn := Try.f28) Try.func28 rfl Try.ntmps28 (Nat.le_of_ble_eq_true rfl) ?_
    (refine R.stepV ?_; (repeat' (first | (with_reducible refine And.intro ?_ ?_) | (with_reducible intro _))); all_goals refine R.Lft.mk ?_)
    rename_i g w1 hM
    refine R.WO_call1 rfl rfl R.vv ?_
    refine (nodes_any x.s.A x.s.n x.s.c x.s.L _ (hM.inpIn s1) s2 (by omega)).mono ?_
    rintro _ w2 ⟨rfl, hb2⟩
    have hM := hM.call hb2
    refine ⟨_, rfl, ?_⟩
    cases hn : nodesB x.s.L with
    | false =>
      rw [netB_f fun q => by rw [nodesB_t (by rw [← s2]; exact q.2.2.2.1)] at hn; cases hn]
      (refine R.stepV ?_; (repeat' (first | (with_reducible refine And.intro ?_ ?_) | (with_reducible intro _))); all_goals refine R.Lft.mk ?_; (all_goals (try (exact ⟨rfl, R.Own.below (by assumption)⟩))))
    | true =>
      have hall := nodesB_of s2 hn
      (refine R.stepV ?_; (repeat' (first | (with_reducible refine And.intro ?_ ?_) | (with_reducible intro _))); all_goals refine R.Lft.mk ?_)
      refine R.WC_loop (fun k : Nat => [(1, .pointer (some ⟨g, 0, none⟩)), (2, .bool false), (28, .slice x.e.A x.e.n x.e.c), (29, .int .i64 (x.e.n : Nat)), (30, .int .i64 (k : Nat))])
        (fun k w2 => k ≤ x.e.n ∧ (∀ i, i < k → edgeP x.s.n x.e.L i) ∧ R.Own [] w w2 [.blk g 43 (cNt x)]) (fun k => x.e.n - k) ⟨0, ⟨rfl, rfl, rfl, rfl, rfl, trivial⟩, by omega, fun i hi => absurd hi (Nat.not_lt_zero _), by assumption⟩ ?_
      clear hM
      rintro k f w2 ⟨hk, halE, hM⟩
      by_cases hlt : k < x.e.n
      · have e : (((k : Nat) : Int) - 1).toNat = k - 1 := by omega
        (refine R.stepU ?_; (repeat' (first | (with_reducible refine And.intro ?_ ?_) | (with_reducible intro _))); all_goals refine R.Lft.mk ?_)
        refine R.WC_planO [(0, false), (1, false), (2, false), (3, false), (4, false), (5, false), (6, false), (7, false), (8, false), (9, false), (10, false), (11, false), (12, false), (13, false), (14, false), (15, false), (16, false), (17, false), (18, false), (19, false), (20, false), (21, true), (22, false), (23, false), (24, false), (25, false), (26, false), (27, false), (28, false), (29, false), (30, false), (31, false), (32, false), (33, false), (34, false), (35, false), (36, false), (37, false), (38, false), (39, false), (40, false), (41, false), (42, false), (43, false), (45, false), (44, true), (46, true), (47, true), (48, false), (49, false), (50, false)] R.mixed (by decide +kernel) R.ohm ?_
        (refine R.stepU ?_; (repeat' (first | (with_reducible refine And.intro ?_ ?_) | (with_reducible intro _))); all_goals refine R.Lft.mk ?_)
        all_goals first
          | (refine ⟨?_, R.Own.below (by assumption)⟩
             rw [netB_f (fun q => by
               have q := q.2.2.2.2.1 k hlt
               unfold edgeP ltE at q
               obtain ⟨q1, q2, q3, q4, q5, q6⟩ := q
               first
               | omega
               | exact wt_t q4 (by assumption)
               | (rcases q5 with q | q
                  · exact nbt_ q (by assumption)
                  · exact nbt_ q (by assumption))
               | (have h : 0 ≤ orI (cmpZ (nth x.e.L (((k : Nat) : Int) - 1).toNat).a (nth x.e.L k).a) (cmpZ (nth x.e.L (((k : Nat) : Int) - 1).toNat).b (nth x.e.L k).b) := by assumption
                  rw [e] at h
                  exact cmpZ_ge.1 h (q6 (by omega))))])
          | (refine ⟨k + 1, ⟨rfl, rfl, rfl, rfl, R.viaI rfl (by omega), trivial⟩, ⟨by omega, edge_next halE ⟨by omega, by omega, by omega, wt_f (by assumption), by first | exact .inl (nbf_ (by assumption)) | exact .inr (nbf_ (by assumption)), fun _ => ?_⟩, R.Own.tl (by assumption)⟩, by omega⟩
             first
             | (exfalso; omega)
             | (have h : ¬ 0 ≤ orI (cmpZ (nth x.e.L (((k : Nat) : Int) - 1).toNat).a (nth x.e.L k).a) (cmpZ (nth x.e.L (((k : Nat) : Int) - 1).toNat).b (nth x.e.L k).b) := by assumption
                rw [e, cmpZ_ge] at h
                unfold ltE
                omega))
      · obtain rfl : k = x.e.n := by omega
        (refine R.stepV ?_; (repeat' (first | (with_reducible refine And.intro ?_ ?_) | (with_reducible intro _))); all_goals refine R.Lft.mk ?_)
        refine R.WO_call2 rfl rfl R.vv R.vv ?_
        have hcl : ∀ w', R.Own [] w w' [.blk g 43 (cNt x)] → g < w'.heap.size ∧ w'.cell? ((⟨g, 0, none⟩ : Addr).add 1) = some (.slice x.e.A x.e.n x.e.c) := fun w' h => ⟨R.Own.lt h (.head _) rfl, by
          have h0 : w'.heap[g]? = some (.cells (cNt x).toArray 43 (0, 0)) := h.ok _ (.head _)
          simp [World.cell?, Addr.add, h0, cNt]⟩
        refine (containsFunc_Pcs x.p.A x.p.n x.p.c x.p.L 39 [.pointer (some ⟨g, 0, none⟩)] (fun l => l.L.any (pieceB x.e.n)) _ (hM.inpIn p1) p2 (by omega) (fun l w5 hl hb5 => ?_)).mono ?_
        · have h5 := hcl w5 (hM.call hb5)
          exact pcs_any l x.e.A x.e.n x.e.c g w5 h5.1 h5.2 (GSl_now (hM.call hb5) (fun _ h => h) (p4 l hl))
        rintro _ w5 ⟨rfl, hb5⟩
        have hM := hM.call hb5
        refine ⟨_, rfl, ?_⟩
        (refine R.stepV ?_; (repeat' (first | (with_reducible refine And.intro ?_ ?_) | (with_reducible intro _))); all_goals refine R.Lft.mk ?_)
        refine ⟨?_, R.Own.below (by assumption)⟩
        cases ha : x.p.L.any fun l => l.L.any (pieceB x.e.n) with
        | true =>
          rw [netB_f fun q => ?_]
          · rfl
          obtain ⟨l, hl, ha⟩ := List.any_eq_true.1 ha
          obtain ⟨p, hp, ha⟩ := List.any_eq_true.1 ha
          rw [q.2.2.2.2.2 l hl p hp] at ha
          cases ha
        | false =>
          rw [netB_t ⟨hs1, hs2, hs3, hall, halE, fun l hl p hp => ?_⟩]
          · rfl
          have := List.any_eq_false.1 ha l hl
          rw [Bool.not_eq_true, List.any_eq_false] at this
          simpa using this p hp
  · rw [netB_f fun q => hs ⟨q.1, q.2.1, q.2.2.1⟩]
    refine R.calls_of_WC (fn := Try.f28) Try.func28 rfl Try.ntmps28 (Nat.le_of_ble_eq_true rfl) ?_
    (refine R.stepV ?_; (repeat' (first | (with_reducible refine And.intro ?_ ?_) | (with_reducible intro _))); all_goals refine R.Lft.mk ?_)
    all_goals first
      | exact ⟨rfl, R.Own.below (by assumption)⟩
      | (exfalso; omega)
instance con_netmay (x : Nt) : R.ConB Try.prog 28 #[.agg (cNt x).toArray] Unit (fun _ w => GNt w x) (fun _ => .bool (netB x)) := ⟨fun _ w h => netmay_any x w h⟩
theorem netB_e {x : Nt} (h : netB x = true) : x.e.n ≤ 200000 := (netB_iff.1 h).2.1
/-- Ways of a net that may be. -/
noncomputable def wayN (x : Nt) (v : Int) : Bool := netB x && wayB x v
noncomputable def folN (x : Nt) (v u : Int) : Bool := netB x && folB x v u
theorem wayN_f {x : Nt} {v : Int} (h : netB x = false) : wayN x v = false := by unfold wayN; rw [h]; rfl
theorem wayN_t {x : Nt} {v : Int} (h : netB x = true) : wayN x v = wayB x v := by unfold wayN; rw [h]; rfl
theorem folN_f {x : Nt} {v u : Int} (h : netB x = false) : folN x v u = false := by unfold folN; rw [h]; rfl
theorem folN_t {x : Nt} {v u : Int} (h : netB x = true) : folN x v u = folB x v u := by unfold folN; rw [h]; rfl
noncomputable def endsN (x : Nt) (v : Int) : Int × Int := if wayN x v then (tailV x v, headV x v) else (0, 0)
end Go.Proofs.Ytiebimdjdmogkaa
