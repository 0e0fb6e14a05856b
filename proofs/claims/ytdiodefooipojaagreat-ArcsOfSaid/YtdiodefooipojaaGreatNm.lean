/- net.May and snicketref15.May. -/
import Derived.Test.YtdiodefooipojaaGreatNt
namespace Go.Proofs.YtdiodefooipojaaGreat
open Go.RowKit
open R (In64 InU64 lo64 nth)

theorem pc_any (p : Pc) (B : Option Addr) (m d g : Nat) (w : World) (hg : g < w.heap.size) (hc : w.cell? ((⟨g, 0, none⟩ : Addr).add 1) = some (.slice B m d)) :
    Calls Tryz.prog 51 ([Value.agg (cPc p).toArray] ++ [Value.pointer (some ⟨g, 0, none⟩)]).toArray w fun e w' => e = .returned (.bool (pieceB m p)) ∧ Below w.heap.size w w' := by
  have hM := R.Own.start [] w
  refine R.calls_of_WC (fn := Tryz.f51) Tryz.func51 rfl Tryz.ntmps51 (Nat.le_of_ble_eq_true rfl) ?_
  (refine R.stepV ?_; (repeat' (first | (with_reducible refine And.intro ?_ ?_) | (with_reducible intro _))); all_goals refine R.Lft.mk ?_)
  · rename_i h
    refine ⟨?_, R.Own.below (by assumption)⟩
    unfold pieceB
    rw [decide_eq_true h]
    rfl
  rename_i hM h
  have hc2 := (hM.below.cell (p := (⟨g, 0, none⟩ : Addr).add 1) hg).trans hc
  (refine R.stepV ?_; (repeat' (first | (with_reducible refine And.intro ?_ ?_) | (with_reducible intro _))); all_goals refine R.Lft.mk ?_)
  · rename_i h2
    refine ⟨?_, R.Own.below (by assumption)⟩
    unfold pieceB
    rw [decide_eq_false h, decide_eq_true h2]
    rfl
  · rename_i h2 _ _
    refine ⟨?_, R.Own.below (by assumption)⟩
    unfold pieceB
    rw [decide_eq_false h, decide_eq_false h2]
    rfl
theorem pcs_any (l : R.Sl Pc) (B : Option Addr) (m d g : Nat) (w : World) (hg : g < w.heap.size) (hc : w.cell? ((⟨g, 0, none⟩ : Addr).add 1) = some (.slice B m d)) (hl : R.GSl cPc 3 GPc w l) :
    Calls Tryz.prog 49 ([Value.slice l.A l.n l.c] ++ [Value.pointer (some ⟨g, 0, none⟩)]).toArray w fun e w' => e = .returned (.bool (l.L.any (pieceB m))) ∧ Below w.heap.size w w' := by
  have hM := R.Own.start [] w
  obtain ⟨h1, h2, h3, -⟩ := hl
  refine R.calls_of_WC (fn := Tryz.f49) Tryz.func49 rfl Tryz.ntmps49 (Nat.le_of_ble_eq_true rfl) ?_
  (refine R.stepV ?_; (repeat' (first | (with_reducible refine And.intro ?_ ?_) | (with_reducible intro _))); all_goals refine R.Lft.mk ?_)
  refine R.WO_call2 rfl rfl R.vv R.vv ?_
  refine (containsFunc_Pc l.A l.n l.c l.L 51 [.pointer (some ⟨g, 0, none⟩)] (pieceB m) _ (hM.inpIn h1) h2 (by omega) (fun x w2 hx hb3 => ?_)).mono ?_
  · exact pc_any x B m d g w2 (Nat.lt_of_lt_of_le hg (hM.call hb3).below.size) (((hM.call hb3).below.cell (p := (⟨g, 0, none⟩ : Addr).add 1) hg).trans hc)
  rintro e w2 ⟨rfl, hb2⟩
  have hM := hM.call hb2
  refine ⟨_, rfl, ?_⟩
  (refine R.stepV ?_; (repeat' (first | (with_reducible refine And.intro ?_ ?_) | (with_reducible intro _))); all_goals refine R.Lft.mk ?_; (all_goals (try (exact ⟨rfl, R.Own.below (by assumption)⟩))))
theorem pieceB_iff {m : Nat} {p : Pc} : pieceB m p = false ↔ ¬ p.e < 0 ∧ ¬ (m : Int) ≤ p.e ∧ 0 ≤ p.w ∧ p.w ≤ 2147483648 := by
  unfold pieceB
  simp
theorem nbt_ {b : Bool} {p : Prop} (hd : b = true) (h : (!b) = true) : p := by rw [hd] at h; cases h
theorem nbf_ {b : Bool} (h : (!b) = false) : b = true := by cases b <;> simp at h ⊢
theorem edge_next {m : Nat} {E : List Ed} {k : Nat} (h : ∀ i, i < k → edgeP m E i) (hk : edgeP m E k) : ∀ i, i < k + 1 → edgeP m E i := fun i hi => by
  rcases Nat.lt_or_ge i k with h1 | h1
  · exact h i h1
  · obtain rfl : i = k := by omega
    exact hk
attribute [local irreducible] W512 cmpS mayS cS cR cSp cW in
set_option maxHeartbeats 4000000 in
theorem may15_any (x : Nt) (w : World) (hG : GNt w x) : Calls Tryz.prog 22 #[.agg (cNt x).toArray] w fun e w' => e = .returned (.bool (netB x)) ∧ Below w.heap.size w w' := by
  have hM := R.Own.start [] w
  obtain ⟨⟨s1, s2, s3, -⟩, ⟨e1, e2, e3, -⟩, p1, p2, p3, p4⟩ := hG
  refine R.calls_of_WC (fn := Tryz.f22) Tryz.func22 rfl Tryz.ntmps22 (Nat.le_of_ble_eq_true rfl) ?_
  (refine R.stepV ?_; (repeat' (first | (with_reducible refine And.intro ?_ ?_) | (with_reducible intro _))); all_goals refine R.Lft.mk ?_)
  rename_i g w1 hM
  refine R.WC_loop (fun k : Nat => [(1, .pointer (some ⟨g, 0, none⟩)), (2, .bool false), (3, .int .i64 (k : Nat))])
    (fun k w2 => k ≤ x.s.n ∧ (∀ i, i < k → nodeP x.s.L i) ∧ R.Own [] w w2 [.blk g 26 (cNt x)]) (fun k => x.s.n - k) ⟨0, ⟨rfl, rfl, rfl, trivial⟩, by omega, fun i hi => absurd hi (Nat.not_lt_zero _), hM⟩ ?_
  clear hM
  rintro k f w2 ⟨hk, hall, hM⟩
  by_cases hlt : k < x.s.n
  · have e : (((k : Nat) : Int) - 1).toNat = k - 1 := by omega
    (refine R.stepU ?_; (repeat' (first | (with_reducible refine And.intro ?_ ?_) | (with_reducible intro _))); all_goals refine R.Lft.mk ?_)
    refine R.WC_planO [(0, false), (1, false), (2, false), (3, false), (4, false), (5, true), (6, false), (7, false), (8, false), (9, false), (10, false), (11, false), (12, false), (13, false), (14, false), (15, false), (16, false), (17, false), (18, false), (19, false), (20, false), (21, false), (22, true), (23, false), (24, false), (25, false)] R.mixed (by decide +kernel) R.ohm ?_
    (refine R.stepU ?_; (repeat' (first | (with_reducible refine And.intro ?_ ?_) | (with_reducible intro _))); all_goals refine R.Lft.mk ?_)
    all_goals first
      | (have h : (!mayS (nth x.s.L k)) = true := by assumption
         rw [netB_f (fun g => by rw [(g.2.2.2.1 k hlt).1] at h; cases h)]
         exact ⟨rfl, R.Own.below (by assumption)⟩)
      | (have h : (!mayS (nth x.s.L k)) = false := by assumption
         have hm : mayS (nth x.s.L k) = true := by simpa using h
         first
         | (have h0 : ¬ 0 < ((k : Nat) : Int) := by assumption
            refine ⟨k + 1, ⟨rfl, rfl, R.viaI rfl (by omega), trivial⟩, ⟨by omega, nodes_next hall ⟨hm, fun g => absurd g (by omega)⟩, by assumption⟩, by omega⟩)
         | (have h0 : 0 < ((k : Nat) : Int) := by assumption
            first
            | (have hc : 0 ≤ cmpS (nth x.s.L (((k : Nat) : Int) - 1).toNat) (nth x.s.L k) := by assumption
               rw [e] at hc
               rw [netB_f (fun g => by have := (g.2.2.2.1 k hlt).2 (by omega); omega)]
               exact ⟨rfl, R.Own.below (by assumption)⟩)
            | (have hc : ¬ 0 ≤ cmpS (nth x.s.L (((k : Nat) : Int) - 1).toNat) (nth x.s.L k) := by assumption
               rw [e] at hc
               refine ⟨k + 1, ⟨rfl, rfl, R.viaI rfl (by omega), trivial⟩, ⟨by omega, nodes_next hall ⟨hm, fun _ => by omega⟩, by assumption⟩, by omega⟩)))
  obtain rfl : k = x.s.n := by omega
  (refine R.stepU ?_; (repeat' (first | (with_reducible refine And.intro ?_ ?_) | (with_reducible intro _))); all_goals refine R.Lft.mk ?_)
  clear hlt hk
  refine R.WC_loop (fun k : Nat => [(1, .pointer (some ⟨g, 0, none⟩)), (2, .bool false), (4, .int .i64 (k : Nat))])
    (fun k w2 => k ≤ x.e.n ∧ (∀ i, i < k → edgeP x.s.n x.e.L i) ∧ R.Own [] w w2 [.blk g 26 (cNt x)]) (fun k => x.e.n - k) ⟨0, ⟨rfl, rfl, rfl, trivial⟩, by omega, fun i hi => absurd hi (Nat.not_lt_zero _), hM⟩ ?_
  clear hM
  rintro k f w2 ⟨hk, halE, hM⟩
  by_cases hlt : k < x.e.n
  · have e : (((k : Nat) : Int) - 1).toNat = k - 1 := by omega
    have ea : (nth x.e.L (((k : Nat) : Int) - 1).toNat).a = (nth x.e.L (k - 1)).a := by rw [e]
    have eb : (nth x.e.L (((k : Nat) : Int) - 1).toNat).b = (nth x.e.L (k - 1)).b := by rw [e]
    (refine R.stepU ?_; (repeat' (first | (with_reducible refine And.intro ?_ ?_) | (with_reducible intro _))); all_goals refine R.Lft.mk ?_)
    all_goals first
      | (refine ⟨?_, R.Own.below (by assumption)⟩
         rw [netB_f (fun q => by
           have q := q.2.2.2.2.1 k hlt
           unfold edgeP weightP ltE at q
           obtain ⟨q1, q2, q3, ⟨q4, q5⟩, q6, q7⟩ := q
           first
           | omega
           | (rcases q6 with q | q
              · exact nbt_ q (by assumption)
              · exact nbt_ q (by assumption)))])
      | exact ⟨k + 1, ⟨rfl, rfl, R.viaI rfl (by omega), trivial⟩, ⟨by omega, edge_next halE ⟨by omega, by omega, by omega, ⟨by omega, by omega⟩, by first | exact .inl (nbf_ (by assumption)) | exact .inr (nbf_ (by assumption)), fun _ => by unfold ltE; omega⟩, R.Own.tl (by assumption)⟩, by omega⟩
  obtain rfl : k = x.e.n := by omega
  (refine R.stepU ?_; (repeat' (first | (with_reducible refine And.intro ?_ ?_) | (with_reducible intro _))); all_goals refine R.Lft.mk ?_)
  clear hlt hk
  refine R.WC_loop (fun k : Nat => [(1, .pointer (some ⟨g, 0, none⟩)), (2, .bool false), (6, .int .i64 (k : Nat))])
    (fun k w2 => k ≤ x.p.n ∧ (∀ i, i < k → ∀ p ∈ (nth x.p.L i).L, pieceB x.e.n p = false) ∧ R.Own [] w w2 [.blk g 26 (cNt x)]) (fun k => x.p.n - k) ⟨0, ⟨rfl, rfl, rfl, trivial⟩, by omega, fun i hi => absurd hi (Nat.not_lt_zero _), hM⟩ ?_
  clear hM
  rintro k f w2 ⟨hk, halP, hM⟩
  by_cases hlt : k < x.p.n
  · obtain ⟨i1, i2, i3, i4⟩ := p4 _ (R.nth_mem (L := x.p.L) (i := k) (by omega))
    (refine R.stepU ?_; (repeat' (first | (with_reducible refine And.intro ?_ ?_) | (with_reducible intro _))); all_goals refine R.Lft.mk ?_)
    refine R.WC_loop (fun j : Nat => [(1, .pointer (some ⟨g, 0, none⟩)), (2, .bool false), (6, .int .i64 (k : Nat)), (7, .int .i64 (j : Nat))])
      (fun j w2 => j ≤ (nth x.p.L k).n ∧ (∀ i, i < j → pieceB x.e.n (nth (nth x.p.L k).L i) = false) ∧ R.Own [] w w2 [.blk g 26 (cNt x)]) (fun j => (nth x.p.L k).n - j) ⟨0, ⟨rfl, rfl, rfl, rfl, trivial⟩, by omega, fun i hi => absurd hi (Nat.not_lt_zero _), by assumption⟩ ?_
    clear hM
    rintro j f w3 ⟨hj, halj, hM⟩
    by_cases hjt : j < (nth x.p.L k).n
    · have hmem : nth (nth x.p.L k).L j ∈ (nth x.p.L k).L := R.nth_mem (by omega)
      have hpm : nth x.p.L k ∈ x.p.L := R.nth_mem (by omega)
      (refine R.stepU ?_; (repeat' (first | (with_reducible refine And.intro ?_ ?_) | (with_reducible intro _))); all_goals refine R.Lft.mk ?_)
      all_goals first
        | (refine ⟨?_, R.Own.below (by assumption)⟩
           rw [netB_f (fun q => by
             have q := pieceB_iff.1 (q.2.2.2.2.2 _ hpm _ hmem)
             omega)])
        | (refine ⟨j + 1, ⟨rfl, rfl, rfl, R.viaI rfl (by omega), trivial⟩, ⟨by omega, fun i hi => ?_, R.Own.tl (by assumption)⟩, by omega⟩
           rcases Nat.lt_or_ge i j with c | c
           · exact halj i c
           · rw [show i = j by omega]
             exact pieceB_iff.2 ⟨by assumption, by assumption, by omega, by omega⟩)
    · have hje : j = (nth x.p.L k).n := by omega
      (refine R.stepU ?_; (repeat' (first | (with_reducible refine And.intro ?_ ?_) | (with_reducible intro _))); all_goals refine R.Lft.mk ?_)
      refine ⟨k + 1, ⟨rfl, rfl, R.viaI rfl (by omega), trivial⟩, ⟨by omega, fun i hi p hp => ?_, hM⟩, by omega⟩
      rcases Nat.lt_or_ge i k with c | c
      · exact halP i c p hp
      · rw [show i = k by omega] at hp
        obtain ⟨q, hq, he⟩ := List.getElem_of_mem hp
        have := halj q (by omega)
        rw [R.nth_eq hq, he] at this
        exact this
  obtain rfl : k = x.p.n := by omega
  (refine R.stepU ?_; (repeat' (first | (with_reducible refine And.intro ?_ ?_) | (with_reducible intro _))); all_goals refine R.Lft.mk ?_)
  all_goals first
    | exact ⟨by rw [netB_f fun q => by have := q.1; have := q.2.1; omega], R.Own.below (by assumption)⟩
    | (refine ⟨?_, R.Own.below (by assumption)⟩
       by_cases hp : x.p.n ≤ 200000
       · rw [netB_t ⟨by omega, by omega, hp, hall, halE, fun l hl => by
           obtain ⟨i, hi, he⟩ := List.getElem_of_mem hl
           have := halP i (by omega)
           rw [R.nth_eq hi, he] at this
           exact this⟩, decide_eq_true (by omega)]
       · rw [netB_f fun q => hp q.2.2.1, decide_eq_false (by omega)])
end Go.Proofs.YtdiodefooipojaaGreat
