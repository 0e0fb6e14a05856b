/- net.May and snicketref15.May. Ways of a net, which follow: package bans and snicketref17. net.May: the same as snicketref15.May. -/
import Derived.Test.YtmoppmfbfpjdnaaGreatNt
import Derived.Test.YtmoppmfbfpjdnaaGreatCf
namespace Go.Proofs.YtmoppmfbfpjdnaaGreat
open Go.RowKit
open R (In64 InU64 lo64 nth)

theorem pc_any (p : Pc) (B : Option Addr) (m d g : Nat) (w : World) (hg : g < w.heap.size) (hc : w.cell? ((⟨g, 0, none⟩ : Addr).add 1) = some (.slice B m d)) :
    Calls Tryz.prog 71 ([Value.agg (cPc p).toArray] ++ [Value.pointer (some ⟨g, 0, none⟩)]).toArray w fun e w' => e = .returned (.bool (pieceB m p)) ∧ Below w.heap.size w w' := by
  have hM := R.Own.start [] w
  refine R.calls_of_WC (fn := Tryz.f71) Tryz.func71 rfl Tryz.ntmps71 (Nat.le_of_ble_eq_true rfl) ?_
  (refine R.stepV ?_; (repeat' (first | (with_reducible refine And.intro ?_ ?_) | (with_reducible intro _))); all_goals refine R.Lft.mk ?_)
  · rename_i h
    refine ⟨?_, R.Own.below (by assumption)⟩
    unfold pieceB
    rw [decide_eq_true h]
    rfl
  rename_i hM h
  have hc2 := (hM.below.cell (p := (⟨g, 0, none⟩ : Addr).add 1) hg).trans hc
  (refine R.stepV ?_; (repeat' (first | (with_reducible refine And.intro ?_ ?_) | (with_reducible intro _))); all_goals refine R.Lft.mk ?_)
  · rename_i h2
    refine ⟨?_, R.Own.below (by assumption)⟩
    unfold pieceB
    rw [decide_eq_false h, decide_eq_true h2]
    rfl
  · rename_i h2 _ _
    refine ⟨?_, R.Own.below (by assumption)⟩
    unfold pieceB
    rw [decide_eq_false h, decide_eq_false h2]
    rfl
theorem pcs_any (l : R.Sl Pc) (B : Option Addr) (m d g : Nat) (w : World) (hg : g < w.heap.size) (hc : w.cell? ((⟨g, 0, none⟩ : Addr).add 1) = some (.slice B m d)) (hl : R.GSl cPc 3 GPc w l) :
    Calls Tryz.prog 69 ([Value.slice l.A l.n l.c] ++ [Value.pointer (some ⟨g, 0, none⟩)]).toArray w fun e w' => e = .returned (.bool (l.L.any (pieceB m))) ∧ Below w.heap.size w w' := by
  have hM := R.Own.start [] w
  obtain ⟨h1, h2, h3, -⟩ := hl
  refine R.calls_of_WC (fn := Tryz.f69) Tryz.func69 rfl Tryz.ntmps69 (Nat.le_of_ble_eq_true rfl) ?_
  (refine R.stepV ?_; (repeat' (first | (with_reducible refine And.intro ?_ ?_) | (with_reducible intro _))); all_goals refine R.Lft.mk ?_)
  refine R.WO_call2 rfl rfl R.vv R.vv ?_
  refine (containsFunc_Pc l.A l.n l.c l.L 71 [.pointer (some ⟨g, 0, none⟩)] (pieceB m) _ (hM.inpIn h1) h2 (by omega) (fun x w2 hx hb3 => ?_)).mono ?_
  · exact pc_any x B m d g w2 (Nat.lt_of_lt_of_le hg (hM.call hb3).below.size) (((hM.call hb3).below.cell (p := (⟨g, 0, none⟩ : Addr).add 1) hg).trans hc)
  rintro e w2 ⟨rfl, hb2⟩
  have hM := hM.call hb2
  refine ⟨_, rfl, ?_⟩
  (refine R.stepV ?_; (repeat' (first | (with_reducible refine And.intro ?_ ?_) | (with_reducible intro _))); all_goals refine R.Lft.mk ?_; (all_goals (try (exact ⟨rfl, R.Own.below (by assumption)⟩))))
theorem pieceB_iff {m : Nat} {p : Pc} : pieceB m p = false ↔ ¬ p.e < 0 ∧ ¬ (m : Int) ≤ p.e ∧ 0 ≤ p.w ∧ p.w ≤ 2147483648 := by
  unfold pieceB
  simp
theorem nbt_ {b : Bool} {p : Prop} (hd : b = true) (h : (!b) = true) : p := by rw [hd] at h; cases h
theorem nbf_ {b : Bool} (h : (!b) = false) : b = true := by cases b <;> simp at h ⊢
theorem edge_next {m : Nat} {E : List Ed} {k : Nat} (h : ∀ i, i < k → edgeP m E i) (hk : edgeP m E k) : ∀ i, i < k + 1 → edgeP m E i := fun i hi => by
  rcases Nat.lt_or_ge i k with h1 | h1
  · exact h i h1
  · obtain rfl : i = k := by omega
    exact hk
end Go.Proofs.YtmoppmfbfpjdnaaGreat
namespace Go.Proofs.YtmoppmfbfpjdnaaGreat
open Go.RowKit
open R (In64 InU64 lo64 nth)

theorem GSl_now {T : Type} {enc : T → List Value} {sz : Nat} {G : World → T → Prop} {W w : World} {l : List R.Res} {x : R.Sl T} (hM : R.Own [] W w l) (hG : ∀ y, G W y → G w y) (h : R.GSl enc sz G W x) : R.GSl enc sz G w x := ⟨hM.inpIn h.1, h.2.1, h.2.2.1, fun y hy => hG y (h.2.2.2 y hy)⟩
theorem GNt.now {W w : World} {l : List R.Res} {x : Nt} (hM : R.Own [] W w l) (h : GNt W x) : GNt w x :=
  ⟨GSl_now hM (fun _ h => h) h.1, GSl_now hM (fun _ h => h) h.2.1, GSl_now hM (fun _ h => GSl_now hM (fun _ h => h) h) h.2.2⟩
theorem GRl.now {W w : World} {l : List R.Res} {x : Rl} (hM : R.Own [] W w l) (h : GRl W x) : GRl w x := ⟨GSl_now hM (fun _ h => h) h.1, h.2⟩
theorem GNt.lasts {W : World} {x : Nt} (h : GNt W x) : R.Lasts GNt W x := fun _ hb => h.now ((R.Own.start [] W).call hb)
theorem GRl.lasts {W : World} {x : Rl} (h : GRl W x) : R.Lasts GRl W x := fun _ hb => h.now ((R.Own.start [] W).call hb)
/-- An edge; whether there is a way, its tail and head, whether ways follow. -/
def edW (x : Nt) (v : Int) : Ed := nth x.e.L (v / 2).toNat
def wayB (x : Nt) (v : Int) : Bool := decide (0 ≤ v) && (decide (v / 2 < x.e.n) && (if v % 2 = 0 then (edW x v).f else (edW x v).k))
def tailV (x : Nt) (v : Int) : Int := if v % 2 = 0 then (edW x v).a else (edW x v).b
def headV (x : Nt) (v : Int) : Int := if v % 2 = 0 then (edW x v).b else (edW x v).a
def folB (x : Nt) (v w : Int) : Bool := wayB x v && (wayB x w && decide (headV x v = tailV x w))
theorem wayB_of {x : Nt} {v : Int} (h : wayB x v = true) : 0 ≤ v ∧ v / 2 < x.e.n ∧ (if v % 2 = 0 then (edW x v).f else (edW x v).k) = true := by
  unfold wayB at h
  rw [Bool.and_eq_true, Bool.and_eq_true] at h
  exact ⟨of_decide_eq_true h.1, of_decide_eq_true h.2.1, h.2.2⟩
section
variable {x : Nt} {v : Int}
theorem wb0 (h : v < 0) : wayB x v = false := by unfold wayB; rw [decide_eq_false (by omega)]; rfl
theorem wb1 (h : (x.e.n : Int) ≤ v / 2) : wayB x v = false := by unfold wayB; rw [decide_eq_false (by omega : ¬ v / 2 < x.e.n)]; simp
theorem wbf (h0 : ¬ v < 0) (h1 : ¬ (x.e.n : Int) ≤ v / 2) (h : v % 2 = 0) : wayB x v = (nth x.e.L (v / 2).toNat).f := by unfold wayB edW; rw [decide_eq_true (by omega : 0 ≤ v), decide_eq_true (by omega : v / 2 < x.e.n), if_pos h]; rfl
theorem wbk (h0 : ¬ v < 0) (h1 : ¬ (x.e.n : Int) ≤ v / 2) (h : ¬ v % 2 = 0) : wayB x v = (nth x.e.L (v / 2).toNat).k := by unfold wayB edW; rw [decide_eq_true (by omega : 0 ≤ v), decide_eq_true (by omega : v / 2 < x.e.n), if_neg h]; rfl
theorem nbw_t {b : Bool} {p : Prop} (hd : b = true) (h : (!b) = true) : p := by rw [hd] at h; cases h
theorem nbw_f {b : Bool} {p : Prop} (hd : b = false) (h : (!b) = false) : p := by rw [hd] at h; cases h
theorem bbw_t {b : Bool} {p : Prop} (hd : b = true) (h : b = false) : p := by rw [hd] at h; cases h
theorem folB_t {w : Int} (hv : wayB x v = true) (hw : wayB x w = true) : folB x v w = decide (headV x v = tailV x w) := by unfold folB; rw [hv, hw]; rfl
theorem folB_v {w : Int} (hv : wayB x v = false) : folB x v w = false := by unfold folB; rw [hv]; rfl
theorem folB_w {w : Int} (hw : wayB x w = false) : folB x v w = false := by unfold folB; rw [hw]; simp
end
/-- The way the other way round. -/
def aboutV (v : Int) : Int := if v < 0 then v else if v % 2 = 0 then v + 1 else v - 1
theorem xor_one (a : Nat) : a ^^^ 1 = if a % 2 = 0 then a + 1 else a - 1 := by
  have h1 : (a ^^^ 1) / 2 = a / 2 := by rw [Nat.xor_div_two]; simp
  have h2 := @Nat.xor_mod_two_eq_one a 1
  split <;> omega
theorem bits_xor1 (v : Int) (h0 : 0 ≤ v) (h1 : v ≤ 9223372036854775807) : bits .xor .i64 v 1 = if v % 2 = 0 then v + 1 else v - 1 := by
  obtain ⟨a, rfl⟩ := Int.eq_ofNat_of_zero_le h0
  have ha : (BitVec.ofInt 64 (a : Int)).toNat = a := by
    rw [BitVec.ofInt_natCast, BitVec.toNat_ofNat]
    exact Nat.mod_eq_of_lt (by omega)
  have hb : (BitVec.ofInt 64 1).toNat = 1 := by decide
  show IntKind.i64.wrap ((BitVec.ofInt 64 (a : Int) ^^^ BitVec.ofInt 64 1).toNat : Nat) = _
  rw [BitVec.toNat_xor, ha, hb, xor_one, IntKind.wrap_i64]
  split <;> split <;> omega
theorem WO_xor1 {P : Program} {C : R.CallH} {o : Oper} {f : R.Fr} {w : World} {K : Value → World → Prop} {t t' : TypeId} {x y : Operand} {v : Int} (hop : o.op = .binOp .xor t x y t') (hx : R.ev f x = .int .i64 v) (hy : R.ev f y = .int .i64 1) (h0 : 0 ≤ v) (h1 : v ≤ 9223372036854775807) (hk : K (.int .i64 (if v % 2 = 0 then v + 1 else v - 1)) w) : R.WO P C o f w K := by
  rw [← bits_xor1 v h0 h1] at hk
  exact R.WO_val (by simp [execOp, hop, hx, hy, eqGuard_xor, binOp_xor, intBits_xor]) hk
end Go.Proofs.YtmoppmfbfpjdnaaGreat
namespace Go.Proofs.YtmoppmfbfpjdnaaGreat
open Go.RowKit
open R (In64 InU64 lo64 nth)

theorem nodesB_of {x : Nt} (hl : x.s.n = x.s.L.length) (h : nodesB x.s.L = true) : ∀ i, i < x.s.n → nodeP x.s.L i := by
  have := @of_decide_eq_true _ (Classical.propDecidable _) h
  rw [hl]
  exact this
theorem cmpZ_ge {a b c d : Int} : 0 ≤ orI (cmpZ a b) (cmpZ c d) ↔ ¬ (a < b ∨ a = b ∧ c < d) := by
  unfold orI
  rcases Int.lt_trichotomy a b with h | h | h
  · rw [cmpZ_lt h]
    simp [h]
  · subst h
    rw [cmpZ_self]
    rcases Int.lt_trichotomy c d with g | g | g
    · rw [cmpZ_lt g]; simp [g]
    · subst g; rw [cmpZ_self]; simp
    · rw [cmpZ_gt g]; simp; omega
  · rw [cmpZ_gt h]
    simp
    omega
theorem wt_t {v : Int} {p : Prop} (h : weightP v) (g : (!(decide (0 ≤ v) && decide (v ≤ 2147483648))) = true) : p := by
  obtain ⟨h1, h2⟩ := h
  rw [decide_eq_true h1, decide_eq_true h2] at g
  cases g
theorem wt_f {v : Int} (g : (!(decide (0 ≤ v) && decide (v ≤ 2147483648))) = false) : weightP v := by
  simpa [weightP] using g
attribute [local irreducible] W512 cmpS mayS cS cR cSp cW orI cmpZ in
set_option maxHeartbeats 4000000 in
theorem netmay_any (x : Nt) (w : World) (hG : GNt w x) : Calls Tryz.prog 39 #[.agg (cNt x).toArray] w fun e w' => e = .returned (.bool (netB x)) ∧ Below w.heap.size w w' := by
  have hM := R.Own.start [] w
  have hL := hG.lasts
  obtain ⟨⟨s1, s2, s3, -⟩, ⟨e1, e2, e3, -⟩, p1, p2, p3, p4⟩ := hG
  by_cases hs : x.s.n ≤ 200000 ∧ x.e.n ≤ 200000 ∧ x.p.n ≤ 200000
  · obtain ⟨hs1, hs2, hs3⟩ := hs
    refine R.calls_of_WC (fn := Tryz.f39) Tryz.func39 rfl Tryz.ntmps39 (Nat.le_of_ble_eq_true rfl) ?_
    (refine R.stepV ?_; (repeat' (first | (with_reducible refine And.intro ?_ ?_) | (with_reducible intro _))); all_goals refine R.Lft.mk ?_)
    rename_i g w1 hM
    refine R.WO_call1 rfl rfl R.vv ?_
    refine (nodes_any x.s.A x.s.n x.s.c x.s.L _ (hM.inpIn s1) s2 (by omega)).mono ?_
    rintro _ w2 ⟨rfl, hb2⟩
    have hM := hM.call hb2
    refine ⟨_, rfl, ?_⟩
    cases hn : nodesB x.s.L with
    | false =>
      rw [netB_f fun q => by rw [nodesB_t (by rw [← s2]; exact q.2.2.2.1)] at hn; cases hn]
      (refine R.stepV ?_; (repeat' (first | (with_reducible refine And.intro ?_ ?_) | (with_reducible intro _))); all_goals refine R.Lft.mk ?_; (all_goals (try (exact ⟨rfl, R.Own.below (by assumption)⟩))))
    | true =>
      have hall := nodesB_of s2 hn
      (refine R.stepV ?_; (repeat' (first | (with_reducible refine And.intro ?_ ?_) | (with_reducible intro _))); all_goals refine R.Lft.mk ?_)
      refine R.WC_loop (fun k : Nat => [(1, .pointer (some ⟨g, 0, none⟩)), (2, .bool false), (28, .slice x.e.A x.e.n x.e.c), (29, .int .i64 (x.e.n : Nat)), (30, .int .i64 (k : Nat))])
        (fun k w2 => k ≤ x.e.n ∧ (∀ i, i < k → edgeP x.s.n x.e.L i) ∧ R.Own [] w w2 [.blk g 26 (cNt x)]) (fun k => x.e.n - k) ⟨0, ⟨rfl, rfl, rfl, rfl, rfl, trivial⟩, by omega, fun i hi => absurd hi (Nat.not_lt_zero _), by assumption⟩ ?_
      clear hM
      rintro k f w2 ⟨hk, halE, hM⟩
      by_cases hlt : k < x.e.n
      · have e : (((k : Nat) : Int) - 1).toNat = k - 1 := by omega
        (refine R.stepU ?_; (repeat' (first | (with_reducible refine And.intro ?_ ?_) | (with_reducible intro _))); all_goals refine R.Lft.mk ?_)
        refine R.WC_planO [(0, false), (1, false), (2, false), (3, false), (4, false), (5, false), (6, false), (7, false), (8, false), (9, false), (10, false), (11, false), (12, false), (13, false), (14, false), (15, false), (16, false), (17, false), (18, false), (19, false), (20, false), (21, true), (22, false), (23, false), (24, false), (25, false), (26, false), (27, false), (28, false), (29, false), (30, false), (31, false), (32, false), (33, false), (34, false), (35, false), (36, false), (37, false), (38, false), (39, false), (40, false), (41, false), (42, false), (43, false), (45, false), (44, true), (46, true), (47, true), (48, false), (49, false), (50, false)] R.mixed (by decide +kernel) R.ohm ?_
        (refine R.stepU ?_; (repeat' (first | (with_reducible refine And.intro ?_ ?_) | (with_reducible intro _))); all_goals refine R.Lft.mk ?_)
        all_goals first
          | (refine ⟨?_, R.Own.below (by assumption)⟩
             rw [netB_f (fun q => by
               have q := q.2.2.2.2.1 k hlt
               unfold edgeP ltE at q
               obtain ⟨q1, q2, q3, q4, q5, q6⟩ := q
               first
               | omega
               | exact wt_t q4 (by assumption)
               | (rcases q5 with q | q
                  · exact nbt_ q (by assumption)
                  · exact nbt_ q (by assumption))
               | (have h : 0 ≤ orI (cmpZ (nth x.e.L (((k : Nat) : Int) - 1).toNat).a (nth x.e.L k).a) (cmpZ (nth x.e.L (((k : Nat) : Int) - 1).toNat).b (nth x.e.L k).b) := by assumption
                  rw [e] at h
                  exact cmpZ_ge.1 h (q6 (by omega))))])
          | (refine ⟨k + 1, ⟨rfl, rfl, rfl, rfl, R.viaI rfl (by omega), trivial⟩, ⟨by omega, edge_next halE ⟨by omega, by omega, by omega, wt_f (by assumption), by first | exact .inl (nbf_ (by assumption)) | exact .inr (nbf_ (by assumption)), fun _ => ?_⟩, R.Own.tl (by assumption)⟩, by omega⟩
             first
             | (exfalso; omega)
             | (have h : ¬ 0 ≤ orI (cmpZ (nth x.e.L (((k : Nat) : Int) - 1).toNat).a (nth x.e.L k).a) (cmpZ (nth x.e.L (((k : Nat) : Int) - 1).toNat).b (nth x.e.L k).b) := by assumption
                rw [e, cmpZ_ge] at h
                unfold ltE
                omega))
      · obtain rfl : k = x.e.n := by omega
        (refine R.stepV ?_; (repeat' (first | (with_reducible refine And.intro ?_ ?_) | (with_reducible intro _))); all_goals refine R.Lft.mk ?_)
        refine R.WO_call2 rfl rfl R.vv R.vv ?_
        have hcl : ∀ w', R.Own [] w w' [.blk g 26 (cNt x)] → g < w'.heap.size ∧ w'.cell? ((⟨g, 0, none⟩ : Addr).add 1) = some (.slice x.e.A x.e.n x.e.c) := fun w' h => ⟨R.Own.lt h (.head _) rfl, by
          have h0 : w'.heap[g]? = some (.cells (cNt x).toArray 26 (0, 0)) := h.ok _ (.head _)
          simp [World.cell?, Addr.add, h0, cNt]⟩
        refine (containsFunc_Pcs x.p.A x.p.n x.p.c x.p.L 69 [.pointer (some ⟨g, 0, none⟩)] (fun l => l.L.any (pieceB x.e.n)) _ (hM.inpIn p1) p2 (by omega) (fun l w5 hl hb5 => ?_)).mono ?_
        · have h5 := hcl w5 (hM.call hb5)
          exact pcs_any l x.e.A x.e.n x.e.c g w5 h5.1 h5.2 (GSl_now (hM.call hb5) (fun _ h => h) (p4 l hl))
        rintro _ w5 ⟨rfl, hb5⟩
        have hM := hM.call hb5
        refine ⟨_, rfl, ?_⟩
        (refine R.stepV ?_; (repeat' (first | (with_reducible refine And.intro ?_ ?_) | (with_reducible intro _))); all_goals refine R.Lft.mk ?_)
        refine ⟨?_, R.Own.below (by assumption)⟩
        cases ha : x.p.L.any fun l => l.L.any (pieceB x.e.n) with
        | true =>
          rw [netB_f fun q => ?_]
          · rfl
          obtain ⟨l, hl, ha⟩ := List.any_eq_true.1 ha
          obtain ⟨p, hp, ha⟩ := List.any_eq_true.1 ha
          rw [q.2.2.2.2.2 l hl p hp] at ha
          cases ha
        | false =>
          rw [netB_t ⟨hs1, hs2, hs3, hall, halE, fun l hl p hp => ?_⟩]
          · rfl
          have := List.any_eq_false.1 ha l hl
          rw [Bool.not_eq_true, List.any_eq_false] at this
          simpa using this p hp
  · rw [netB_f fun q => hs ⟨q.1, q.2.1, q.2.2.1⟩]
    refine R.calls_of_WC (fn := Tryz.f39) Tryz.func39 rfl Tryz.ntmps39 (Nat.le_of_ble_eq_true rfl) ?_
    (refine R.stepV ?_; (repeat' (first | (with_reducible refine And.intro ?_ ?_) | (with_reducible intro _))); all_goals refine R.Lft.mk ?_)
    all_goals first
      | exact ⟨rfl, R.Own.below (by assumption)⟩
      | (exfalso; omega)
instance con_netmay (x : Nt) : R.ConB Tryz.prog 39 #[.agg (cNt x).toArray] Unit (fun _ w => GNt w x) (fun _ => .bool (netB x)) := ⟨fun _ w h => netmay_any x w h⟩
theorem netB_e {x : Nt} (h : netB x = true) : x.e.n ≤ 200000 := (netB_iff.1 h).2.1
/-- Ways of a net that may be. -/
noncomputable def wayN (x : Nt) (v : Int) : Bool := netB x && wayB x v
noncomputable def folN (x : Nt) (v u : Int) : Bool := netB x && folB x v u
theorem wayN_f {x : Nt} {v : Int} (h : netB x = false) : wayN x v = false := by unfold wayN; rw [h]; rfl
theorem wayN_t {x : Nt} {v : Int} (h : netB x = true) : wayN x v = wayB x v := by unfold wayN; rw [h]; rfl
theorem folN_f {x : Nt} {v u : Int} (h : netB x = false) : folN x v u = false := by unfold folN; rw [h]; rfl
theorem folN_t {x : Nt} {v u : Int} (h : netB x = true) : folN x v u = folB x v u := by unfold folN; rw [h]; rfl
noncomputable def endsN (x : Nt) (v : Int) : Int × Int := if wayN x v then (tailV x v, headV x v) else (0, 0)
end Go.Proofs.YtmoppmfbfpjdnaaGreat
