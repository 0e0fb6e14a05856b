/- What a walk costs: the document's. -/
import Derived.Test.YtegbidklcaccjaaDi
namespace Go.Proofs.Ytegbidklcaccjaa
open Go.RowKit
open R (In64 InU64 lo64 nth)
theorem MayG.rise {g : Gph} (h : MayG g) {u a b : Nat} (hu : u + 1 < g.st.n) (ha : nth g.st.L u ≤ (a : Nat)) (hab : a < b) (hb : ((b : Nat) : Int) < nth g.st.L (u + 1)) : nth g.hd.L a < nth g.hd.L b := by
  induction b with
  | zero => omega
  | succ b ih =>
    have h1 := (h.arc u (b + 1) hu (by omega) hb).2.2.2.2 (by omega)
    rw [Nat.add_sub_cancel] at h1
    rcases Nat.lt_or_ge a b with c | c
    · have := ih c (by omega)
      omega
    · rw [show a = b by omega]
      exact h1
/-- What an arc weighs; -1: there is none. -/
def ArcV (g : Gph) (u : Nat) (v x : Int) : Prop := (∃ i : Nat, nth g.st.L u ≤ (i : Nat) ∧ ((i : Nat) : Int) < nth g.st.L (u + 1) ∧ nth g.hd.L i = v ∧ x = nth g.wt.L i) ∨ (x = -1 ∧ ∀ i : Nat, nth g.st.L u ≤ (i : Nat) → ((i : Nat) : Int) < nth g.st.L (u + 1) → nth g.hd.L i ≠ v)
theorem ArcV.at {g : Gph} (h : MayG g) {u i : Nat} {v x : Int} (hx : ArcV g u v x) (hu : u + 1 < g.st.n) (h1 : nth g.st.L u ≤ (i : Nat)) (h2 : ((i : Nat) : Int) < nth g.st.L (u + 1)) (h3 : nth g.hd.L i = v) : x = nth g.wt.L i := by
  rcases hx with ⟨j, q1, q2, q3, q4⟩ | ⟨_, q⟩
  · rcases Nat.lt_trichotomy i j with c | c | c
    · have := h.rise hu h1 c q2
      omega
    · rw [c]; exact q4
    · have := h.rise hu q1 c h2
      omega
  · exact absurd h3 (q i h1 h2)
theorem arc_any (g : Gph) (u : Nat) (v : Int) (w : World) (hG : GGph w g) (hm : MayG g) (hu : u + 1 < g.st.n) : Calls Try.prog 68 #[.agg (cGph g).toArray, .int .i64 (u : Nat), .int .i64 v] w fun e w' => (∃ x, ArcV g u v x ∧ e = .returned (.int .i64 x)) ∧ Below w.heap.size w w' := by
  have hM := R.Own.start [] w
  have n2 := hm.n2
  have n3 := hm.n3
  have n4 := hm.n4
  have hlo := hm.lo (v := u) (by omega)
  have hup := hm.up u hu
  have hhi := hm.hi (v := u + 1) (by omega)
  have ek : ((u : Int) + 1).toNat = u + 1 := by omega
  obtain ⟨⟨hA, hal, hac, hag⟩, ⟨hB, hbl, hbc, hbg⟩, ⟨hC, hcl, hcc, hcg⟩⟩ := hG
  refine R.calls_of_WC (fn := Try.f68) Try.func68 rfl Try.ntmps68 (Nat.le_of_ble_eq_true rfl) ?_
  (refine R.stepH ?_; (repeat' (first | (with_reducible refine And.intro ?_ ?_) | (with_reducible intro _))); all_goals refine R.Lft.mk ?_)
  rename_i gb _ _ _ hM
  refine R.WC_loop (fun j : Nat => [(1, .int .i64 (u : Nat)), (2, .int .i64 v), (3, .pointer (some ⟨gb, 0, none⟩)), (6, .int .i64 0), (7, .int .i64 (j : Nat))])
    (fun j w1 => nth g.st.L u ≤ (j : Nat) ∧ ((j : Nat) : Int) ≤ nth g.st.L (u + 1) ∧ R.Own [] w w1 [.blk gb 24 (cGph g)] ∧ ∀ i : Nat, nth g.st.L u ≤ (i : Nat) → i < j → nth g.hd.L i ≠ v) (fun j => g.hd.n - j) ⟨(nth g.st.L u).toNat, ⟨rfl, rfl, rfl, rfl, R.viaI rfl (by omega), trivial⟩, by omega, by omega, hM, fun i h1 h2 => by omega⟩ ?_
  clear hM
  rintro j f w2 ⟨hj1, hj2, hM, hall⟩
  by_cases hlt : ((j : Nat) : Int) < nth g.st.L (u + 1)
  · have hlt' : ((j : Nat) : Int) < nth g.st.L ((u : Int) + 1).toNat := by rw [ek]; exact hlt
    (refine R.stepH ?_; (repeat' (first | (with_reducible refine And.intro ?_ ?_) | (with_reducible intro _))); all_goals refine R.Lft.mk ?_)
    · rename_i hh
      exact ⟨⟨_, .inl ⟨j, hj1, hlt, hh, rfl⟩, rfl⟩, R.Own.below R.ohm⟩
    · rename_i hh
      refine ⟨j + 1, ⟨rfl, rfl, rfl, rfl, R.viaI rfl (by omega), trivial⟩, ⟨by omega, by omega, R.ohm, fun i h1 h2 => ?_⟩, by omega⟩
      rcases Nat.lt_or_ge i j with c | c
      · exact hall i h1 c
      · rw [show i = j by omega]
        exact hh
  · have hlt' : ¬ ((j : Nat) : Int) < nth g.st.L ((u : Int) + 1).toNat := by rw [ek]; exact hlt
    (refine R.stepH ?_; (repeat' (first | (with_reducible refine And.intro ?_ ?_) | (with_reducible intro _))); all_goals refine R.Lft.mk ?_)
    exact ⟨⟨-1, .inr ⟨rfl, fun i h1 h2 => hall i h1 (by omega)⟩, rfl⟩, R.Own.below R.ohm⟩
theorem fw_at {I : Ins} {D : List Int} : ∀ (f : List Nat), Fw I D f → (∀ i, i < f.length → Good I D (nth f i)) ∧ ∀ i, i + 1 < f.length → Lnk I D (nth f i) (nth f (i + 1))
  | [], _ => ⟨fun i h => absurd h (Nat.not_lt_zero _), fun i h => absurd h (Nat.not_lt_zero _)⟩
  | u :: f, ⟨h1, h2, h3⟩ => by
    obtain ⟨g1, g2⟩ := fw_at f h3
    constructor
    · intro i hi
      cases i with
      | zero => exact h1
      | succ i => exact g1 i (by rw [List.length_cons] at hi; omega)
    · intro i hi
      cases i with
      | zero =>
        cases f with
        | nil => simp at hi
        | cons v f => exact h2
      | succ i => exact g2 i (by rw [List.length_cons] at hi; omega)
theorem nth_asI {f : List Nat} {i : Nat} (h : i < f.length) : nth (asI f) i = ((nth f i : Nat) : Int) := by
  rw [R.nth_eq (by rw [asI_len]; exact h), R.nth_eq h]
  simp [asI]
/-- The least key of those that start at x. -/
def MinS (Z : List Item) (x : Int) (best : Int) : Prop := (best = -1 ∧ ∀ z ∈ Z, z.at_ ≠ x) ∨ (0 ≤ best ∧ (∃ z ∈ Z, z.at_ = x ∧ z.key = best) ∧ ∀ z ∈ Z, z.at_ = x → best ≤ z.key)
theorem MinS.skip {Z : List Item} {x best : Int} {z : Item} (h : MinS Z x best) (hz : z.at_ ≠ x ∨ (0 ≤ best ∧ best ≤ z.key)) : MinS (Z ++ [z]) x best := by
  rcases h with ⟨h1, h2⟩ | ⟨h1, ⟨y, h2, h3⟩, h4⟩
  · refine .inl ⟨h1, fun y hy => ?_⟩
    rcases List.mem_append.1 hy with q | q
    · exact h2 y q
    · rw [List.mem_singleton.1 q]
      rcases hz with e | e
      · exact e
      · omega
  · refine .inr ⟨h1, ⟨y, List.mem_append.2 (.inl h2), h3⟩, fun t ht he => ?_⟩
    rcases List.mem_append.1 ht with q | q
    · exact h4 t q he
    · rw [List.mem_singleton.1 q] at he ⊢
      rcases hz with e | e
      · exact absurd he e
      · exact e.2
theorem MinS.take {Z : List Item} {x best : Int} {z : Item} (h : MinS Z x best) (hz : z.at_ = x) (h0 : 0 ≤ z.key) (hb : best < 0 ∨ z.key < best) : MinS (Z ++ [z]) x z.key := by
  refine .inr ⟨h0, ⟨z, List.mem_append.2 (.inr (List.mem_singleton.2 rfl)), hz, rfl⟩, fun t ht he => ?_⟩
  rcases List.mem_append.1 ht with q | q
  · rcases h with ⟨_, h2⟩ | ⟨h1, _, h4⟩
    · exact absurd he (h2 t q)
    · have := h4 t q he
      omega
  · rw [List.mem_singleton.1 q]
    exact Int.le_refl _
section
variable (g : Gph) (s : R.Sl Item) (c : R.Sl Bool) (w : World) (hQ : Ask w g s c)
include hQ
set_option maxHeartbeats 8000000 in
theorem walk_ok (hm : MayS g s c) {D : List Int} {f : List Nat} {v : Nat} (hp : PathOk (insG g s c) D f v) (A : Option Addr) (d : Nat) (hA : R.Inp [] w A (asI f).length 1 ((asI f).flatMap R.cI)) (hfl : f.length ≤ 9223372036854775807) : Calls Try.prog 35 #[.agg (cGph g).toArray, .slice s.A s.n s.c, .slice c.A c.n c.c, .slice A (asI f).length d] w fun e w' => e = .returned (.int .i64 (nth D v)) ∧ Below w.heap.size w w' := by
  have hM := R.Own.start [] w
  have hI := insG_ok hm
  have hIn : (insG g s c).n = g.st.n - 1 := rfl
  obtain ⟨hfw, hlast, x0, f0, hf0, hst0, hmin0⟩ := hp
  obtain ⟨hgood, hlnk⟩ := fw_at f hfw
  have hlen := asI_len f
  have hflp : 0 < f.length := by rw [hf0]; simp
  have hx0 : nth f 0 = x0 := by rw [hf0]; rfl
  have hh0 : nth (asI f) 0 = ((x0 : Nat) : Int) := by rw [nth_asI hflp, hx0]
  obtain ⟨⟨hsI, hsl, hsc, hsg⟩, ⟨hcI, hcl2, hcc2, hcg2⟩⟩ := hQ.2
  have hn0 := hQ.1.1.2.2.1
  have hsk := hm.2.2.2
  have n2 := hm.1.n2
  rw [hlen] at hA ⊢
  refine R.calls_of_WC (fn := Try.f35) Try.func35 rfl Try.ntmps35 (Nat.le_of_ble_eq_true rfl) ?_
  (refine R.stepH ?_; (repeat' (first | (with_reducible refine And.intro ?_ ?_) | (with_reducible intro _))); all_goals refine R.Lft.mk ?_)
  rename_i gb _ hM
  refine R.WC_loop (fun i : Nat × Int => [(1, .slice s.A s.n s.c), (2, .slice c.A c.n c.c), (3, .slice A f.length d), (4, .pointer (some ⟨gb, 0, none⟩)), (8, .int .i64 0), (9, .int .i64 i.2), (10, .int .i64 (i.1 : Nat))])
    (fun i w1 => i.1 ≤ s.n ∧ MinS (s.L.take i.1) (x0 : Nat) i.2 ∧ R.Own [] w w1 [.blk gb 24 (cGph g)]) (fun i => s.n - i.1) ⟨(0, -1), ⟨rfl, rfl, rfl, rfl, rfl, rfl, rfl, trivial⟩, Nat.zero_le _, .inl ⟨rfl, fun z hz => by simp at hz⟩, hM⟩ ?_
  clear hM
  rintro ⟨k, best⟩ fr w2 ⟨hk, hms, hM⟩
  dsimp only at hk hms hM ⊢
  by_cases hlt : k < s.n
  · have hz := hsk _ (R.nth_mem (L := s.L) (i := k) (by omega))
    have htk : s.L.take (k + 1) = s.L.take k ++ [nth s.L k] := take_snoc (by omega)
    have e0 : nth (asI f) (Int.toNat 0) = ((x0 : Nat) : Int) := hh0
    have hbb : -1 ≤ best := by rcases hms with ⟨h, _⟩ | ⟨h, _⟩ <;> omega
    (refine R.stepH ?_; (repeat' (first | (with_reducible refine And.intro ?_ ?_) | (with_reducible intro _))); all_goals refine R.Lft.mk ?_)
    · rename_i b1 b2
      rw [e0] at b1
      exact ⟨(k + 1, (nth s.L k).key), ⟨rfl, rfl, rfl, rfl, rfl, rfl, R.viaI rfl (by dsimp only; omega), trivial⟩, ⟨by dsimp only; omega, by dsimp only; rw [htk]; exact hms.take b1 hz.2.2.1 (.inl b2), R.ohm⟩, by dsimp only; omega⟩
    · rename_i b1 b2 b3
      rw [e0] at b1
      exact ⟨(k + 1, (nth s.L k).key), ⟨rfl, rfl, rfl, rfl, rfl, rfl, R.viaI rfl (by dsimp only; omega), trivial⟩, ⟨by dsimp only; omega, by dsimp only; rw [htk]; exact hms.take b1 hz.2.2.1 (.inr b3), R.ohm⟩, by dsimp only; omega⟩
    · rename_i b1 b2 b3
      exact ⟨(k + 1, best), ⟨rfl, rfl, rfl, rfl, rfl, rfl, R.viaI rfl (by dsimp only; omega), trivial⟩, ⟨by dsimp only; omega, by dsimp only; rw [htk]; exact hms.skip (.inr ⟨by omega, by omega⟩), R.ohm⟩, by dsimp only; omega⟩
    · rename_i b1
      rw [e0] at b1
      exact ⟨(k + 1, best), ⟨rfl, rfl, rfl, rfl, rfl, rfl, R.viaI rfl (by dsimp only; omega), trivial⟩, ⟨by dsimp only; omega, by dsimp only; rw [htk]; exact hms.skip (.inl b1), R.ohm⟩, by dsimp only; omega⟩
  obtain rfl : k = s.n := by omega
  have hbest : best = nth D x0 := by
    rw [hsl, List.take_length] at hms
    obtain ⟨z, hz, ez⟩ := List.mem_map.1 (show (x0, nth D x0) ∈ s.L.map fun x => (x.at_.toNat, x.key) from hst0)
    injection ez with ez1 ez2
    have hzk := hsk z hz
    have hza : z.at_ = (x0 : Nat) := by omega
    rcases hms with ⟨_, h2⟩ | ⟨h1, ⟨y, h2, h3, h5⟩, h4⟩
    · exact absurd hza (h2 z hz)
    · have q1 := h4 z hz hza
      have q2 := hmin0 (y.at_.toNat, y.key) (show _ ∈ s.L.map fun x => (x.at_.toNat, x.key) from List.mem_map.2 ⟨y, h2, rfl⟩) (by dsimp only; omega)
      dsimp only at q2
      omega
  clear hms hlt hk
  rw [hbest]
  (refine R.stepH ?_; (repeat' (first | (with_reducible refine And.intro ?_ ?_) | (with_reducible intro _))); all_goals refine R.Lft.mk ?_)
  refine R.WC_loop (fun i : Nat => [(2, .slice c.A c.n c.c), (3, .slice A f.length d), (4, .pointer (some ⟨gb, 0, none⟩)), (8, .int .i64 0), (9, .int .i64 (nth D (nth f (i - 1)))), (11, .int .i64 (i : Nat))])
    (fun i w1 => i ≤ f.length ∧ R.Own [] w w1 [.blk gb 24 (cGph g)]) (fun i => f.length - i) ⟨0, ⟨rfl, rfl, rfl, rfl, R.viaI rfl (by rw [Nat.zero_sub, hx0]), rfl, trivial⟩, Nat.zero_le _, R.ohm⟩ ?_
  clear hM hbest
  rintro i fr w3 ⟨hi, hM⟩
  have hg1 := hgood (i - 1) (by omega)
  by_cases hlt : i < f.length
  · obtain ⟨u, hu⟩ : ∃ u, nth f i = u := ⟨_, rfl⟩
    have hui : nth (asI f) i = ((u : Nat) : Int) := by rw [nth_asI hlt, hu]
    have hgi := hgood i hlt
    rw [hu] at hgi
    obtain ⟨a1, a2, a3, a4⟩ := hgi
    rw [hIn] at a1
    have hsh : shutV c (nth (asI f) i).toNat = false := by
      have : (!shutV c u) = true := a2
      rw [hui]
      simpa using this
    have hcv : c.n = 0 ∨ nth (asI f) i < c.n := by
      rcases Nat.eq_zero_or_pos c.n with e | e
      · exact .inl e
      · have := hm.2.2.1 e
        omega
    obtain ⟨_, _, b0, b1⟩ := hg1
    (refine R.stepH ?_; (repeat' (first | (with_reducible refine And.intro ?_ ?_) | (with_reducible intro _))); all_goals refine R.Lft.mk ?_)
    refine R.WC_planO [(0, false), (1, false), (2, false), (3, false), (4, false), (5, false), (6, false), (7, false), (8, false), (9, false), (10, false), (11, true), (12, false), (13, false), (14, false), (15, false), (16, false), (17, false), (18, false), (19, false), (20, true), (21, false)] R.mixed (by decide +kernel) R.ohm ?_
    (refine R.stepH ?_; (repeat' (first | (with_reducible refine And.intro ?_ ?_) | (with_reducible intro _))); all_goals refine R.Lft.mk ?_)
    all_goals first
      | (exfalso; omega)
      | (exfalso; have hh : shutV c (nth (asI f) i).toNat = true := by assumption
         rw [hsh] at hh; cases hh)
      | skip
    · have hi0 : 0 < i := by omega
      have hpi : nth (asI f) ((i : Int) - 1).toNat = ((nth f (i - 1) : Nat) : Int) := by
        rw [show ((i : Int) - 1).toNat = i - 1 by omega, nth_asI (by omega)]
      have hl := hlnk (i - 1) (by omega)
      rw [show i - 1 + 1 = i by omega, hu] at hl
      obtain ⟨a, l1, l2, l3, l4⟩ := hl
      obtain ⟨p, hpd⟩ : ∃ p, nth f (i - 1) = p := ⟨_, rfl⟩
      have hpn : p < g.st.n - 1 := by rw [← hpd]; assumption
      rw [hpd] at l1 l2 l4 hpi
      have l1 : (nth g.st.L p).toNat ≤ a := l1
      have l2 : a < (nth g.st.L (p + 1)).toNat := l2
      have l3 : (nth g.hd.L a).toNat = u := l3
      have l4 : nth D u = nth D p + nth g.wt.L a := l4
      have hoa := hm.1.arc p a (by omega) (by omega) (by omega)
      obtain ⟨o1, o2, o3, o4, _⟩ := hoa
      refine R.WO_call3 rfl rfl R.vv R.vv R.vv ?_
      rw [hpi, hui]
      refine (arc_any g p u _ (GGph.now R.ohm hQ.1) hm.1 (by omega)).mono ?_
      rintro _ w5 ⟨⟨x, hx, rfl⟩, hb5⟩
      have hM := R.Own.call R.ohm hb5
      refine ⟨_, rfl, ?_⟩
      have hxa := hx.at hm.1 (by omega) (by omega) (i := a) (by omega) (by omega)
      rw [hpd]
      rw [hpd] at b0 b1
      (refine R.stepH ?_; (repeat' (first | (with_reducible refine And.intro ?_ ?_) | (with_reducible intro _))); all_goals refine R.Lft.mk ?_)
      all_goals first
        | (exfalso; omega)
        | exact ⟨i + 1, ⟨rfl, rfl, rfl, rfl, R.viaI rfl (by rw [Nat.add_sub_cancel, hu]; omega), R.viaI rfl (by omega), trivial⟩, ⟨by omega, R.ohm⟩, by omega⟩
    · obtain rfl : i = 0 := by omega
      exact ⟨1, ⟨rfl, rfl, rfl, rfl, rfl, rfl, trivial⟩, ⟨by omega, R.ohm⟩, by omega⟩
  · obtain rfl : i = f.length := by omega
    have hlv : nth f (f.length - 1) = v := by
      rw [List.getLast?_eq_getElem?] at hlast
      rw [R.nth_some (by omega)] at hlast
      injection hlast
    rw [hlv]
    (refine R.stepH ?_; (repeat' (first | (with_reducible refine And.intro ?_ ?_) | (with_reducible intro _))); all_goals refine R.Lft.mk ?_; (all_goals (try (exact ⟨rfl, R.Own.below (by assumption)⟩))))
end
end Go.Proofs.Ytegbidklcaccjaa
