/- Package roads: Strips, and the document's. -/
import Derived.Test.YtmmfndmfibbhcaaRoads5
import Derived.Test.YtmmfndmfibbhcaaHg
import Derived.Test.YtmmfndmfibbhcaaSvA
namespace Go.Proofs.Ytmmfndmfibbhcaa
open Go.RowKit
open R (In64 InU64 lo64 nth)
structure Strip where
  road : Int
  place : Int
  a : Pt
  b : Pt
  weight : Int
  one : Bool
  deriving DecidableEq, Inhabited
def cStrip (x : Strip) : List Value := [.int .i64 x.road, .int .i64 x.place, .int .i64 x.a.x, .int .i64 x.a.y, .int .i64 x.b.x, .int .i64 x.b.y, .int .i64 x.weight, .bool x.one]
instance encc_Strip : R.EncC cStrip 8 := ⟨fun _ => rfl, by simp [cStrip, Value.oneCell'], by decide⟩
instance enct_Strip : R.EncT Try.prog 116 Strip cStrip 8 := {}
instance iss_Strip (a b c d e f g : Int) (h : Bool) : R.Iss cStrip [.int .i64 a, .int .i64 b, .int .i64 c, .int .i64 d, .int .i64 e, .int .i64 f, .int .i64 g, .bool h] [⟨a, b, ⟨c, d⟩, ⟨e, f⟩, g, h⟩] := ⟨rfl⟩
instance eqt_Strip : R.EqT Try.prog 116 Strip cStrip := R.eqT_of (ls := [some .i64, some .i64, some .i64, some .i64, some .i64, some .i64, some .i64, none]) (by kernel_rfl) (by kernel_rfl) (by kernel_rfl) (fun _ => ⟨rfl, rfl, rfl, rfl, rfl, rfl, rfl, trivial⟩) (fun a b h => by
  obtain ⟨_, _, ⟨_, _⟩, ⟨_, _⟩, _, _⟩ := a
  obtain ⟨_, _, ⟨_, _⟩, ⟨_, _⟩, _, _⟩ := b
  simpa [cStrip, and_assoc] using h)
/-- The line of a place of a road. -/
def stripAt (x : Road) (i : Nat) : Strip := ⟨x.rank, (i : Nat), nth x.p.L i, nth x.p.L (i + 1), nth x.q.L i, x.both⟩
def stripsR (x : Road) (j : Nat) : List Strip := (List.range j).map (stripAt x)
def stripsV (L : List Road) : List Strip := L.flatMap fun x => stripsR x x.q.n
theorem stripsR_len (x : Road) (j : Nat) : (stripsR x j).length = j := by simp [stripsR]
theorem stripsR_succ (x : Road) (j : Nat) : stripsR x (j + 1) = stripsR x j ++ [stripAt x j] := by simp [stripsR, List.range_succ]
theorem stripsV_len (L : List Road) : (stripsV L).length = lineN L := by
  induction L with
  | nil => rfl
  | cons x l ih =>
    unfold stripsV at ih ⊢
    rw [List.flatMap_cons, List.length_append, ih, stripsR_len]
    rfl
theorem stripsV_snoc {L : List Road} {k : Nat} (hk : k < L.length) : stripsV (L.take (k + 1)) = stripsV (L.take k) ++ stripsR (nth L k) (nth L k).q.n := by
  unfold stripsV
  rw [take_snoc hk, List.flatMap_append]
  simp
theorem errAll_ok {L : List Road} (h : errAll L = 0) : L.length ≤ 200 ∧ (∀ j, j < L.length → errR (nth L j) = 0) ∧ Rises L L.length ∧ lineN L ≤ 400 := by
  by_cases h1 : 200 < L.length
  · rw [errAll_4 h1] at h
    cases h
  by_cases h2 : ∀ j, j < L.length → errR (nth L j) = 0
  · by_cases h3 : Rises L L.length
    · rw [errAll_5 h1 h2 h3] at h
      split at h
      · cases h
      · exact ⟨by omega, h2, h3, by omega⟩
    · rw [errAll_1 h1 h2 h3] at h
      cases h
  · exfalso
    unfold errAll at h
    rw [if_neg h1] at h
    have hf : firstErr L ≠ 0 := fun hz => h2 (fun j hj => by
      clear h h1 h2
      induction L generalizing j with
      | nil => exact absurd hj (Nat.not_lt_zero _)
      | cons x l ih =>
        unfold firstErr at hz
        by_cases hx : errR x = 0
        · rw [if_pos hx] at hz
          cases j with
          | zero => exact hx
          | succ j => exact ih hz j (Nat.lt_of_succ_lt_succ hj)
        · rw [if_neg hx] at hz
          exact absurd hz hx)
    rw [if_pos hf] at h
    exact hf h
theorem lineN_le (L : List Road) (k : Nat) : lineN (L.take k) ≤ lineN L := by
  have := lineN_app (L.take k) (L.drop k)
  rw [List.take_append_drop] at this
  omega
section
variable (A : Option Addr) (n c : Nat) (L : List Road) (w : World) (hA : R.Inp [] w A n 4 (L.flatMap cRoad)) (hn : n = L.length) (hb : n ≤ 1000000000) (hG : ∀ x ∈ L, GRoad w x)
include hA hn hb hG
set_option maxHeartbeats 2000000 in
theorem strips_any : Calls Try.prog 63 #[.slice A n c] w fun e w' => ∃ A1 c1 M, M = (if errAll L = 0 then stripsV L else []) ∧ e = .returned (.tuple #[.slice A1 M.length c1, .int .i64 (errAll L)]) ∧ R.Gives w w' A1 M.length c1 116 8 (M.flatMap cStrip) := by
  have hM := R.Own.start [] w
  refine R.calls_of_WC (fn := Try.f63) Try.func63 rfl Try.ntmps63 (Nat.le_of_ble_eq_true rfl) ?_
  (refine R.step ?_; (repeat' (first | (with_reducible refine And.intro ?_ ?_) | (with_reducible intro _))); all_goals refine R.Lft.mk ?_)
  refine R.WO_call1 rfl rfl R.vv ?_
  refine (all_any A n c L w hA hn hb hG).mono ?_
  rintro _ w2 ⟨rfl, hb2⟩
  have hM := R.Own.call hM hb2
  refine ⟨_, rfl, ?_⟩
  by_cases he : errAll L ≠ 0
  · (refine R.step ?_; (repeat' (first | (with_reducible refine And.intro ?_ ?_) | (with_reducible intro _))); all_goals refine R.Lft.mk ?_)
    exact ⟨none, 0, [], by rw [if_neg he], rfl, (R.Own.nil R.ohm _ _).gives⟩
  have he : errAll L = 0 := Decidable.not_not.1 he
  obtain ⟨h200, hall, hr, h400⟩ := errAll_ok he
  (refine R.step ?_; (repeat' (first | (with_reducible refine And.intro ?_ ?_) | (with_reducible intro _))); all_goals refine R.Lft.mk ?_)
  refine R.WC_loop (fun s : Nat × Option Addr × Nat => [(2, .slice none 0 0), (3, .int .i64 0), (5, .slice s.2.1 (stripsV (L.take s.1)).length s.2.2), (15, .slice A n c), (16, .int .i64 (n : Nat)), (17, .int .i64 (s.1 : Nat))])
    (fun s w1 => s.1 ≤ n ∧ R.Own [] w w1 [.row s.2.1 (stripsV (L.take s.1)).length s.2.2 116 8 ((stripsV (L.take s.1)).flatMap cStrip)]) (fun s => n - s.1) ⟨(0, none, 0), ⟨rfl, rfl, rfl, rfl, rfl, rfl, trivial⟩, Nat.zero_le _, R.Own.nil R.ohm _ _⟩ ?_
  clear hM
  rintro ⟨k, A1, c1⟩ f w3 ⟨hk, hM⟩
  dsimp only at hk hM ⊢
  by_cases hlt : k < n
  · obtain ⟨g1, ⟨hp, hpl, hpc, hpg⟩, ⟨hq, hql, hqc, hqg⟩, _⟩ := hG _ (R.nth_mem (L := L) (i := k) (by omega))
    have hok := errR_ok (hall k (by omega))
    have hsl := stripsV_len (L.take k)
    have hle := lineN_le L k
    (refine R.step ?_; (repeat' (first | (with_reducible refine And.intro ?_ ?_) | (with_reducible intro _))); all_goals refine R.Lft.mk ?_)
    rename_i y _ _ _ hM
    refine R.WC_loop (fun s : Nat × Option Addr × Nat => [(2, .slice none 0 0), (3, .int .i64 0), (5, .slice s.2.1 (stripsV (L.take k) ++ stripsR (nth L k) s.1).length s.2.2), (7, .pointer (some ⟨y, 0, none⟩)), (15, .slice A n c), (16, .int .i64 (n : Nat)), (17, .int .i64 (k : Nat)), (22, .slice (nth L k).q.A (nth L k).q.n (nth L k).q.c), (23, .int .i64 ((nth L k).q.n : Nat)), (24, .int .i64 (s.1 : Nat))])
      (fun s w1 => s.1 ≤ (nth L k).q.n ∧ R.Own [] w w1 [.row s.2.1 (stripsV (L.take k) ++ stripsR (nth L k) s.1).length s.2.2 116 8 ((stripsV (L.take k) ++ stripsR (nth L k) s.1).flatMap cStrip), .blk y 101 (cRoad (nth L k))]) (fun s => (nth L k).q.n - s.1)
      ⟨(0, A1, c1), ⟨rfl, rfl, R.viaS rfl (by simp [stripsR]), rfl, rfl, rfl, rfl, rfl, rfl, rfl, trivial⟩, Nat.zero_le _, by simpa [stripsR] using R.Own.swap hM⟩ ?_
    clear hM
    rintro ⟨j, A2, c2⟩ f w4 ⟨hj, hM⟩
    dsimp only at hj hM ⊢
    have hl2 : (stripsV (L.take k) ++ stripsR (nth L k) j).length ≤ 20000 := by rw [List.length_append, stripsR_len]; omega
    by_cases hjt : j < (nth L k).q.n
    · (refine R.stepH ?_; (repeat' (first | (with_reducible refine And.intro ?_ ?_) | (with_reducible intro _))); all_goals refine R.Lft.mk ?_)
      refine R.WC_planD1 [(0, false), (1, false), (2, false), (3, false), (4, false), (5, false), (6, false), (7, false), (8, false), (9, false), (10, false), (11, false), (12, false), (13, false), (14, false), (15, false), (16, false), (17, false), (18, false), (19, false), (20, true), (21, true), (22, false)] R.mixed (by decide +kernel) R.ohm ?_
      (refine R.stepH ?_; (repeat' (first | (with_reducible refine And.intro ?_ ?_) | (with_reducible intro _))); all_goals refine R.Lft.mk ?_)
      rename_i A7 c7 _ hM
      have hM : R.Own [] w _ [.row A7 1 c7 116 8 (cStrip (stripAt (nth L k) j)), .row A2 (stripsV (L.take k) ++ stripsR (nth L k) j).length c2 116 8 ((stripsV (L.take k) ++ stripsR (nth L k) j).flatMap cStrip), .blk y 101 (cRoad (nth L k))] := hM
      (refine R.stepH ?_; (repeat' (first | (with_reducible refine And.intro ?_ ?_) | (with_reducible intro _))); all_goals refine R.Lft.mk ?_)
      rename_i A8 c8 _ hM
      refine ⟨(j + 1, A8, c8), ⟨rfl, rfl, R.viaS rfl (by dsimp only; rw [stripsR_succ, ← List.append_assoc, List.length_append (bs := [_])]; rfl), rfl, rfl, rfl, rfl, rfl, rfl, R.viaI rfl (by dsimp only; omega), trivial⟩, ⟨by dsimp only; omega, ?_⟩, by dsimp only; omega⟩
      dsimp only
      rw [stripsR_succ, ← List.append_assoc, List.length_append (bs := [_])]
      exact hM
    · (refine R.stepH ?_; (repeat' (first | (with_reducible refine And.intro ?_ ?_) | (with_reducible intro _))); all_goals refine R.Lft.mk ?_)
      obtain rfl : j = (nth L k).q.n := by omega
      have hsn := stripsV_snoc (L := L) (k := k) (by omega)
      refine ⟨(k + 1, A2, c2), ⟨rfl, rfl, R.viaS rfl (by dsimp only; rw [hsn]), rfl, rfl, R.viaI rfl (by dsimp only; omega), trivial⟩, ⟨by dsimp only; omega, ?_⟩, by dsimp only; omega⟩
      dsimp only
      rw [hsn]
      exact R.Own.tl (R.Own.swap hM)
  · (refine R.stepH ?_; (repeat' (first | (with_reducible refine And.intro ?_ ?_) | (with_reducible intro _))); all_goals refine R.Lft.mk ?_)
    have hlk : L.take k = L := List.take_of_length_le (by omega)
    rw [hlk] at hM ⊢
    exact ⟨A1, c1, stripsV L, by rw [if_pos he], by rw [he], hM.gives⟩
set_option maxHeartbeats 2000000 in
theorem strips11_any (he : errAll L = 0) : Calls Try.prog 66 #[.slice A n c] w fun e w' => ∃ A1 c1, e = .returned (.slice A1 (stripsV L).length c1) ∧ R.Gives w w' A1 (stripsV L).length c1 116 8 ((stripsV L).flatMap cStrip) := by
  have hM := R.Own.start [] w
  refine R.calls_of_WC (fn := Try.f66) Try.func66 rfl Try.ntmps66 (Nat.le_of_ble_eq_true rfl) ?_
  obtain ⟨h200, hall, hr, h400⟩ := errAll_ok he
  (refine R.stepH ?_; (repeat' (first | (with_reducible refine And.intro ?_ ?_) | (with_reducible intro _))); all_goals refine R.Lft.mk ?_)
  rename_i A0 c0' w2 hM
  refine R.WC_loop (fun s : Nat × Option Addr × Nat => [(0, .slice A n c), (2, .slice none 0 0), (3, .slice s.2.1 (stripsV (L.take s.1)).length s.2.2), (4, .int .i64 (s.1 : Nat))])
    (fun s w1 => s.1 ≤ n ∧ R.Own [] w w1 [.row s.2.1 (stripsV (L.take s.1)).length s.2.2 116 8 ((stripsV (L.take s.1)).flatMap cStrip)]) (fun s => n - s.1) ⟨(0, A0, c0'), ⟨rfl, rfl, rfl, rfl, trivial⟩, Nat.zero_le _, hM⟩ ?_
  clear hM
  rintro ⟨k, A1, c1⟩ f w3 ⟨hk, hM⟩
  dsimp only at hk hM ⊢
  by_cases hlt : k < n
  · obtain ⟨g1, ⟨hp, hpl, hpc, hpg⟩, ⟨hq, hql, hqc, hqg⟩, _⟩ := hG _ (R.nth_mem (L := L) (i := k) (by omega))
    have hok := errR_ok (hall k (by omega))
    have hsl := stripsV_len (L.take k)
    have hle := lineN_le L k
    (refine R.stepH ?_; (repeat' (first | (with_reducible refine And.intro ?_ ?_) | (with_reducible intro _))); all_goals refine R.Lft.mk ?_)
    refine R.WC_loop (fun s : Nat × Option Addr × Nat => [(0, .slice A n c), (2, .slice none 0 0), (3, .slice s.2.1 (stripsV (L.take k) ++ stripsR (nth L k) s.1).length s.2.2), (4, .int .i64 (k : Nat)), (5, .int .i64 (s.1 : Nat))])
      (fun s w1 => s.1 ≤ (nth L k).q.n ∧ R.Own [] w w1 [.row s.2.1 (stripsV (L.take k) ++ stripsR (nth L k) s.1).length s.2.2 116 8 ((stripsV (L.take k) ++ stripsR (nth L k) s.1).flatMap cStrip)]) (fun s => (nth L k).q.n - s.1)
      ⟨(0, A1, c1), ⟨rfl, rfl, R.viaS rfl (by simp [stripsR]), rfl, rfl, trivial⟩, Nat.zero_le _, by simpa [stripsR] using hM⟩ ?_
    clear hM
    rintro ⟨j, A2, c2⟩ f w4 ⟨hj, hM⟩
    dsimp only at hj hM ⊢
    have hl2 : (stripsV (L.take k) ++ stripsR (nth L k) j).length ≤ 20000 := by rw [List.length_append, stripsR_len]; omega
    by_cases hjt : j < (nth L k).q.n
    · (refine R.stepH ?_; (repeat' (first | (with_reducible refine And.intro ?_ ?_) | (with_reducible intro _))); all_goals refine R.Lft.mk ?_)
      refine R.WC_planD1 [(0, false), (1, false), (2, false), (3, false), (4, false), (5, false), (6, false), (7, false), (8, false), (9, false), (10, false), (11, false), (12, false), (13, false), (14, false), (15, false), (16, false), (17, false), (18, false), (19, false), (20, false), (21, false), (22, false), (23, false), (24, false), (25, false), (26, false), (27, false), (28, false), (29, false), (30, false), (31, false), (32, false), (33, false), (34, false), (35, false), (36, false), (37, false), (38, false), (39, true), (40, true), (41, false)] R.mixed (by decide +kernel) R.ohm ?_
      (refine R.stepH ?_; (repeat' (first | (with_reducible refine And.intro ?_ ?_) | (with_reducible intro _))); all_goals refine R.Lft.mk ?_)
      rename_i A7 c7 _ hM
      have hM : R.Own [] w _ [.row A7 1 c7 116 8 (cStrip (stripAt (nth L k) j)), .row A2 (stripsV (L.take k) ++ stripsR (nth L k) j).length c2 116 8 ((stripsV (L.take k) ++ stripsR (nth L k) j).flatMap cStrip)] := hM
      (refine R.stepH ?_; (repeat' (first | (with_reducible refine And.intro ?_ ?_) | (with_reducible intro _))); all_goals refine R.Lft.mk ?_)
      rename_i A8 c8 _ hM
      refine ⟨(j + 1, A8, c8), ⟨rfl, rfl, R.viaS rfl (by dsimp only; rw [stripsR_succ, ← List.append_assoc, List.length_append (bs := [_])]; rfl), rfl, R.viaI rfl (by dsimp only; omega), trivial⟩, ⟨by dsimp only; omega, ?_⟩, by dsimp only; omega⟩
      dsimp only
      rw [stripsR_succ, ← List.append_assoc, List.length_append (bs := [_])]
      exact hM
    · (refine R.stepH ?_; (repeat' (first | (with_reducible refine And.intro ?_ ?_) | (with_reducible intro _))); all_goals refine R.Lft.mk ?_)
      obtain rfl : j = (nth L k).q.n := by omega
      have hsn := stripsV_snoc (L := L) (k := k) (by omega)
      refine ⟨(k + 1, A2, c2), ⟨rfl, rfl, R.viaS rfl (by dsimp only; rw [hsn]), R.viaI rfl (by dsimp only; omega), trivial⟩, ⟨by dsimp only; omega, ?_⟩, by dsimp only; omega⟩
      dsimp only
      rw [hsn]
      exact R.ohm
  · (refine R.stepH ?_; (repeat' (first | (with_reducible refine And.intro ?_ ?_) | (with_reducible intro _))); all_goals refine R.Lft.mk ?_)
    have hlk : L.take k = L := List.take_of_length_le (by omega)
    rw [hlk] at hM ⊢
    exact ⟨A1, c1, rfl, hM.gives⟩
end
end Go.Proofs.Ytmmfndmfibbhcaa
