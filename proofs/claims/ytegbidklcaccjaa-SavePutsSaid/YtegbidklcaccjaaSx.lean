/- Package save: nums. -/
import Derived.Test.YtegbidklcaccjaaSw
namespace Go.Proofs.Ytegbidklcaccjaa
open Go.RowKit
open R (In64 InU64 lo64 nth)
set_option maxHeartbeats 4000000 in
theorem nums_any (p : Pln) (w : World) (hG : GPln w p) (he : errAll p.rd.L = 0) (hb : p.bn.n ≤ 2000) (hc : p.cl.n ≤ 2000) : Calls Try.prog 54 #[.agg (cPln p).toArray] w fun e w' => ∃ A1 c1, e = .returned (.slice A1 (numsV p).length c1) ∧ R.Gives w w' A1 (numsV p).length c1 3 1 ((numsV p).flatMap R.cI) := by
  have hM := R.Own.start [] w
  obtain ⟨g1, ⟨hr, hrl, hrc, hrg⟩, ⟨hbn, hbl, hbc, hbg⟩, g4, ⟨hcl, hcll, hclc, hclg⟩⟩ := hG
  obtain ⟨h200, hall, hrs, h400⟩ := errAll_ok he
  have hnl := numsR_len hrg (fun x hx => by obtain ⟨j, hj, rfl⟩ := mem_nthR hx; exact hall j hj)
  have hbL := numsB_len p.bn.L
  refine R.calls_of_WC (fn := Try.f54) Try.func54 rfl Try.ntmps54 (Nat.le_of_ble_eq_true rfl) ?_
  (refine R.stepH ?_; (repeat' (first | (with_reducible refine And.intro ?_ ?_) | (with_reducible intro _))); all_goals refine R.Lft.mk ?_)
  rename_i bp _ _ A1 c1 w2 hM
  have hM : R.Own [] w w2 [.row A1 2 c1 3 1 (([p.st, ((p.rd.n : Nat) : Int)] : List Int).flatMap R.cI), .blk bp 44 (cPln p)] := hM
  refine R.WC_loop (fun s : Nat × Option Addr × Nat => [(1, .pointer (some ⟨bp, 0, none⟩)), (2, .slice none 0 0), (3, .slice s.2.1 ([p.st, ((p.rd.n : Nat) : Int)] ++ (p.rd.L.take s.1).flatMap numsR).length s.2.2), (17, .slice p.rd.A p.rd.n p.rd.c), (18, .int .i64 (p.rd.n : Nat)), (19, .int .i64 (s.1 : Nat))])
    (fun s w1 => s.1 ≤ p.rd.n ∧ R.Own [] w w1 [.row s.2.1 ([p.st, ((p.rd.n : Nat) : Int)] ++ (p.rd.L.take s.1).flatMap numsR).length s.2.2 3 1 (([p.st, ((p.rd.n : Nat) : Int)] ++ (p.rd.L.take s.1).flatMap numsR).flatMap R.cI), .blk bp 44 (cPln p)]) (fun s => p.rd.n - s.1) ⟨(0, A1, c1), ⟨rfl, rfl, rfl, rfl, rfl, rfl, trivial⟩, Nat.zero_le _, hM⟩ ?_
  clear hM
  rintro ⟨k, A2, c2⟩ f w3 ⟨hk, hM⟩
  dsimp only at hk hM ⊢
  by_cases hlt : k < p.rd.n
  · obtain ⟨gx, ⟨hp, hpl, hpc, hpg⟩, ⟨hq, hql, hqc, hqg⟩, _⟩ := hrg _ (R.nth_mem (L := p.rd.L) (i := k) (by omega))
    have hok := errR_ok (hall k (by omega))
    have hfs := flat_snoc (L := p.rd.L) (k := k) numsR (by omega)
    have hle : ([p.st, ((p.rd.n : Nat) : Int)] ++ (p.rd.L.take k).flatMap numsR).length ≤ 80002 := by
      have h1 : (p.rd.L.flatMap numsR) = (p.rd.L.take k).flatMap numsR ++ (p.rd.L.drop k).flatMap numsR := by rw [← List.flatMap_append, List.take_append_drop]
      rw [h1, List.length_append] at hnl
      rw [List.length_append]
      show 2 + _ ≤ _
      omega
    obtain ⟨P, hP⟩ : ∃ P, [p.st, ((p.rd.n : Nat) : Int)] ++ (p.rd.L.take k).flatMap numsR = P := ⟨_, rfl⟩
    rw [hP] at hM hle ⊢
    (refine R.stepH ?_; (repeat' (first | (with_reducible refine And.intro ?_ ?_) | (with_reducible intro _))); all_goals refine R.Lft.mk ?_)
    rename_i y _ _ w4 hM
    have hM := R.Own.swap hM
    refine R.WC_planD1 [(0, false), (1, false), (2, false), (3, false), (4, false), (6, false), (7, false), (8, false), (5, true), (9, true), (10, true), (11, false)] R.mixed (by decide +kernel) R.ohm ?_
    (refine R.stepH ?_; (repeat' (first | (with_reducible refine And.intro ?_ ?_) | (with_reducible intro _))); all_goals refine R.Lft.mk ?_)
    rename_i A3 c3 w5 hM
    obtain ⟨Q, hQ⟩ : ∃ Q, P ++ [(nth p.rd.L k).rank, bitI (nth p.rd.L k).both, (((nth p.rd.L k).p.n : Nat) : Int)] = Q := ⟨_, rfl⟩
    have hQl : Q.length = P.length + 3 := by rw [← hQ, List.length_append]; rfl
    have hM : R.Own [] w w5 [.row A3 (P.length + 3) c3 3 1 ((P ++ [(nth p.rd.L k).rank, bitI (nth p.rd.L k).both, (((nth p.rd.L k).p.n : Nat) : Int)]).flatMap R.cI), .blk y 93 (cRoad (nth p.rd.L k)), .blk bp 44 (cPln p)] := hM
    rw [hQ, ← hQl] at hM
    rw [← hQl]
    refine R.WC_loop (fun s : Nat × Option Addr × Nat => [(1, .pointer (some ⟨bp, 0, none⟩)), (2, .slice none 0 0), (3, .slice s.2.1 (Q ++ ((nth p.rd.L k).p.L.take s.1).flatMap numsP).length s.2.2), (5, .pointer (some ⟨y, 0, none⟩)), (17, .slice p.rd.A p.rd.n p.rd.c), (18, .int .i64 (p.rd.n : Nat)), (19, .int .i64 (k : Nat)), (35, .slice (nth p.rd.L k).p.A (nth p.rd.L k).p.n (nth p.rd.L k).p.c), (36, .int .i64 ((nth p.rd.L k).p.n : Nat)), (37, .int .i64 (s.1 : Nat))])
      (fun s w1 => s.1 ≤ (nth p.rd.L k).p.n ∧ R.Own [] w w1 [.row s.2.1 (Q ++ ((nth p.rd.L k).p.L.take s.1).flatMap numsP).length s.2.2 3 1 ((Q ++ ((nth p.rd.L k).p.L.take s.1).flatMap numsP).flatMap R.cI), .blk y 93 (cRoad (nth p.rd.L k)), .blk bp 44 (cPln p)]) (fun s => (nth p.rd.L k).p.n - s.1)
      ⟨(0, A3, c3), ⟨rfl, rfl, R.viaS rfl (by simp), rfl, rfl, rfl, rfl, rfl, rfl, rfl, trivial⟩, Nat.zero_le _, by simpa using hM⟩ ?_
    clear hM
    rintro ⟨j, A4, c4⟩ f w6 ⟨hj, hM⟩
    dsimp only at hj hM ⊢
    have hql2 : (Q ++ ((nth p.rd.L k).p.L.take j).flatMap numsP).length ≤ 90000 := by
      rw [List.length_append, numsP_len, List.length_take]
      omega
    by_cases hjt : j < (nth p.rd.L k).p.n
    · have hfp := flat_snoc (L := (nth p.rd.L k).p.L) (k := j) numsP (by omega)
      (refine R.stepH ?_; (repeat' (first | (with_reducible refine And.intro ?_ ?_) | (with_reducible intro _))); all_goals refine R.Lft.mk ?_)
      rename_i A5 c5 w7 hM
      refine ⟨(j + 1, A5, c5), ⟨rfl, rfl, R.viaS rfl (by dsimp only; rw [hfp, ← List.append_assoc, List.length_append (bs := numsP _)]; rfl), rfl, rfl, rfl, rfl, rfl, rfl, R.viaI rfl (by dsimp only; omega), trivial⟩, ⟨by dsimp only; omega, ?_⟩, by dsimp only; omega⟩
      dsimp only
      rw [hfp, ← List.append_assoc, List.length_append (bs := numsP _)]
      exact R.Own.tl hM
    · obtain rfl : j = (nth p.rd.L k).p.n := by omega
      have hfull : [p.st, ((p.rd.n : Nat) : Int)] ++ (p.rd.L.take (k + 1)).flatMap numsR = Q ++ ((nth p.rd.L k).p.L.take (nth p.rd.L k).p.n).flatMap numsP ++ (nth p.rd.L k).q.L := by
        rw [hfs, ← List.append_assoc, hP, ← hQ, List.take_of_length_le (by omega)]
        unfold numsR
        simp only [List.append_assoc]
      (refine R.stepH ?_; (repeat' (first | (with_reducible refine And.intro ?_ ?_) | (with_reducible intro _))); all_goals refine R.Lft.mk ?_)
      rename_i A5 c5 w7 hM
      refine ⟨(k + 1, A5, c5), ⟨rfl, rfl, R.viaS rfl (by dsimp only; rw [hfull, List.length_append (bs := (nth p.rd.L k).q.L), ← hql]), rfl, rfl, R.viaI rfl (by dsimp only; omega), trivial⟩, ⟨by dsimp only; omega, ?_⟩, by dsimp only; omega⟩
      dsimp only
      rw [hfull, List.length_append (bs := (nth p.rd.L k).q.L), ← hql]
      exact R.Own.tl2 hM
  · rw [List.take_of_length_le (by omega)] at hM ⊢
    obtain ⟨P, hP⟩ : ∃ P, [p.st, ((p.rd.n : Nat) : Int)] ++ p.rd.L.flatMap numsR = P := ⟨_, rfl⟩
    have hle : P.length ≤ 80002 := by
      rw [← hP, List.length_append]
      show 2 + _ ≤ _
      omega
    rw [hP] at hM ⊢
    (refine R.stepH ?_; (repeat' (first | (with_reducible refine And.intro ?_ ?_) | (with_reducible intro _))); all_goals refine R.Lft.mk ?_)
    rename_i A3 c3 w5 hM
    obtain ⟨S, hS⟩ : ∃ S, P ++ [p.pol, ((p.bn.n : Nat) : Int)] = S := ⟨_, rfl⟩
    have hSl : S.length = P.length + 2 := by rw [← hS, List.length_append]; rfl
    have hM : R.Own [] w w5 [.row A3 (P.length + 2) c3 3 1 ((P ++ [p.pol, ((p.bn.n : Nat) : Int)]).flatMap R.cI), .blk bp 44 (cPln p)] := hM
    rw [hS, ← hSl] at hM
    rw [← hSl]
    refine R.WC_loop (fun s : Nat × Option Addr × Nat => [(1, .pointer (some ⟨bp, 0, none⟩)), (2, .slice none 0 0), (3, .slice s.2.1 (S ++ (p.bn.L.take s.1).flatMap numsB).length s.2.2), (66, .slice p.bn.A p.bn.n p.bn.c), (67, .int .i64 (p.bn.n : Nat)), (68, .int .i64 (s.1 : Nat))])
      (fun s w1 => s.1 ≤ p.bn.n ∧ R.Own [] w w1 [.row s.2.1 (S ++ (p.bn.L.take s.1).flatMap numsB).length s.2.2 3 1 ((S ++ (p.bn.L.take s.1).flatMap numsB).flatMap R.cI), .blk bp 44 (cPln p)]) (fun s => p.bn.n - s.1) ⟨(0, A3, c3), ⟨rfl, rfl, R.viaS rfl (by simp), rfl, rfl, rfl, trivial⟩, Nat.zero_le _, by simpa using hM⟩ ?_
    clear hM
    rintro ⟨j, A4, c4⟩ f w6 ⟨hj, hM⟩
    dsimp only at hj hM ⊢
    have hql2 : (S ++ (p.bn.L.take j).flatMap numsB).length ≤ 90000 := by
      rw [List.length_append, numsB_len, List.length_take]
      omega
    by_cases hjt : j < p.bn.n
    · have hfp := flat_snoc (L := p.bn.L) (k := j) numsB (by omega)
      (refine R.stepH ?_; (repeat' (first | (with_reducible refine And.intro ?_ ?_) | (with_reducible intro _))); all_goals refine R.Lft.mk ?_)
      rename_i y _ _ w7 hM
      have hM := R.Own.swap hM
      refine R.WC_planD1 [(0, false), (1, false), (2, false), (3, false), (4, false), (5, false), (6, false), (7, true), (8, true), (9, true), (10, false)] R.mixed (by decide +kernel) R.ohm ?_
      (refine R.stepH ?_; (repeat' (first | (with_reducible refine And.intro ?_ ?_) | (with_reducible intro _))); all_goals refine R.Lft.mk ?_)
      rename_i A5 c5 w8 hM
      refine ⟨(j + 1, A5, c5), ⟨rfl, rfl, R.viaS rfl (by dsimp only; rw [hfp, ← List.append_assoc, List.length_append (bs := numsB _)]; rfl), rfl, rfl, R.viaI rfl (by dsimp only; omega), trivial⟩, ⟨by dsimp only; omega, ?_⟩, by dsimp only; omega⟩
      dsimp only
      rw [hfp, ← List.append_assoc, List.length_append (bs := numsB _)]
      exact R.Own.tl2 hM
    · rw [List.take_of_length_le (by omega)] at hM hql2 ⊢
      have hfin : S ++ p.bn.L.flatMap numsB ++ [((p.cl.n : Nat) : Int)] ++ p.cl.L = numsV p := by
        rw [← hS, ← hP]
        unfold numsV
        simp only [List.append_assoc]
      have hfl : (numsV p).length = (S ++ p.bn.L.flatMap numsB).length + 1 + p.cl.n := by rw [← hfin, List.length_append, List.length_append (bs := [_]), hcll]; rfl
      (refine R.stepH ?_; (repeat' (first | (with_reducible refine And.intro ?_ ?_) | (with_reducible intro _))); all_goals refine R.Lft.mk ?_)
      refine R.WC_planD1 [(0, false), (1, false), (2, false), (3, false), (6, false), (7, false), (4, true), (5, true), (8, true), (9, false)] R.mixed (by decide +kernel) R.ohm ?_
      (refine R.stepH ?_; (repeat' (first | (with_reducible refine And.intro ?_ ?_) | (with_reducible intro _))); all_goals refine R.Lft.mk ?_)
      rename_i A5 c5 w8 hM
      refine ⟨A5, c5, by rw [hfl], ?_⟩
      rw [hfl, ← hfin]
      exact R.Own.gives hM
end Go.Proofs.Ytegbidklcaccjaa
