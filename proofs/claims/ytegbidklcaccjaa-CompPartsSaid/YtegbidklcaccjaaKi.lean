/- The parts of the document. -/
import Derived.Test.YtegbidklcaccjaaKh
namespace Go.Proofs.Ytegbidklcaccjaa
open Go.RowKit
open R (In64 InU64 lo64 nth)
/-- All walks' marks. -/
structure Mks (I : Ac) (n : Nat) (x : R.Sl Bool) (u : Nat) : Prop where
  n_ : x.n = n
  len : x.L.length = n
  rch : ∀ y, y < n → (nth x.L y = true ↔ Rch I.arc u y)
theorem own_nst1 {T : Type} {e : TypeId} {sz : Nat} {enc : T → List Value} {F : List Nat} {W0 w : World} {M : List (R.Sl T)} {pre : List R.Res} {x : R.Sl T} (hM : R.Own F W0 w (nst1 e sz enc x :: (pre ++ nst e sz enc M))) : R.Own F W0 w (pre ++ nst e sz enc (M ++ [x])) := by
  refine hM.perm ?_
  rw [nst_app]
  show (pre ++ (nst e sz enc M ++ [nst1 e sz enc x])).Perm _
  rw [← List.append_assoc]
  exact List.perm_append_comm.trans (List.Perm.refl _)
/-- The course of the document's numbering. -/
structure PtI (R : Nat → Nat → Prop) (n : Nat) (v : Nat) (m : Int) (P : List Int) : Prop where
  len : P.length = n
  nu : ∀ x, x < v → NumAt R P x ∧ 0 ≤ nth P x
  m_ : m = (fresh R v : Nat)
structure PtJ (R : Nat → Nat → Prop) (n : Nat) (v : Nat) (m : Int) (u : Nat) (P : List Int) : Prop extends PtI R n v m P where
  at_ : (nth P v = -1 ∧ ∀ x, x < u → ¬ R x v) ∨ (∃ x, x < v ∧ R x v ∧ nth P v = nth P x)
section
variable {R : Nat → Nat → Prop} {n v u : Nat} {m : Int} {P : List Int}
theorem PtI.put (h : PtI R n v m P) (hv : v < n) (c : Int) : PtI R n v m (P.set v c) := by
  have hl := h.len
  have hne : ∀ x, x < v → nth (P.set v c) x = nth P x := fun x hx => by rw [nth_setI (by omega), if_neg (by omega)]
  exact ⟨by rw [List.length_set]; exact hl, fun x hx => ⟨numAt_same (h.nu x hx).1 fun y hy => hne y (by omega), by rw [hne x hx]; exact (h.nu x hx).2⟩, h.m_⟩
theorem PtI.go (h : PtI R n v m P) (hv : v < n) : PtJ R n v m 0 (P.set v (-1)) := { h.put hv (-1) with at_ := .inl ⟨by rw [nth_setI (by have := h.len; omega), if_pos rfl], fun x hx => absurd hx (Nat.not_lt_zero _)⟩ }
theorem PtJ.yes (h : PtJ R n v m u P) (hv : v < n) (hu : u < v) (hR : R u v) : PtJ R n v m (u + 1) (P.set v (nth P u)) := by
  have hl := h.len
  exact { h.toPtI.put hv _ with at_ := .inr ⟨u, hu, hR, by rw [nth_setI (by omega), if_pos rfl, nth_setI (by omega), if_neg (by omega)]⟩ }
theorem PtJ.no (h : PtJ R n v m u P) (hR : ¬ R u v) : PtJ R n v m (u + 1) P := by
  refine ⟨h.toPtI, ?_⟩
  rcases h.at_ with ⟨e, q⟩ | q
  · refine .inl ⟨e, fun x hx => ?_⟩
    rcases Nat.lt_or_ge x u with d | d
    · exact q x d
    · rw [show x = u by omega]; exact hR
  · exact .inr q
theorem PtJ.lt (h : PtJ R n v m u P) : nth P v = -1 ∨ 0 ≤ nth P v := by
  rcases h.at_ with ⟨e, _⟩ | ⟨x, hx, _, e⟩
  · exact .inl e
  · rw [e]; exact .inr (h.nu x hx).2
theorem PtJ.old (h : PtJ R n v m u P) (hp : 0 ≤ nth P v) : PtI R n (v + 1) m P := by
  rcases h.at_ with ⟨e, _⟩ | ⟨x, hx, hR, e⟩
  · omega
  · refine ⟨h.len, fun y hy => ?_, by rw [fresh_old hx hR]; exact h.m_⟩
    rcases Nat.lt_or_ge y v with d | d
    · exact h.nu y d
    · rw [show y = v by omega]
      exact ⟨.inl ⟨x, hx, hR, e⟩, hp⟩
theorem PtJ.new (h : PtJ R n v m u P) (hv : v < n) (hp : nth P v < 0) (hu : v ≤ u) : PtI R n (v + 1) (m + 1) (P.set v m) := by
  have hl := h.len
  have hm := h.m_
  rcases h.at_ with ⟨e, q⟩ | ⟨x, hx, hR, e⟩
  · have hq : ∀ x, x < v → ¬ R x v := fun x hx => q x (by omega)
    have hp2 := h.toPtI.put hv m
    have hat : nth (P.set v m) v = m := by rw [nth_setI (by omega), if_pos rfl]
    refine ⟨hp2.len, fun y hy => ?_, by rw [fresh_new hq]; omega⟩
    rcases Nat.lt_or_ge y v with d | d
    · exact hp2.nu y d
    · rw [show y = v by omega]
      exact ⟨.inr ⟨hq, by rw [hat]; exact hm⟩, by rw [hat]; omega⟩
  · have := (h.nu x hx).2
    omega
theorem PtI.done (h : PtI R n n m P) : IsNum R n P := ⟨h.len, fun v hv => (h.nu v hv).1⟩
end
section
variable (g : Gph) (w : World) (hG : GGph w g) (hm : MayG g)
include hG hm
set_option maxHeartbeats 4000000 in
theorem rparts43_any : Calls Try.prog 17 #[.agg (cGph g).toArray] w fun e w' => ∃ A c L, IsNum (scc (acG g).arc) (g.st.n - 1) L ∧ e = .returned (.slice A (g.st.n - 1) c) ∧ R.Gives w w' A (g.st.n - 1) c 3 1 (L.flatMap R.cI) := by
  have hM := R.Own.start [] w
  have hI := acG_ok hm
  have n1 := hm.n1
  have n2 := hm.n2
  obtain ⟨n, hn⟩ : ∃ n, g.st.n - 1 = n := ⟨_, rfl⟩
  have hgn : (g.st.n : Int) - 1 = (n : Nat) := by omega
  have hIn : (acG g).n = n := hn
  rw [hn]
  have ek : ((g.st.n : Int) - 1).toNat = n := by omega
  refine R.calls_of_WC (fn := Try.f17) Try.func17 rfl Try.ntmps17 (Nat.le_of_ble_eq_true rfl) ?_
  (refine R.stepH ?_; (repeat' (first | (with_reducible refine And.intro ?_ ?_) | (with_reducible intro _))); all_goals refine R.Lft.mk ?_)
  rename_i gb _ _ _ _ A _ _ Aa ca _ hM
  rw [ek] at hM ⊢
  try rw [hgn]
  refine R.WC_loop (fun i : Option Addr × Nat × List (R.Sl Bool) => [(1, .pointer (some ⟨gb, 0, none⟩)), (2, .slice none 0 0), (3, .int .i64 (n : Nat)), (4, .slice A n n), (5, .slice i.1 i.2.2.length i.2.1), (6, .int .i64 (i.2.2.length : Nat))])
    (fun i w2 => i.2.2.length ≤ n ∧ (∀ u, u < i.2.2.length → Mks (acG g) n (nth i.2.2 u) u) ∧ R.Own [] w w2 (.row i.1 i.2.2.length i.2.1 30 1 (i.2.2.flatMap R.cSl) :: .row A n n 3 1 ((List.replicate n (0 : Int)).flatMap R.cI) :: .blk gb 24 (cGph g) :: nst 4 1 R.cB i.2.2)) (fun i => n - i.2.2.length)
    ⟨(Aa, ca, []), ⟨rfl, rfl, rfl, rfl, rfl, rfl, trivial⟩, Nat.zero_le _, fun u hu => absurd hu (Nat.not_lt_zero _), hM⟩ ?_
  clear hM
  rintro ⟨Aa, ca, Ms⟩ f f2w ⟨hk, hMs, hM⟩
  dsimp only at hk hMs hM ⊢
  by_cases hlt : Ms.length < n
  · (refine R.stepH ?_; (repeat' (first | (with_reducible refine And.intro ?_ ?_) | (with_reducible intro _))); all_goals refine R.Lft.mk ?_)
    refine R.WO_call2 rfl rfl R.vv R.vv ?_
    refine (rreach43_any g _ (GGph.now R.ohm hG) hm Ms.length (by omega)).mono ?_
    rintro _ w3 ⟨Ar, cr, B, hBl, hB, rfl, hGr⟩
    rw [hn] at hBl hB hGr ⊢
    have hM := R.Own.give R.ohm hGr
    refine ⟨_, rfl, ?_⟩
    (refine R.stepH ?_; (repeat' (first | (with_reducible refine And.intro ?_ ?_) | (with_reducible intro _))); all_goals refine R.Lft.mk ?_)
    rename_i A2 c2 _ hM
    refine R.WO_appT (T := R.Sl Bool) (enc := R.cSl) (L := Ms) (M := [⟨Ar, n, cr, B⟩]) rfl rfl rfl R.ohm (fun _ _ => R.upds) ⟨rfl⟩ ⟨rfl⟩ (by omega) (by omega) (fun Aa2 ca2 w4 hM => ?_)
    (refine R.stepH ?_; (repeat' (first | (with_reducible refine And.intro ?_ ?_) | (with_reducible intro _))); all_goals refine R.Lft.mk ?_)
    have hl : (Ms ++ [(⟨Ar, n, cr, B⟩ : R.Sl Bool)]).length = Ms.length + 1 := by simp
    refine ⟨(Aa2, ca2, Ms ++ [⟨Ar, n, cr, B⟩]), ⟨rfl, rfl, rfl, rfl, R.viaS rfl hl.symm, R.viaI rfl (by dsimp only; omega), trivial⟩, ⟨by dsimp only; omega, fun u hu => ?_, ?_⟩, by dsimp only; omega⟩
    · dsimp only at hu ⊢
      rcases Nat.lt_or_ge u Ms.length with d | d
      · rw [nth_appL d]
        exact hMs u d
      · have : u = Ms.length + 0 := by omega
        rw [this, nth_appR]
        exact ⟨rfl, hBl, fun y hy => by rw [Nat.add_zero]; exact hB y hy⟩
    · dsimp only
      rw [hl]
      exact own_nst1 (pre := [_, _, _]) (x := ⟨Ar, n, cr, B⟩) hM
  · obtain hk : Ms.length = n := by omega
    rw [hk] at hM ⊢
    clear hlt
    (refine R.stepH ?_; (repeat' (first | (with_reducible refine And.intro ?_ ?_) | (with_reducible intro _))); all_goals refine R.Lft.mk ?_)
    have hP := (show R.Own [] w f2w ([.row A n n 3 1 ((List.replicate n (0 : Int)).flatMap R.cI)] ++ (.row Aa n ca 30 1 (Ms.flatMap R.cSl) :: .blk gb 24 (cGph g) :: nst 4 1 R.cB Ms)) from R.pk (r := .row A n n _ _ _) R.ohm).perm List.perm_append_comm
    have hAA := R.Own.inpF hP (.head _)
    have hIu : ∀ u, u < n → _ := fun u hu => R.Own.inpF hP (.tail _ (.tail _ (nst_mem (M := Ms) (j := u) (by omega))))
    have hM := R.Own.startF (R.Own.has hP)
    obtain ⟨F, hF⟩ : ∃ F, R.keysOf [.row A n n 3 1 ((List.replicate n (0 : Int)).flatMap R.cI)] = F := ⟨_, rfl⟩
    rw [hF] at hM hAA
    simp only [hF] at hIu
    refine R.WC_loop (fun i : Nat × Nat × List Int => [(2, .slice none 0 0), (3, .int .i64 (n : Nat)), (4, .slice A n n), (5, .slice Aa n ca), (7, .int .i64 (i.2.1 : Nat)), (8, .int .i64 (i.1 : Nat))])
      (fun i w4 => i.1 ≤ n ∧ PtI (scc (acG g).arc) n i.1 (i.2.1 : Nat) i.2.2 ∧ R.Own F f2w w4 [.row A n n 3 1 (i.2.2.flatMap R.cI)]) (fun i => n - i.1)
      ⟨(0, 0, List.replicate n 0), ⟨rfl, rfl, rfl, rfl, rfl, rfl, trivial⟩, Nat.zero_le _, ⟨by simp, fun x hx => absurd hx (Nat.not_lt_zero _), rfl⟩, hM⟩ ?_
    clear hM
    rintro ⟨v, m, P⟩ f w4 ⟨hv, hPt, hM⟩
    dsimp only at hv hPt hM ⊢
    have hPl := hPt.len
    by_cases hvl : v < n
    · obtain ⟨gA, curA, rfl, _⟩ := row_form (R.Own.ok hM _ (.head _)) (by omega)
      (refine R.stepH ?_; (repeat' (first | (with_reducible refine And.intro ?_ ?_) | (with_reducible intro _))); all_goals refine R.Lft.mk ?_)
      refine R.WC_loop (fun i : Nat × List Int => [(2, .slice none 0 0), (3, .int .i64 (n : Nat)), (4, .slice (some ⟨gA, 0, none⟩) n n), (5, .slice Aa n ca), (7, .int .i64 (m : Nat)), (8, .int .i64 (v : Nat)), (9, .int .i64 (i.1 : Nat))])
        (fun i w5 => i.1 ≤ v ∧ PtJ (scc (acG g).arc) n v (m : Nat) i.1 i.2 ∧ R.Own F f2w w5 [.row (some ⟨gA, 0, none⟩) n n 3 1 (i.2.flatMap R.cI)]) (fun i => v - i.1)
        ⟨(0, P.set v (-1)), ⟨rfl, rfl, rfl, rfl, rfl, rfl, rfl, trivial⟩, Nat.zero_le _, hPt.go hvl, R.ohm⟩ ?_
      clear hM hPt hPl
      rintro ⟨u, P⟩ f w5 ⟨hu, hPj, hM⟩
      dsimp only at hu hPj hM ⊢
      have hPl := hPj.len
      have hlt2 := hPj.lt
      have hfl := fresh_le (R := scc (acG g).arc) (v := v)
      have hmf := hPj.m_
      by_cases hgo : u < v ∧ nth P v < 0
      · obtain ⟨hul, hneg⟩ := hgo
        have hAu := hIu u (by omega)
        have hAv := hIu v hvl
        obtain ⟨a1, a2, a3⟩ := hMs u (by omega)
        obtain ⟨b1, b2, b3⟩ := hMs v (by omega)
        have ha3 := a3 v hvl
        have hb3 := b3 u (by omega)
        have hno : (nth (nth Ms u).L v = false ∨ nth (nth Ms v).L u = false) → PtJ (scc (acG g).arc) n v (m : Nat) (u + 1) P := fun h => hPj.no fun q => by
          rcases h with h | h
          · exact xx_tf (ha3.2 q.1) h
          · exact xx_tf (hb3.2 q.2) h
        cases ca1 : nth (nth Ms u).L v <;> cases cb1 : nth (nth Ms v).L u
        all_goals
          (refine R.stepH ?_; (repeat' (first | (with_reducible refine And.intro ?_ ?_) | (with_reducible intro _))); all_goals refine R.Lft.mk ?_)
          all_goals first
            | exact xx_tf ca1 (by assumption)
            | exact xx_tf (by assumption) ca1
            | exact xx_tf cb1 (by assumption)
            | exact xx_tf (by assumption) cb1
            | skip
        · exact ⟨(u + 1, P), ⟨rfl, rfl, rfl, rfl, rfl, rfl, R.viaI rfl (by dsimp only; omega), trivial⟩, ⟨by dsimp only; omega, hno (.inl ca1), R.ohm⟩, by dsimp only; omega⟩
        · exact ⟨(u + 1, P), ⟨rfl, rfl, rfl, rfl, rfl, rfl, R.viaI rfl (by dsimp only; omega), trivial⟩, ⟨by dsimp only; omega, hno (.inl ca1), R.ohm⟩, by dsimp only; omega⟩
        · exact ⟨(u + 1, P), ⟨rfl, rfl, rfl, rfl, rfl, rfl, R.viaI rfl (by dsimp only; omega), trivial⟩, ⟨by dsimp only; omega, hno (.inr cb1), R.ohm⟩, by dsimp only; omega⟩
        · exact ⟨(u + 1, P.set v (nth P u)), ⟨rfl, rfl, rfl, rfl, rfl, rfl, R.viaI rfl (by dsimp only; omega), trivial⟩, ⟨by dsimp only; omega, hPj.yes hvl hul ⟨ha3.1 ca1, hb3.1 cb1⟩, R.ohm⟩, by dsimp only; omega⟩
      · (refine R.stepH ?_; (repeat' (first | (with_reducible refine And.intro ?_ ?_) | (with_reducible intro _))); all_goals refine R.Lft.mk ?_)
        · exact ⟨(v + 1, m, P), ⟨rfl, rfl, rfl, rfl, rfl, R.viaI rfl (by dsimp only; omega), trivial⟩, ⟨by dsimp only; omega, hPj.old (by omega), R.ohm⟩, by dsimp only; omega⟩
        · have q := hPj.new hvl (by omega) (by omega)
          rw [show ((m : Nat) : Int) + 1 = ((m + 1 : Nat) : Int) by omega] at q
          exact ⟨(v + 1, m + 1, P.set v (m : Nat)), ⟨rfl, rfl, rfl, rfl, R.viaI rfl (by dsimp only; omega), R.viaI rfl (by dsimp only; omega), trivial⟩, ⟨by dsimp only; omega, q, R.ohm⟩, by dsimp only; omega⟩
        · exact ⟨(v + 1, m, P), ⟨rfl, rfl, rfl, rfl, rfl, R.viaI rfl (by dsimp only; omega), trivial⟩, ⟨by dsimp only; omega, hPj.old (by omega), R.ohm⟩, by dsimp only; omega⟩
    · obtain rfl : v = n := by omega
      (refine R.stepH ?_; (repeat' (first | (with_reducible refine And.intro ?_ ?_) | (with_reducible intro _))); all_goals refine R.Lft.mk ?_)
      rw [← hF] at hM
      exact ⟨A, v, P, hPt.done, rfl, R.Own.gives (R.Own.sub (R.Own.callF hP hM) (List.sublist_append_right _ _))⟩
end
end Go.Proofs.Ytegbidklcaccjaa
