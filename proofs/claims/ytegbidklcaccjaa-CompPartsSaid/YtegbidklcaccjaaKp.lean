/- An order in which each arc leads on: the document's walk. -/
import Derived.Test.YtegbidklcaccjaaKo
namespace Go.Proofs.Ytegbidklcaccjaa
open Go.RowKit
open R (In64 InU64 lo64 nth)
/-- What is next, of the vertices from k on. -/
def NextOk (I : Ac) (S : List Nat) (k : Nat) (nx : Int) : Prop := (nx = -1 ∧ ∀ x, k ≤ x → ¬ FreeK I S x) ∨ ∃ v : Nat, nx = (v : Nat) ∧ FreeK I S v ∧ k ≤ v ∧ ∀ x, k ≤ x → FreeK I S x → v ≤ x
/-- What an order is told as. -/
def OrdEnd (n : Nat) (S : List Nat) (L : List Int) (ok : Bool) : Prop := (S.length < n ∧ ok = false ∧ L = []) ∨ (S.length = n ∧ ok = true ∧ L = asI S)
theorem xb_t {b : Bool} {p : Prop} (hd : b = true) (h : (!b) = true) : p := by rw [hd] at h; cases h
theorem xb_f {b : Bool} {p : Prop} (hd : b = false) (h : (!b) = false) : p := by rw [hd] at h; cases h
theorem nth_putB {L : List Bool} {v w : Nat} {c : Bool} (hv : v < L.length) : nth (L.set v c) w = if v = w then c else nth L w := by
  unfold R.nth
  rw [List.getD_eq_getElem?_getD, List.getD_eq_getElem?_getD, List.getElem?_set]
  by_cases e : v = w
  · subst e; rw [if_pos rfl, if_pos hv, if_pos rfl]; rfl
  · rw [if_neg e, if_neg e]
theorem nth_rep_f {n x : Nat} : nth (List.replicate n false) x = false := by
  unfold R.nth
  rw [List.getD_eq_getElem?_getD, List.getElem?_replicate]
  split <;> rfl
section
variable (g : Gph) (w : World) (hG : GGph w g) (hm : MayG g)
include hG hm
set_option maxHeartbeats 2000000 in
theorem rorder_any (h40 : g.st.n ≤ 40) : Calls Try.prog 45 #[.agg (cGph g).toArray] w fun e w' => ∃ S A c L ok, FullK (acG g) S ∧ OrdEnd (g.st.n - 1) S L ok ∧ e = .returned (.tuple #[.slice A L.length c, .bool ok]) ∧ R.Gives w w' A L.length c 3 1 (L.flatMap R.cI) := by
  have hM := R.Own.start [] w
  have hI := acG_ok hm
  have n1 := hm.n1
  obtain ⟨n, hn⟩ : ∃ n, g.st.n - 1 = n := ⟨_, rfl⟩
  have hgn : (g.st.n : Int) - 1 = (n : Nat) := by omega
  have hIn : (acG g).n = n := hn
  rw [hn]
  have ek : ((g.st.n : Int) - 1).toNat = n := by omega
  refine R.calls_of_WC (fn := Try.f45) Try.func45 rfl Try.ntmps45 (Nat.le_of_ble_eq_true rfl) ?_
  (refine R.stepH ?_; (repeat' (first | (with_reducible refine And.intro ?_ ?_) | (with_reducible intro _))); all_goals refine R.Lft.mk ?_)
  rename_i gb _ _ _ _ A0 c0 _ _ B w1 hM
  rw [ek] at hM ⊢
  try rw [hgn]
  refine R.WC_loop (fun i : Option Addr × Nat × List Nat × List Bool => [(1, .pointer (some ⟨gb, 0, none⟩)), (2, .slice none 0 0), (3, .bool false), (4, .int .i64 (n : Nat)), (5, .slice i.1 i.2.2.1.length i.2.1), (6, .slice B n n)])
    (fun i w2 => PreK (acG g) i.2.2.1 ∧ i.2.2.2.length = n ∧ (∀ x, x < n → (nth i.2.2.2 x = true ↔ x ∈ i.2.2.1)) ∧ R.Own [] w w2 [.row i.1 i.2.2.1.length i.2.1 3 1 ((asI i.2.2.1).flatMap R.cI), .row B n n 4 1 (i.2.2.2.flatMap R.cB), .blk gb 24 (cGph g)]) (fun i => n - i.2.2.1.length)
    ⟨(A0, c0, [], List.replicate n false), ⟨rfl, rfl, rfl, rfl, rfl, rfl, trivial⟩, .nil, by simp, fun x hx => by rw [nth_rep_f]; simp, R.Own.swap hM⟩ ?_
  clear hM
  rintro ⟨A, c, S, Dn⟩ f w2 ⟨hP, hDl, hD, hM⟩
  dsimp only at hP hDl hD hM ⊢
  have hnd := hP.nodup
  have hSn : S.length ≤ n := by have := nodup_le hnd.1 hnd.2; rwa [hIn] at this
  by_cases hlt : S.length < n
  · (refine R.stepH ?_; (repeat' (first | (with_reducible refine And.intro ?_ ?_) | (with_reducible intro _))); all_goals refine R.Lft.mk ?_)
    refine R.WC_loop (fun i : Nat × Int => [(1, .pointer (some ⟨gb, 0, none⟩)), (2, .slice none 0 0), (3, .bool false), (4, .int .i64 (n : Nat)), (5, .slice A S.length c), (6, .slice B n n), (7, .int .i64 i.2), (8, .int .i64 ((i.1 : Nat) - 1))])
      (fun i w3 => i.1 ≤ n ∧ NextOk (acG g) S i.1 i.2 ∧ R.Own [] w w3 [.row A S.length c 3 1 ((asI S).flatMap R.cI), .row B n n 4 1 (Dn.flatMap R.cB), .blk gb 24 (cGph g)]) (fun i => i.1)
      ⟨(n, -1), ⟨rfl, rfl, rfl, rfl, rfl, rfl, rfl, R.viaI rfl (by dsimp only), trivial⟩, Nat.le_refl _, .inl ⟨rfl, fun x hx hf => by have := hf.1; omega⟩, R.ohm⟩ ?_
    clear hM
    rintro ⟨k, nx⟩ f w3 ⟨hk, hN, hM⟩
    dsimp only at hk hN hM ⊢
    by_cases hkt : 0 < k
    · obtain ⟨u, rfl⟩ : ∃ u, k = u + 1 := ⟨k - 1, by omega⟩
      have e1 : (((u + 1 : Nat) : Int) - 1) = ((u : Nat) : Int) := by omega
      rw [e1]
      (refine R.stepH ?_; (repeat' (first | (with_reducible refine And.intro ?_ ?_) | (with_reducible intro _))); all_goals refine R.Lft.mk ?_)
      refine R.WC_loop (fun i : Nat × Bool => [(1, .pointer (some ⟨gb, 0, none⟩)), (2, .slice none 0 0), (3, .bool false), (4, .int .i64 (n : Nat)), (5, .slice A S.length c), (6, .slice B n n), (7, .int .i64 nx), (8, .int .i64 (u : Nat)), (9, .bool i.2), (10, .int .i64 (i.1 : Nat))])
        (fun i w3 => i.1 ≤ n ∧ (i.2 = true ↔ u ∉ S ∧ ∀ v, v < i.1 → v ∉ S → ¬ (acG g).leads v u) ∧ R.Own [] w w3 [.row A S.length c 3 1 ((asI S).flatMap R.cI), .row B n n 4 1 (Dn.flatMap R.cB), .blk gb 24 (cGph g)]) (fun i => n - i.1)
        ⟨(0, !nth Dn u), ⟨rfl, rfl, rfl, rfl, rfl, rfl, rfl, rfl, rfl, rfl, trivial⟩, Nat.zero_le _, by
          have := hD u (by omega)
          dsimp only
          cases hb : nth Dn u with
          | true => rw [hb] at this; simp [this.1 rfl]
          | false => rw [hb] at this; simp at this; simp [this], R.ohm⟩ ?_
      clear hM
      rintro ⟨j, fr⟩ f w4 ⟨hj, hfr, hM⟩
      dsimp only at hj hfr hM ⊢
      by_cases hjt : j < n
      · have hDj := hD j hjt
        cases hb : nth Dn j with
        | true =>
          rw [hb] at hDj
          have hjS := hDj.1 rfl
          (refine R.stepH ?_; (repeat' (first | (with_reducible refine And.intro ?_ ?_) | (with_reducible intro _))); all_goals refine R.Lft.mk ?_)
          · exact xb_t hb (by assumption)
          · refine ⟨(j + 1, fr), ⟨rfl, rfl, rfl, rfl, rfl, rfl, rfl, rfl, rfl, R.viaI rfl (by dsimp only; omega), trivial⟩, ⟨by dsimp only; omega, hfr.trans ⟨fun q => ⟨q.1, fun v hv hvS => ?_⟩, fun q => ⟨q.1, fun v hv hvS => q.2 v (by dsimp only; omega) hvS⟩⟩, R.ohm⟩, by dsimp only; omega⟩
            dsimp only at hv
            rcases Nat.lt_or_ge v j with d | d
            · exact q.2 v d hvS
            · have : v = j := by omega
              subst this
              exact absurd hjS hvS
        | false =>
          rw [hb] at hDj
          have hjS : j ∉ S := fun q => by have := hDj.2 q; cases this
          (refine R.stepH ?_; (repeat' (first | (with_reducible refine And.intro ?_ ?_) | (with_reducible intro _))); all_goals refine R.Lft.mk ?_)
          · refine R.WO_call3 rfl rfl R.vv R.vv R.vv ?_
            refine (karc_any g _ (GGph.now R.ohm hG) hm j u (by omega)).mono ?_
            rintro _ w5 ⟨rfl, hb5⟩
            have hM := R.Own.call R.ohm hb5
            refine ⟨_, rfl, ?_⟩
            have hiff := arcV_iff hm (v := j) (w := u) (by omega)
            (refine R.stepH ?_; (repeat' (first | (with_reducible refine And.intro ?_ ?_) | (with_reducible intro _))); all_goals refine R.Lft.mk ?_)
            · rename_i hh
              refine ⟨(j + 1, false), ⟨rfl, rfl, rfl, rfl, rfl, rfl, rfl, rfl, rfl, R.viaI rfl (by dsimp only; omega), trivial⟩, ⟨by dsimp only; omega, ⟨fun q => (by cases q), fun q => absurd (hiff.1 hh) (q.2 j (by dsimp only; omega) hjS)⟩, R.ohm⟩, by dsimp only; omega⟩
            · rename_i hh
              refine ⟨(j + 1, fr), ⟨rfl, rfl, rfl, rfl, rfl, rfl, rfl, rfl, rfl, R.viaI rfl (by dsimp only; omega), trivial⟩, ⟨by dsimp only; omega, hfr.trans ⟨fun q => ⟨q.1, fun v hv hvS => ?_⟩, fun q => ⟨q.1, fun v hv hvS => q.2 v (by dsimp only; omega) hvS⟩⟩, R.ohm⟩, by dsimp only; omega⟩
              dsimp only at hv
              rcases Nat.lt_or_ge v j with d | d
              · exact q.2 v d hvS
              · have : v = j := by omega
                subst this
                exact fun q => hh (hiff.2 q)
          · exact xb_f hb (by assumption)
      · obtain rfl : j = n := by omega
        cases fr with
        | true =>
          have hf : FreeK (acG g) S u := ⟨by omega, (hfr.1 rfl).1, fun v hv hvS => (hfr.1 rfl).2 v (by omega) hvS⟩
          (refine R.stepH ?_; (repeat' (first | (with_reducible refine And.intro ?_ ?_) | (with_reducible intro _))); all_goals refine R.Lft.mk ?_)
          refine ⟨(u, ((u : Nat) : Int)), ⟨rfl, rfl, rfl, rfl, rfl, rfl, rfl, R.viaI rfl (by dsimp only), trivial⟩, ⟨by dsimp only; omega, .inr ⟨u, rfl, hf, Nat.le_refl _, fun x hx _ => hx⟩, R.ohm⟩, by dsimp only; omega⟩
        | false =>
          have hf : ¬ FreeK (acG g) S u := fun q => by have := hfr.2 ⟨q.2.1, fun v hv hvS => q.2.2 v (by omega) hvS⟩; cases this
          (refine R.stepH ?_; (repeat' (first | (with_reducible refine And.intro ?_ ?_) | (with_reducible intro _))); all_goals refine R.Lft.mk ?_)
          refine ⟨(u, nx), ⟨rfl, rfl, rfl, rfl, rfl, rfl, rfl, R.viaI rfl (by dsimp only), trivial⟩, ⟨by dsimp only; omega, ?_, R.ohm⟩, by dsimp only; omega⟩
          rcases hN with ⟨q1, q2⟩ | ⟨v, q1, q2, q3, q4⟩
          · refine .inl ⟨q1, fun x hx hfx => ?_⟩
            rcases Nat.eq_or_lt_of_le hx with d | d
            · exact hf (by rw [show u = x from d]; exact hfx)
            · exact q2 x d hfx
          · refine .inr ⟨v, q1, q2, by dsimp only; omega, fun x hx hfx => ?_⟩
            rcases Nat.eq_or_lt_of_le hx with d | d
            · exact absurd (by rw [show u = x from d]; exact hfx) hf
            · exact q4 x d hfx
    · obtain rfl : k = 0 := by omega
      rcases hN with ⟨rfl, hN⟩ | ⟨v, rfl, hfv, _, hvm⟩
      · (refine R.stepH ?_; (repeat' (first | (with_reducible refine And.intro ?_ ?_) | (with_reducible intro _))); all_goals refine R.Lft.mk ?_)
        exact ⟨S, none, 0, [], false, ⟨hP, fun x hx => hN x (Nat.zero_le _) hx⟩, .inl ⟨hlt, rfl, rfl⟩, rfl, (R.Own.nil (R.Own.nul R.ohm) _ _).gives⟩
      · have hvn : v < n := by have := hfv.1; omega
        obtain ⟨gB, curB, rfl, _⟩ := row_form (R.Own.ok hM _ (.tail _ (.head _))) (by omega)
        (refine R.stepH ?_; (repeat' (first | (with_reducible refine And.intro ?_ ?_) | (with_reducible intro _))); all_goals refine R.Lft.mk ?_)
        rename_i A' c' _ hM
        have e2 : asI S ++ [((v : Nat) : Int)] = asI (S ++ [v]) := by simp [asI]
        have hlen : (S ++ [v]).length = S.length + 1 := by simp
        rw [e2, ← hlen] at hM
        refine ⟨(A', c', S ++ [v], Dn.set v true), ⟨rfl, rfl, rfl, rfl, R.viaS rfl (by dsimp only; rw [hlen]), rfl, trivial⟩, ⟨hP.snoc ⟨hfv, fun x hx => hvm x (Nat.zero_le _) hx⟩, by dsimp only; rw [List.length_set]; exact hDl, fun x hx => ?_, R.ohm⟩, by dsimp only; omega⟩
        dsimp only
        rw [nth_putB (by omega), List.mem_append, List.mem_singleton]
        by_cases e : v = x
        · rw [if_pos e]
          simp [e]
        · rw [if_neg e, hD x hx]
          constructor
          · exact .inl
          · rintro (q | q)
            · exact q
            · exact absurd q.symm e
  · (refine R.stepH ?_; (repeat' (first | (with_reducible refine And.intro ?_ ?_) | (with_reducible intro _))); all_goals refine R.Lft.mk ?_)
    have hSl : S.length = n := by omega
    refine ⟨S, A, c, asI S, true, ⟨hP, fun x hx => ?_⟩, .inr ⟨hSl, rfl, rfl⟩, by rw [asI_len], by rw [asI_len]; exact R.Own.gives (R.Own.sub hM R.subl)⟩
    have := nodup_le (S := x :: S) (n := n) (List.nodup_cons.2 ⟨hx.2.1, hnd.1⟩) fun y hy => by
      rcases List.mem_cons.1 hy with q | q
      · rw [q, ← hIn]; exact hx.1
      · rw [← hIn]; exact hnd.2 y q
    rw [List.length_cons] at this
    omega
end
end Go.Proofs.Ytegbidklcaccjaa
