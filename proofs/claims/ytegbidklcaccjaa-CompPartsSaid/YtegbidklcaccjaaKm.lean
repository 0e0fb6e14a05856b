/- Maps from numbers to numbers whose size is known; parts with numbers from 0 on. -/
import Derived.Test.YtegbidklcaccjaaKb
import Derived.Test.YtegbidklcaccjaaKq
namespace Go.Proofs.Ytegbidklcaccjaa
open Go.ChangeMaps Go.MapKept Go.WideShapes Go.WideElems Go.RowKit
open Go.Maps (Keyed IsMap)
open R (In64 InU64 lo64 nth)
namespace R
/-- A map that holds s entries. -/
def IsMz (P : Program) (k e : TypeId) (es : Array MapEntry) (clk n : Nat) (m : Int → Option Int) (s : Nat) : Prop := ∀ (w : World) (b : Nat), w.heap[b]? = some (.map es clk) → ∃ D : DataW Unit, w.ownsMap P k (plainElem P e) b n D ∧ View D m ∧ Maps.size D = s
section
variable {P : Program} {C : CallH} {o : Oper} {f : Fr} {w : World} {K : Value → World → Prop} {t k e : TypeId} {x y z : Operand} {F : List Nat} {W : World} {l : List Res} {b n s : Nat} {es : Array MapEntry} {clk : Nat} {m : Int → Option Int} {a v : Int}
theorem IsMz.isM (h : IsMz P k e es clk n m s) : IsM P k e es clk n m := fun w b hb => by
  obtain ⟨D, h1, h2, _⟩ := h w b hb
  exact ⟨D, h1, h2⟩
theorem isMz_of {es' : Array MapEntry} {clk' n' : Nat} {D : DataW Unit} {m' : Int → Option Int} (h : w.ownsMap P k (plainElem P e) b n' D) (hb : w.heap[b]? = some (.map es' clk')) (hv : View D m') (hs : Maps.size D = s) : IsMz P k e es' clk' n' m' s := fun w2 b2 h2 => by
  obtain ⟨es1, clk1, hb1, Ft, hq, hD⟩ := h
  rw [hb] at hb1
  injection hb1 with hb1
  injection hb1 with e1 e2
  subst e1 e2
  exact ⟨D, ⟨es', clk', h2, Ft, hq, hD⟩, hv, hs⟩
theorem isMz_empty (P : Program) (k e : TypeId) : IsMz P k e #[] 0 0 (fun _ => none) 0 := fun w b h =>
  ⟨.map [], ⟨#[], 0, h, ⟨by simp, stamped_empty 0, by simp⟩, Nat.le_refl _, rfl⟩, fun a _ => ⟨rfl, fun v hv => by cases hv⟩, rfl⟩
theorem isMz_le {n' : Nat} (h : IsMz P k e es clk n m s) (hn : n ≤ n') : IsMz P k e es clk n' m s := fun w b hb => by
  obtain ⟨D, ⟨es1, clk1, hb1, Ft, hs, hD⟩, hv, hz⟩ := h w b hb
  exact ⟨D, ⟨es1, clk1, hb1, Ft, Nat.le_trans hs hn, hD⟩, hv, hz⟩
theorem WO_mapSetZ {l' : Array MapEntry → Nat → List Res} (hop : o.op = .mapUpdate t x y z) [T : MapII P t k e] (hx : ev f x = .map (some b)) (hy : ev f y = .int .i64 a) (hz : ev f z = .int .i64 v) (ha : In64 a) (hv : In64 v) (hM : Own F W w l) (hI : IsMz P k e es clk n m s) (hn : n < maxLen)
    (hu : ∀ es' clk', Upd l (.map b es clk) (.map b es' clk') (l' es' clk')) (hk : ∀ es' clk' w', IsMz P k e es' clk' (n + 1) (putM m a v) (if (m a).isSome then s else s + 1) → Own F W w' (l' es' clk') → K undef w') : WO P C o f w K := by
  have hb : w.heap[b]? = some (.map es clk) := hM.ok _ (hu es clk).old
  obtain ⟨D, ho, hV, hs⟩ := hI w b hb
  have hK : Keyed P k := Maps.int_keyed T.hk
  obtain ⟨w', hrun, h1, h2⟩ := ho.store hK T.h hn (Maps.keyOf_int_mk T.hk (wf64 ha)) (plainElem_int T.he (wf64 hv))
  obtain ⟨es', clk', hb', _⟩ := id h1
  have hsz : Maps.size (D.put (.int .i64 a) (.lit (.int .i64 v))) = if (m a).isSome then s else s + 1 := by
    rw [Maps.size_put (ho.tidy hK), (hV a ha).1, hs]
  refine WO_do (w' := w') ?_ (hk es' clk' w' (isMz_of h1 hb' (hV.put ho.isMap ha) hsz) (turned_own hM h2 hb' (hu es' clk')))
  simp [execOp, hop, hx, hy, hz, hrun]
theorem WO_lenMz (hop : o.op = .call { callee := .builtin .len, args := #[x], argTypes := #[t] }) [T : MapII P t k e] (hx : ev f x = .map (some b)) (hM : Own F W w l) (hm : .map b es clk ∈ l) (hI : IsMz P k e es clk n m s) (hk : K (.int .i64 (s : Nat)) w) : WO P C o f w K := by
  obtain ⟨D, ho, hV, hs⟩ := hI w b (hM.ok _ hm)
  refine WO_val ?_ hk
  have := ho.len T.h o.type
  rw [hs] at this
  simp only [execOp, hop, resolve, invoke, builtin, Sem.run_bind, Sem.run_pure, Result.andThen_ok, List.map_toArray, List.map_cons, List.map_nil, hx, this]
end
end R
/-- The course of numbering: what the map knows of the first v ones. -/
def KnowM (P : List Int) (L : List Int) (v : Nat) (κ : Int → Option Int) : Prop := ∀ a, match κ a with
  | some c => ∃ u, u < v ∧ nth P u = a ∧ nth L u = c
  | none => ∀ u, u < v → nth P u ≠ a
def eqP (P : List Int) (u v : Nat) : Prop := nth P u = nth P v
/-- Numbers of the first v ones. -/
def NumTo (P : List Int) (L : List Int) (v : Nat) : Prop := ∀ u, u < v → NumAt (eqP P) L u
theorem numAt_same {R : Nat → Nat → Prop} {L L' : List Int} {v : Nat} (h : NumAt R L v) (he : ∀ u, u ≤ v → nth L' u = nth L u) : NumAt R L' v := by
  rcases h with ⟨u, hu, hR, e⟩ | ⟨hn, e⟩
  · exact .inl ⟨u, hu, hR, by rw [he v (Nat.le_refl _), he u (by omega)]; exact e⟩
  · exact .inr ⟨hn, by rw [he v (Nat.le_refl _)]; exact e⟩
theorem km_s {κ : Int → Option Int} {a c : Int} {p : Prop} (h : κ a = some c) (q : (!(κ a).isSome) = true) : p := by rw [h] at q; cases q
theorem km_n {κ : Int → Option Int} {a : Int} {p : Prop} (h : κ a = none) (q : (!(κ a).isSome) = false) : p := by rw [h] at q; cases q
theorem nth_setI {L : List Int} {v u : Nat} {x : Int} (hv : v < L.length) : nth (L.set v x) u = if v = u then x else nth L u := by
  unfold R.nth
  rw [List.getD_eq_getElem?_getD, List.getD_eq_getElem?_getD, List.getElem?_set]
  by_cases e : v = u
  · subst e; rw [if_pos rfl, if_pos hv, if_pos rfl]; rfl
  · rw [if_neg e, if_neg e]
theorem num_old {P L : List Int} {v : Nat} {κ : Int → Option Int} {c : Int} (hK : KnowM P L v κ) (hN : NumTo P L v) (hv : v < L.length) (hc : κ (nth P v) = some c) : KnowM P (L.set v c) (v + 1) κ ∧ NumTo P (L.set v c) (v + 1) ∧ fresh (eqP P) (v + 1) = fresh (eqP P) v := by
  have hk := hK (nth P v)
  rw [hc] at hk
  obtain ⟨u, hu, e1, e2⟩ := hk
  have hne : ∀ x, x < v → nth (L.set v c) x = nth L x := fun x hx => by rw [nth_setI hv, if_neg (by omega)]
  have hat : nth (L.set v c) v = c := by rw [nth_setI hv, if_pos rfl]
  refine ⟨fun a => ?_, fun x hx => ?_, fresh_old hu e1⟩
  · have ha := hK a
    cases q : κ a with
    | none =>
      rw [q] at ha
      intro x hx
      rcases Nat.lt_or_ge x v with d | d
      · exact ha x d
      · rw [show x = v by omega]
        intro e
        rw [e, q] at hc
        cases hc
    | some y =>
      rw [q] at ha
      obtain ⟨x, hx, q1, q2⟩ := ha
      exact ⟨x, by omega, q1, by rw [hne x hx]; exact q2⟩
  · rcases Nat.lt_or_ge x v with d | d
    · exact numAt_same (hN x d) fun y hy => hne y (by omega)
    · rw [show x = v by omega]
      exact .inl ⟨u, hu, e1, by rw [hat, hne u hu, e2]⟩
theorem num_new {P L : List Int} {v : Nat} {κ : Int → Option Int} (hK : KnowM P L v κ) (hN : NumTo P L v) (hv : v < L.length) (hc : κ (nth P v) = none) : KnowM P (L.set v (fresh (eqP P) v : Nat)) (v + 1) (R.putM κ (nth P v) (fresh (eqP P) v : Nat)) ∧ NumTo P (L.set v (fresh (eqP P) v : Nat)) (v + 1) ∧ fresh (eqP P) (v + 1) = fresh (eqP P) v + 1 := by
  have hk := hK (nth P v)
  rw [hc] at hk
  have hne : ∀ x, x < v → nth (L.set v (fresh (eqP P) v : Nat)) x = nth L x := fun x hx => by rw [nth_setI hv, if_neg (by omega)]
  have hat : nth (L.set v (fresh (eqP P) v : Nat)) v = (fresh (eqP P) v : Nat) := by rw [nth_setI hv, if_pos rfl]
  have hno : ∀ u, u < v → ¬ eqP P u v := fun u hu => hk u hu
  refine ⟨fun a => ?_, fun x hx => ?_, fresh_new hno⟩
  · by_cases e : a = nth P v
    · rw [e, R.putM_same]
      exact ⟨v, by omega, rfl, hat⟩
    · rw [R.putM_ne e]
      have ha := hK a
      cases q : κ a with
      | none =>
        rw [q] at ha
        intro x hx
        rcases Nat.lt_or_ge x v with d | d
        · exact ha x d
        · rw [show x = v by omega]
          exact fun q2 => e q2.symm
      | some y =>
        rw [q] at ha
        obtain ⟨x, hx, q1, q2⟩ := ha
        exact ⟨x, by omega, q1, by rw [hne x hx]; exact q2⟩
  · rcases Nat.lt_or_ge x v with d | d
    · exact numAt_same (hN x d) fun y hy => hne y (by omega)
    · rw [show x = v by omega]
      exact .inr ⟨hno, hat⟩
section
variable (P : R.Sl Int) (w : World) (hP : R.Inp [] w P.A P.n 1 (P.L.flatMap R.cI)) (hn : P.n = P.L.length) (hb : P.n ≤ 100000) (h64 : ∀ x ∈ P.L, In64 x)
include hP hn hb h64
set_option maxHeartbeats 2000000 in
theorem numbered_any : Calls Try.prog 48 #[.slice P.A P.n P.c] w fun e w' => ∃ A c L, IsNum (eqP P.L) P.n L ∧ e = .returned (.slice A P.n c) ∧ R.Gives w w' A P.n c 3 1 (L.flatMap R.cI) := by
  have hM := R.Own.start [] w
  refine R.calls_of_WC (fn := Try.f48) Try.func48 rfl Try.ntmps48 (Nat.le_of_ble_eq_true rfl) ?_
  (refine R.stepH ?_; (repeat' (first | (with_reducible refine And.intro ?_ ?_) | (with_reducible intro _))); all_goals refine R.Lft.mk ?_)
  refine R.WO_mkMap rfl R.ohm (fun b w0 hM => ?_)
  (refine R.stepH ?_; (repeat' (first | (with_reducible refine And.intro ?_ ?_) | (with_reducible intro _))); all_goals refine R.Lft.mk ?_)
  rename_i A w1 hM
  refine R.WC_loop (fun i : Nat × List Int × (Int → Option Int) × Array MapEntry × Nat => [(2, .slice none 0 0), (3, .map (some b)), (4, .slice A P.n P.n), (13, .slice P.A P.n P.c), (14, .int .i64 (P.n : Nat)), (15, .int .i64 (i.1 : Nat))])
    (fun i w2 => i.1 ≤ P.n ∧ KnowM P.L i.2.1 i.1 i.2.2.1 ∧ R.IsMz Try.prog 3 3 i.2.2.2.1 i.2.2.2.2 i.1 i.2.2.1 (fresh (eqP P.L) i.1) ∧ NumTo P.L i.2.1 i.1 ∧ i.2.1.length = P.n ∧ R.Own [] w w2 [.row A P.n P.n 3 1 (i.2.1.flatMap R.cI), .map b i.2.2.2.1 i.2.2.2.2]) (fun i => P.n - i.1)
    ⟨(0, List.replicate P.n 0, (fun _ => none), #[], 0), ⟨rfl, rfl, rfl, rfl, rfl, rfl, trivial⟩, Nat.zero_le _, fun a u hu => absurd hu (Nat.not_lt_zero _), R.isMz_empty _ _ _, fun u hu => absurd hu (Nat.not_lt_zero _), by simp, hM⟩ ?_
  clear hM
  rintro ⟨v, L, κ, es, clk⟩ f w2 ⟨hv, hK, hZ, hN, hLl, hM⟩
  dsimp only at hv hK hZ hN hLl hM ⊢
  by_cases hlt : v < P.n
  · have hI := hZ.isM
    have hp64 : In64 (nth P.L v) := h64 _ (R.nth_mem (by omega))
    have hfl := fresh_le (R := eqP P.L) (v := v)
    obtain ⟨gA, curA, rfl, _⟩ := row_form (R.Own.ok hM _ (.head _)) (by omega)
    cases hκ : κ (nth P.L v) with
    | none =>
      obtain ⟨k1, k2, k3⟩ := num_new hK hN (by omega) hκ
      (refine R.stepH ?_; (repeat' (first | (with_reducible refine And.intro ?_ ?_) | (with_reducible intro _))); all_goals refine R.Lft.mk ?_)
      · clear hI
        refine R.WO_lenMz rfl rfl R.ohm R.memb hZ ?_
        (refine R.stepH ?_; (repeat' (first | (with_reducible refine And.intro ?_ ?_) | (with_reducible intro _))); all_goals refine R.Lft.mk ?_)
        refine R.WO_mapSetZ rfl rfl rfl rfl hp64 (by unfold In64; omega) R.ohm hZ (by unfold maxLen; omega) (fun _ _ => R.upds) (fun es2 clk2 w3 hZ2 hM => ?_)
        simp only [hκ, Option.isSome_none, Bool.false_eq_true, if_false] at hZ2
        (refine R.stepH ?_; (repeat' (first | (with_reducible refine And.intro ?_ ?_) | (with_reducible intro _))); all_goals refine R.Lft.mk ?_)
        rename_i hM
        exact ⟨(v + 1, L.set v (fresh (eqP P.L) v : Nat), R.putM κ (nth P.L v) (fresh (eqP P.L) v : Nat), es2, clk2), ⟨rfl, rfl, rfl, rfl, rfl, R.viaI rfl (by dsimp only; omega), trivial⟩, ⟨by dsimp only; omega, k1, by dsimp only; rw [k3]; exact hZ2, k2, by dsimp only; rw [List.length_set]; exact hLl, hM⟩, by dsimp only; omega⟩
      · exact km_n hκ (by assumption)
    | some c =>
      obtain ⟨k1, k2, k3⟩ := num_old hK hN (by omega) hκ
      (refine R.stepH ?_; (repeat' (first | (with_reducible refine And.intro ?_ ?_) | (with_reducible intro _))); all_goals refine R.Lft.mk ?_)
      · exact km_s hκ (by assumption)
      · rename_i hM
        rw [hκ] at hM
        exact ⟨(v + 1, L.set v c, κ, es, clk), ⟨rfl, rfl, rfl, rfl, rfl, R.viaI rfl (by dsimp only; omega), trivial⟩, ⟨by dsimp only; omega, k1, by dsimp only; rw [k3]; exact R.isMz_le hZ (Nat.le_succ v), k2, by dsimp only; rw [List.length_set]; exact hLl, hM⟩, by dsimp only; omega⟩
  · obtain rfl : v = P.n := by omega
    (refine R.stepH ?_; (repeat' (first | (with_reducible refine And.intro ?_ ?_) | (with_reducible intro _))); all_goals refine R.Lft.mk ?_)
    exact ⟨_, _, L, ⟨hLl, hN⟩, rfl, R.Own.gives (R.Own.sub R.ohm R.subl)⟩
end
end Go.Proofs.Ytegbidklcaccjaa
