/- Package stat: which nodes edges connect: roots, joins, parts. -/
import Derived.Test.YtoainfnhmdcpoaaYb
import Derived.Test.YtoainfnhmdcpoaaPk
namespace Go.Proofs.Ytoainfnhmdcpoaa
open Go.RowKit
open R (In64 InU64 lo64 nth)
/-- A forest as a row. -/
def FL (n : Nat) (F : Nat → Nat) : List Int := (List.range n).map fun v => ((F v : Nat) : Int)
theorem FL_len (n : Nat) (F : Nat → Nat) : (FL n F).length = n := by simp [FL]
theorem FL_nth {n : Nat} {F : Nat → Nat} {v : Nat} (h : v < n) : nth (FL n F) v = ((F v : Nat) : Int) := by
  rw [R.nth_eq (by rw [FL_len]; exact h)]
  simp [FL]
theorem FL_congr {n : Nat} {F G : Nat → Nat} (h : ∀ v, v < n → F v = G v) : FL n F = FL n G := by
  unfold FL
  exact List.map_congr_left fun v hv => by rw [h v (List.mem_range.1 hv)]
theorem FL_set {n : Nat} {F : Nat → Nat} {v y : Nat} (h : v < n) : (FL n F).set v ((y : Nat) : Int) = FL n (setF F v y) := by
  refine list_eqI (by simp [FL]) fun u hu => ?_
  rw [List.length_set, FL_len] at hu
  rw [nth_setI (by rw [FL_len]; exact h), FL_nth hu, FL_nth hu]
  unfold setF
  by_cases e : v = u
  · rw [if_pos e, if_pos e.symm]
  · rw [if_neg e, if_neg (Ne.symm e)]
/-- Ways to roots were made shorter. -/
inductive Hv : (Nat → Nat) → (Nat → Nat) → Prop
  | refl {F : Nat → Nat} : Hv F F
  | step {F F' : Nat → Nat} (v : Nat) : Hv F F' → Hv F (setF F' v (F' (F' v)))
theorem Hv.le {F F' : Nat → Nat} (h : Hv F F') : (∀ v, F v ≤ v) → ∀ v, F' v ≤ v := by
  induction h with
  | refl => exact id
  | @step F' v h0 ih =>
    intro hF u
    have ih := ih hF
    unfold setF
    split
    · rename_i e
      subst e
      have a := ih u
      have b := ih (F' u)
      omega
    · exact ih u
theorem Hv.rtf {F F' : Nat → Nat} (h : Hv F F') : (∀ v, F v ≤ v) → ∀ {u r : Nat}, Rtf F u r → Rtf F' u r := by
  induction h with
  | refl => exact fun _ _ _ q => q
  | @step F' v h0 ih => exact fun hF _ _ q => (ih hF q).half (h0.le hF)
theorem Hv.fo {F F' : Nat → Nat} {G : Eg} {k : Nat} (h : Hv F F') : Fo G k F → Fo G k F' := by
  induction h with
  | refl => exact id
  | step v _ ih => exact fun q => (ih q).half v
theorem rtf_next {F : Nat → Nat} {v r : Nat} (h : Rtf F v r) : Rtf F (F v) r := by
  cases h with
  | base e => rw [e]; exact .base e
  | step _ q => exact q
section
variable (n c : Nat) (A : Option Addr) (F0 : Nat → Nat) (w : World) (hR : R.Has w [.row A n c 3 1 ((FL n F0).flatMap R.cI)]) (hF : ∀ v, F0 v ≤ v) (hb : n ≤ 1000000)
include hR hF hb
set_option maxHeartbeats 2000000 in
theorem root_any (v0 : Nat) (hv : v0 < n) : Calls Try.prog 112 #[.slice A n c, .int .i64 (v0 : Nat)] w fun e w' => ∃ F r, Hv F0 F ∧ Rtf F0 v0 r ∧ e = .returned (.int .i64 ((r : Nat) : Int)) ∧ R.Own (R.keysOf [.row A n c 3 1 ((FL n F0).flatMap R.cI)]) w w' [.row A n c 3 1 ((FL n F).flatMap R.cI)] := by
  have hM := R.Own.startF hR
  obtain ⟨K, hK⟩ : ∃ K, R.keysOf [.row A n c 3 1 ((FL n F0).flatMap R.cI)] = K := ⟨_, rfl⟩
  rw [hK] at hM ⊢
  clear hK hR
  obtain ⟨r, hr⟩ := Rtf.some_ hF v0
  obtain ⟨gA, rfl⟩ := row_form (R.Own.ok hM _ (.head _)) (by omega)
  refine R.calls_of_WC (fn := Try.f112) Try.func112 rfl Try.ntmps112 (Nat.le_of_ble_eq_true rfl) ?_
  (refine R.stepV ?_; (repeat' (first | (with_reducible refine And.intro ?_ ?_) | (with_reducible intro _))); all_goals refine R.Lft.mk ?_)
  refine R.WC_loop (fun i : Nat × (Nat → Nat) => [(0, .slice (some ⟨gA, 0, none⟩) n c), (1, .int .i64 ((i.1 : Nat) : Int)), (4, .int .i64 0)])
    (fun i w2 => i.1 < n ∧ Hv F0 i.2 ∧ Rtf i.2 i.1 r ∧ R.Own K w w2 [.row (some ⟨gA, 0, none⟩) n c 3 1 ((FL n i.2).flatMap R.cI)]) (fun i => i.1)
    ⟨(v0, F0), ⟨rfl, rfl, rfl, trivial⟩, hv, .refl, hr, R.ohm⟩ ?_
  clear hM
  rintro ⟨v, F⟩ f w2 ⟨hvn, hH, hrt, hM⟩
  dsimp only at hvn hH hrt hM ⊢
  have hle := hH.le hF
  have hfl := FL_len n F
  have hFv := FL_nth (F := F) hvn
  have hl1 := hle v
  have hFF := FL_nth (n := n) (F := F) (v := F v) (by omega)
  have hl2 := hle (F v)
  by_cases he : F v = v
  · have : v = r := by
      have := hrt.det (.base he)
      exact this.symm
    subst this
    (refine R.stepV ?_; (repeat' (first | (with_reducible refine And.intro ?_ ?_) | (with_reducible intro _))); all_goals refine R.Lft.mk ?_)
    exact ⟨F, v, hH, hr, rfl, hM⟩
  · have hset := FL_set (F := F) (v := v) (y := F (F v)) hvn
    have ht : (nth (FL n F) v).toNat = F v := by rw [hFv]; exact Int.toNat_natCast _
    have hx : nth (FL n F) (nth (FL n F) v).toNat = ((F (F v) : Nat) : Int) := by rw [ht, hFF]
    (refine R.stepV ?_; (repeat' (first | (with_reducible refine And.intro ?_ ?_) | (with_reducible intro _))); all_goals refine R.Lft.mk ?_)
    rename_i hM
    rw [hx, hset] at hM
    refine ⟨(F (F v), setF F v (F (F v))), ⟨rfl, R.viaI rfl (by dsimp only; rw [hx, hset, FL_nth hvn]; unfold setF; rw [if_pos rfl]), rfl, trivial⟩, ⟨by dsimp only; omega, hH.step v, (rtf_next (rtf_next hrt)).half hle, hM⟩, ?_⟩
    dsimp only
    have : F v < v := by omega
    omega
end
section
variable (n c : Nat) (A : Option Addr) (F0 : Nat → Nat) (w : World) (hR : R.Has w [.row A n c 3 1 ((FL n F0).flatMap R.cI)]) (hb : n ≤ 1000000) (G : Eg) (k : Nat) (hG : Fo G k F0)
include hR hb hG
set_option maxHeartbeats 2000000 in
theorem join_st (ha : G.a k < n) (hb2 : G.b k < n) : Calls Try.prog 111 #[.slice A n c, .int .i64 ((G.a k : Nat) : Int), .int .i64 ((G.b k : Nat) : Int)] w fun e w' => ∃ F, Fo G (k + 1) F ∧ e = .returned (.tuple #[]) ∧ R.Own (R.keysOf [.row A n c 3 1 ((FL n F0).flatMap R.cI)]) w w' [.row A n c 3 1 ((FL n F).flatMap R.cI)] := by
  have hM := R.Own.startF hR
  obtain ⟨gA, rfl⟩ := row_form (R.Own.ok hM _ (.head _)) (by omega)
  refine R.calls_of_WC (fn := Try.f111) Try.func111 rfl Try.ntmps111 (Nat.le_of_ble_eq_true rfl) ?_
  (refine R.stepV ?_; (repeat' (first | (with_reducible refine And.intro ?_ ?_) | (with_reducible intro _))); all_goals refine R.Lft.mk ?_)
  refine R.WO_call2 rfl rfl R.vv R.vv ?_
  refine (root_any n c (some ⟨gA, 0, none⟩) F0 _ (R.Own.has (l := []) hM) hG.le hb (G.a k) ha).mono ?_
  rintro _ w2 ⟨F1, x, hH1, hx, rfl, hO1⟩
  have hM := R.Own.callF' R.ohm hO1
  refine ⟨_, rfl, ?_⟩
  (refine R.stepV ?_; (repeat' (first | (with_reducible refine And.intro ?_ ?_) | (with_reducible intro _))); all_goals refine R.Lft.mk ?_)
  refine R.WO_call2 rfl rfl R.vv R.vv ?_
  refine (root_any n c (some ⟨gA, 0, none⟩) F1 _ (R.Own.has (l := []) hM) (hH1.le hG.le) hb (G.b k) hb2).mono ?_
  rintro _ w3 ⟨F2, y, hH2, hy, rfl, hO2⟩
  have hM := R.Own.callF' R.ohm hO2
  refine ⟨_, rfl, ?_⟩
  have hF2 := hH2.fo (hH1.fo hG)
  have hx2 := hH2.rtf (hH1.le hG.le) (hH1.rtf hG.le hx)
  have hy2 := hH2.rtf (hH1.le hG.le) hy
  have hx3 := hx.le hG.le
  have hy3 := hy.le (hH1.le hG.le)
  have hj := hF2.join hx2 hy2
  have hfl2 := FL_len n F2
  have hmx : (max ((x : Nat) : Int) ((y : Nat) : Int)).toNat = max x y := by omega
  have hmn : min ((x : Nat) : Int) ((y : Nat) : Int) = ((min x y : Nat) : Int) := by omega
  have hset := FL_set (n := n) (F := F2) (v := max x y) (y := min x y) (by omega)
  (refine R.stepV ?_; (repeat' (first | (with_reducible refine And.intro ?_ ?_) | (with_reducible intro _))); all_goals refine R.Lft.mk ?_)
  rename_i hM
  rw [hmx, hmn, hset] at hM
  exact ⟨_, hj, rfl, hM⟩
end
def egX (x : Nt) : Eg := ⟨x.s.n, x.e.n, fun i => (nth x.e.L i).a.toNat, fun i => (nth x.e.L i).b.toNat⟩
theorem egX_ok {x : Nt} (hb : netB x = true) : (egX x).Ok := ⟨fun i hi => by
  obtain ⟨h1, h2, h3, _⟩ := (netB_iff.1 hb).2.2.2.2.1 i hi
  show (nth x.e.L i).a.toNat < (nth x.e.L i).b.toNat ∧ (nth x.e.L i).b.toNat < x.s.n
  omega⟩
theorem FL_zero (n : Nat) : FL n (fun _ => 0) = List.replicate n 0 := by
  refine List.ext_getElem (by simp [FL]) fun i h1 h2 => ?_
  simp [FL]
theorem pad_set {P : List Int} {v n : Nat} {y : Int} (hP : P.length = v) (hv : v < n) : (P ++ List.replicate (n - v) 0).set v y = (P ++ [y]) ++ List.replicate (n - (v + 1)) 0 := by
  obtain ⟨d, hd⟩ : ∃ d, n - v = d + 1 := ⟨n - v - 1, by omega⟩
  rw [hd, show n - (v + 1) = d by omega, List.set_append, if_neg (by omega), hP, Nat.sub_self, List.replicate_succ, List.append_assoc]
  rfl
theorem pad_nth {P : List Int} {v n u : Nat} (hP : P.length = v) (hu : u < v) : nth (P ++ List.replicate (n - v) 0) u = nth P u := by
  unfold R.nth
  rw [List.getD_eq_getElem?_getD, List.getD_eq_getElem?_getD, List.getElem?_append_left (by omega)]
theorem num_keep {Q : Nat → Nat → Prop} {P : List Int} {u : Nat} {y : Int} (h : NumAt Q P u) (hu : u < P.length) : NumAt Q (P ++ [y]) u := by
  have he : ∀ i, i ≤ u → nth (P ++ [y]) i = nth P i := fun i hi => by
    unfold R.nth
    rw [List.getD_eq_getElem?_getD, List.getD_eq_getElem?_getD, List.getElem?_append_left (by omega)]
  rcases h with ⟨z, hz, hR, e⟩ | ⟨hn, e⟩
  · exact .inl ⟨z, hz, hR, by rw [he u (Nat.le_refl _), he z (by omega)]; exact e⟩
  · exact .inr ⟨hn, by rw [he u (Nat.le_refl _)]; exact e⟩
section
variable (x : Nt) (w : World) (hG : GNt w x)
include hG
theorem parts50_not (hb : netB x = false) : Calls Try.prog 50 #[.agg (cNt x).toArray] w fun e w' => e = .returned (.tuple #[.slice none 0 0, .int .i64 1]) ∧ Below w.heap.size w w' := by
  have hM := R.Own.start [] w
  have hL := hG.lasts
  refine R.calls_of_WC (fn := Try.f50) Try.func50 rfl Try.ntmps50 (Nat.le_of_ble_eq_true rfl) ?_
  (refine R.stepV ?_; (repeat' (first | (with_reducible refine And.intro ?_ ?_) | (with_reducible intro _))); all_goals refine R.Lft.mk ?_)
  all_goals first
    | exact ⟨rfl, R.Own.below (by assumption)⟩
    | exact nbw_f hb (by assumption)
set_option maxHeartbeats 4000000 in
theorem parts50_any (hb : netB x = true) : Calls Try.prog 50 #[.agg (cNt x).toArray] w fun e w' => ∃ A c P, IsNum ((egX x).con x.e.n) x.s.n P ∧ e = .returned (.tuple #[.slice A x.s.n c, .int .i64 0]) ∧ R.Gives w w' A x.s.n c 3 1 (P.flatMap R.cI) := by
  have hM := R.Own.start [] w
  have hL := hG.lasts
  have hk := netB_e hb
  have hsn : x.s.n ≤ 200000 := (netB_iff.1 hb).1
  obtain ⟨⟨s1, s2, s3, -⟩, ⟨h1, h2, h3, -⟩, -⟩ := hG
  obtain ⟨n, hn⟩ : ∃ n, x.s.n = n := ⟨_, rfl⟩
  refine R.calls_of_WC (fn := Try.f50) Try.func50 rfl Try.ntmps50 (Nat.le_of_ble_eq_true rfl) ?_
  (refine R.stepV ?_; (repeat' (first | (with_reducible refine And.intro ?_ ?_) | (with_reducible intro _))); all_goals refine R.Lft.mk ?_)
  · exact nbw_t hb (by assumption)
  rename_i gn _ _ _ _ _ A _ hM
  refine R.WC_loop (fun v : Nat => [(1, .pointer (some ⟨gn, 0, none⟩)), (2, .slice none 0 0), (3, .int .i64 0), (4, .slice A x.s.n x.s.n), (21, .int .i64 (x.s.n : Nat)), (22, .int .i64 (v : Nat))])
    (fun v w2 => v ≤ x.s.n ∧ R.Own [] w w2 [.row A x.s.n x.s.n 3 1 ((FL x.s.n fun u => if u < v then u else 0).flatMap R.cI), .blk gn 44 (cNt x)]) (fun v => x.s.n - v)
    ⟨0, ⟨rfl, rfl, rfl, rfl, rfl, rfl, trivial⟩, Nat.zero_le _, by rw [FL_congr (G := fun _ => 0) fun u _ => if_neg (Nat.not_lt_zero _), FL_zero]; exact hM⟩ ?_
  clear hM
  rintro v f w2 ⟨hv, hM⟩
  by_cases hlt : v < x.s.n
  · obtain ⟨gA, rfl⟩ := row_form (R.Own.ok hM _ (.head _)) (by omega)
    have hfl := FL_len x.s.n (fun u => if u < v then u else 0)
    have hset := FL_set (n := x.s.n) (F := fun u => if u < v then u else 0) (v := v) (y := v) hlt
    rw [FL_congr (F := setF _ v v) (G := fun u => if u < v + 1 then u else 0) fun u _ => by
      unfold setF
      by_cases e : u = v
      · rw [if_pos e, if_pos (by omega), e]
      · rw [if_neg e]
        dsimp only
        by_cases q : u < v
        · rw [if_pos q, if_pos (by omega)]
        · rw [if_neg q, if_neg (by omega)]] at hset
    (refine R.stepV ?_; (repeat' (first | (with_reducible refine And.intro ?_ ?_) | (with_reducible intro _))); all_goals refine R.Lft.mk ?_)
    rename_i hM
    rw [hset] at hM
    exact ⟨v + 1, ⟨rfl, rfl, rfl, rfl, rfl, R.viaI rfl (by omega), trivial⟩, ⟨by omega, hM⟩, by omega⟩
  obtain rfl : v = x.s.n := by omega
  rw [FL_congr (G := fun u => u) fun u hu => if_pos hu] at hM
  (refine R.stepV ?_; (repeat' (first | (with_reducible refine And.intro ?_ ?_) | (with_reducible intro _))); all_goals refine R.Lft.mk ?_)
  have hok := egX_ok hb
  have hgm : (egX x).m = x.e.n := rfl
  refine R.WC_loop (fun i : Nat × (Nat → Nat) => [(2, .slice none 0 0), (3, .int .i64 0), (4, .slice A x.s.n x.s.n), (6, .func (.func 111) #[] #[]), (31, .slice x.e.A x.e.n x.e.c), (32, .int .i64 (x.e.n : Nat)), (33, .int .i64 (i.1 : Nat))])
    (fun i w2 => i.1 ≤ x.e.n ∧ Fo (egX x) i.1 i.2 ∧ R.Own [] w w2 [.row A x.s.n x.s.n 3 1 ((FL x.s.n i.2).flatMap R.cI)]) (fun i => x.e.n - i.1)
    ⟨(0, fun u => u), ⟨rfl, rfl, rfl, rfl, rfl, rfl, rfl, trivial⟩, Nat.zero_le _, Fo.zero, R.Own.sub hM (List.sublist_append_left [_] _)⟩ ?_
  clear hM
  rintro ⟨k, F⟩ f w3 ⟨hkn, hF, hM⟩
  dsimp only at hkn hF hM ⊢
  by_cases hlt : k < x.e.n
  · obtain ⟨a, b, ha, hb2, hab, ham, hbm⟩ := edge_ab hb hlt
    have hga : (((egX x).a k : Nat) : Int) = (nth x.e.L k).a := by show (((nth x.e.L k).a.toNat : Nat) : Int) = _; omega
    have hgb : (((egX x).b k : Nat) : Int) = (nth x.e.L k).b := by show (((nth x.e.L k).b.toNat : Nat) : Int) = _; omega
    (refine R.stepV ?_; (repeat' (first | (with_reducible refine And.intro ?_ ?_) | (with_reducible intro _))); all_goals refine R.Lft.mk ?_)
    refine R.WO_callc3 rfl rfl R.vv R.vv R.vv ?_
    rw [← hga, ← hgb]
    refine (join_st x.s.n x.s.n A F _ (R.Own.has (l := [_]) R.ohm) (by omega) (egX x) k hF (by omega) (by omega)).mono ?_
    rintro _ w4 ⟨F2, hF2, rfl, hO⟩
    have hM := R.Own.callF (l := [_]) R.ohm hO
    simp only [List.cons_append, List.nil_append] at hM
    refine ⟨_, rfl, ?_⟩
    (refine R.stepV ?_; (repeat' (first | (with_reducible refine And.intro ?_ ?_) | (with_reducible intro _))); all_goals refine R.Lft.mk ?_)
    exact ⟨(k + 1, F2), ⟨rfl, rfl, rfl, rfl, rfl, rfl, R.viaI rfl (by dsimp only; omega), trivial⟩, ⟨by dsimp only; omega, hF2, R.Own.tl (by assumption)⟩, by dsimp only; omega⟩
  obtain rfl : k = x.e.n := by omega
  (refine R.stepV ?_; (repeat' (first | (with_reducible refine And.intro ?_ ?_) | (with_reducible intro _))); all_goals refine R.Lft.mk ?_)
  rename_i B _ hM
  refine R.WC_loop (fun i : Nat × (Nat → Nat) × List Int => [(2, .slice none 0 0), (3, .int .i64 0), (4, .slice A x.s.n x.s.n), (9, .slice B x.s.n x.s.n), (10, .int .i64 ((fresh ((egX x).con x.e.n) i.1 : Nat) : Int)), (49, .int .i64 (x.s.n : Nat)), (50, .int .i64 (i.1 : Nat))])
    (fun i w2 => i.1 ≤ x.s.n ∧ Fo (egX x) x.e.n i.2.1 ∧ i.2.2.length = i.1 ∧ (∀ u, u < i.1 → NumAt ((egX x).con x.e.n) i.2.2 u) ∧ (∀ y ∈ i.2.2, 0 ≤ y ∧ y ≤ 1000000) ∧ R.Own [] w w2 [.row B x.s.n x.s.n 3 1 ((i.2.2 ++ List.replicate (x.s.n - i.1) 0).flatMap R.cI), .row A x.s.n x.s.n 3 1 ((FL x.s.n i.2.1).flatMap R.cI)]) (fun i => x.s.n - i.1)
    ⟨(0, F, []), ⟨rfl, rfl, rfl, rfl, rfl, rfl, rfl, trivial⟩, Nat.zero_le _, hF, rfl, fun u hu => absurd hu (Nat.not_lt_zero _), fun y hy => (by cases hy), hM⟩ ?_
  clear hM hF
  rintro ⟨v, F, P⟩ f w5 ⟨hv, hF, hPl, hPn, hPb, hM⟩
  dsimp only at hv hF hPl hPn hPb hM ⊢
  have hfr := fresh_le (R := (egX x).con x.e.n) (v := v)
  by_cases hvl : v < x.s.n
  · obtain ⟨gB, rfl⟩ := row_form (R.Own.ok hM _ (.head _)) (by omega)
    (refine R.stepV ?_; (repeat' (first | (with_reducible refine And.intro ?_ ?_) | (with_reducible intro _))); all_goals refine R.Lft.mk ?_)
    refine R.WO_call2 rfl rfl R.vv R.vv ?_
    refine (root_any x.s.n x.s.n A F _ (R.Own.has (l := [_]) R.ohm) hF.le (by omega) v hvl).mono ?_
    rintro _ w6 ⟨F2, r, hH2, hr, rfl, hO⟩
    have hM := R.Own.callF (l := [_]) R.ohm hO
    simp only [List.cons_append, List.nil_append] at hM
    have hF2 := hH2.fo hF
    have hrv := hr.le hF.le
    obtain ⟨hl1, hl2⟩ := hF.least hr
    obtain ⟨n1, n2⟩ := num_next (R := (egX x).con x.e.n) hPl (fun _ _ q => Eg.con_symm q) hl1 hl2 hrv
    refine ⟨_, rfl, ?_⟩
    have hpl : (P ++ List.replicate (x.s.n - v) 0).length = x.s.n := by simp; omega
    have hnk : ∀ y : Int, ∀ u, u < v + 1 → (u < v → NumAt ((egX x).con x.e.n) (P ++ [y]) u) := fun y u _ hu => num_keep (hPn u hu) (by omega)
    by_cases hrr : r = v
    · rw [if_pos hrr] at n1 n2
      have hps := pad_set (y := ((fresh ((egX x).con x.e.n) v : Nat) : Int)) hPl hvl
      (refine R.stepV ?_; (repeat' (first | (with_reducible refine And.intro ?_ ?_) | (with_reducible intro _))); all_goals refine R.Lft.mk ?_)
      rename_i hM
      rw [hps] at hM
      exact ⟨(v + 1, F2, P ++ [((fresh ((egX x).con x.e.n) v : Nat) : Int)]), ⟨rfl, rfl, rfl, rfl, R.viaI rfl (by dsimp only; omega), rfl, R.viaI rfl (by dsimp only; omega), trivial⟩, ⟨by dsimp only; omega, hF2, by dsimp only; rw [List.length_append, List.length_singleton, hPl], fun u hu => by
          dsimp only at hu ⊢
          rcases Nat.lt_or_ge u v with q | q
          · exact hnk _ u hu q
          · rw [show u = v by omega]; exact n1, fun y hy => by
          rcases List.mem_append.1 hy with q | q
          · exact hPb y q
          · rw [List.mem_singleton.1 q]; omega, hM⟩, by dsimp only; omega⟩
    · rw [if_neg hrr] at n1 n2
      have hps := pad_set (y := nth P r) hPl hvl
      have hpn := pad_nth (n := x.s.n) (u := r) hPl (by omega)
      (refine R.stepV ?_; (repeat' (first | (with_reducible refine And.intro ?_ ?_) | (with_reducible intro _))); all_goals refine R.Lft.mk ?_)
      rename_i hM
      rw [hpn] at hM
      rw [hps] at hM
      exact ⟨(v + 1, F2, P ++ [nth P r]), ⟨rfl, rfl, rfl, rfl, R.viaI rfl (by dsimp only; omega), rfl, R.viaI rfl (by dsimp only; omega), trivial⟩, ⟨by dsimp only; omega, hF2, by dsimp only; rw [List.length_append, List.length_singleton, hPl], fun u hu => by
          dsimp only at hu ⊢
          rcases Nat.lt_or_ge u v with q | q
          · exact hnk _ u hu q
          · rw [show u = v by omega]; exact n1, fun y hy => by
          rcases List.mem_append.1 hy with q | q
          · exact hPb y q
          · rw [List.mem_singleton.1 q]; exact hPb _ (R.nth_mem (by omega)), hM⟩, by dsimp only; omega⟩
  · obtain rfl : v = x.s.n := by omega
    rw [Nat.sub_self] at hM
    have hM : R.Own [] w w5 [.row B x.s.n x.s.n 3 1 ((P ++ []).flatMap R.cI), .row A x.s.n x.s.n 3 1 ((FL x.s.n F).flatMap R.cI)] := hM
    rw [List.append_nil] at hM
    (refine R.stepV ?_; (repeat' (first | (with_reducible refine And.intro ?_ ?_) | (with_reducible intro _))); all_goals refine R.Lft.mk ?_)
    exact ⟨_, _, P, ⟨hPl, hPn⟩, rfl, R.Own.gives R.ohm⟩
end
end Go.Proofs.Ytoainfnhmdcpoaa
