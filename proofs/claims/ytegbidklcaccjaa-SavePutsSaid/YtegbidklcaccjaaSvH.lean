/- The laws SavePuts and SaveGets: the walks. -/
import Derived.Test.YtegbidklcaccjaaSvG
namespace Go.Proofs.Ytegbidklcaccjaa
open Go.ChangeShapes Go.WideShapes Go.ChangeAt Go.RowKit
open R (In64 InU64 lo64 nth)
def pz : Pln := ⟨0, ⟨none, 0, 0, []⟩, ⟨none, 0, 0, []⟩, 0, ⟨none, 0, 0, []⟩⟩
theorem gpz (w : World) : GPln w pz :=
  ⟨(by decide : (Lit.int .i64 0).wf = true), ⟨R.Inp.nil _ _ _ _, rfl, ⟨Nat.le_refl _, by decide⟩, fun v hv => (by cases hv)⟩, ⟨R.Inp.nil _ _ _ _, rfl, ⟨Nat.le_refl _, by decide⟩, fun v hv => (by cases hv)⟩, (by decide : (Lit.int .i64 0).wf = true), ⟨R.Inp.nil _ _ _ _, rfl, ⟨Nat.le_refl _, by decide⟩, fun v hv => (by cases hv)⟩⟩
section
variable (A : Option Addr) (n c : Nat) (L : List Int) (w : World) (hA : R.Inp [] w A n 1 (L.flatMap R.cY)) (hn : n = L.length) (hc : n ≤ c) (hc2 : c ≤ 9223372036854775807) (hb : byte L)
include hA hn hc hc2 hb
set_option maxHeartbeats 4000000 in
theorem saveGets_any : Calls Try.prog 5 #[.slice A n c] w fun e w' => e = .returned (.bool true) ∧ Below w.heap.size w w' := by
  have hM := R.Own.start [] w
  refine R.calls_of_WC (fn := Try.f5) Try.func5 rfl Try.ntmps5 (Nat.le_of_ble_eq_true rfl) ?_
  by_cases hbig : 5000 < n
  · (refine R.stepH ?_; (repeat' (first | (with_reducible refine And.intro ?_ ?_) | (with_reducible intro _))); all_goals refine R.Lft.mk ?_; (all_goals (try (exact ⟨rfl, R.Own.below (by assumption)⟩))))
  (refine R.stepH ?_; (repeat' (first | (with_reducible refine And.intro ?_ ?_) | (with_reducible intro _))); all_goals refine R.Lft.mk ?_)
  refine R.WO_call1 rfl rfl R.vv ?_
  refine (get_any A n c L _ (R.Own.inpIn R.ohm hA) hn hc hc2 hb).mono ?_
  rintro _ w3 ⟨b, p, rfl, hb3, ht, _⟩
  cases b with
  | false =>
    have hM := R.Own.call R.ohm hb3
    refine ⟨_, rfl, ?_⟩
    (refine R.stepH ?_; (repeat' (first | (with_reducible refine And.intro ?_ ?_) | (with_reducible intro _))); all_goals refine R.Lft.mk ?_)
    refine R.WO_call2 rfl rfl R.vv R.vv ?_
    show R.callT _ _ #[.agg (cPln pz).toArray, .agg (cPln pz).toArray] _ _
    refine (same38_any pz pz _ (gpz _) (gpz _) (by decide)).mono ?_
    rintro _ w4 ⟨rfl, hb4⟩
    have hM := R.Own.call R.ohm hb4
    refine ⟨_, rfl, ?_⟩
    rw [decide_eq_true rfl]
    (refine R.stepH ?_; (repeat' (first | (with_reducible refine And.intro ?_ ?_) | (with_reducible intro _))); all_goals refine R.Lft.mk ?_; (all_goals (try (exact ⟨rfl, R.Own.below (by assumption)⟩))))
  | true =>
    obtain ⟨hO, hwl, hsm, hmv, T, hL, hr⟩ := ht rfl
    have hM := hO
    have hmp := mayV_p hmv
    have hall := errAll_ok hmp.1
    have h200 := hall.1
    have hok : ∀ z ∈ p.rd.L, errR z = 0 := fun x hx => by obtain ⟨j, hj, rfl⟩ := mem_nthR hx; exact hall.2.1 j hj
    rw [if_pos rfl, if_pos rfl]
    refine ⟨_, rfl, ?_⟩
    (refine R.stepH ?_; (repeat' (first | (with_reducible refine And.intro ?_ ?_) | (with_reducible intro _))); all_goals refine R.Lft.mk ?_)
    refine R.WO_call1 rfl rfl R.vv ?_
    refine (may46_any p _ (GPln.new hsm hwl R.ohm fun r hr => .tail _ hr) (by have := hwl.1; omega) (fun x hx => by have := errR_ok (hok x hx); omega)).mono ?_
    rintro _ w4 ⟨rfl, hb4⟩
    have hM := R.Own.call R.ohm hb4
    refine ⟨_, rfl, ?_⟩
    rw [hmv]
    (refine R.stepH ?_; (repeat' (first | (with_reducible refine And.intro ?_ ?_) | (with_reducible intro _))); all_goals refine R.Lft.mk ?_)
    refine R.WO_call1 rfl rfl R.vv ?_
    refine (put46_any p _ (GPln.new hsm hwl R.ohm fun r hr => .tail _ hr) hmv).mono ?_
    rintro _ w5 ⟨A1, c1, rfl, hG5⟩
    have hM := R.Own.give R.ohm hG5
    refine ⟨_, rfl, ?_⟩
    (refine R.stepH ?_; (repeat' (first | (with_reducible refine And.intro ?_ ?_) | (with_reducible intro _))); all_goals refine R.Lft.mk ?_)
    refine R.WO_call2 rfl rfl R.vv R.vv ?_
    have hcap := cap_of hM (.head _)
    refine (same46_any A1 A _ c1 n c (putV p) L _ (R.Own.inp R.ohm (.head _)) rfl (by omega) (R.Own.inpIn R.ohm hA) hn).mono ?_
    rintro _ w6 ⟨rfl, hb6⟩
    have hM := R.Own.call R.ohm hb6
    refine ⟨_, rfl, ?_⟩
    have hbT : byte T := fun x hx => hb x (by rw [hL]; exact .tail _ hx)
    rw [decide_eq_true (show putV p = L by rw [hL]; exact got_put hwl hbT hr)]
    (refine R.stepH ?_; (repeat' (first | (with_reducible refine And.intro ?_ ?_) | (with_reducible intro _))); all_goals refine R.Lft.mk ?_; (all_goals (try (exact ⟨rfl, R.Own.below (by assumption)⟩))))
end
section
variable (p : Pln) (w : World) (hp : GPln w p)
include hp
set_option maxHeartbeats 4000000 in
theorem savePuts_any : Calls Try.prog 4 #[.agg (cPln p).toArray] w fun e w' => e = .returned (.bool true) ∧ Below w.heap.size w w' := by
  have hM := R.Own.start [] w
  have hwl : WLP p := ⟨hp.2.1.2.1, hp.2.2.1.2.1, hp.2.2.2.2.2.1, fun z hz => ⟨(hp.2.1.2.2.2 z hz).2.1.2.1, (hp.2.1.2.2.2 z hz).2.2.1.2.1⟩⟩
  have hbc := hp.2.2.1.2.2.1
  have hcc := hp.2.2.2.2.2.2.1
  refine R.calls_of_WC (fn := Try.f4) Try.func4 rfl Try.ntmps4 (Nat.le_of_ble_eq_true rfl) ?_
  (refine R.stepH ?_; (repeat' (first | (with_reducible refine And.intro ?_ ?_) | (with_reducible intro _))); all_goals refine R.Lft.mk ?_)
  refine R.WO_call1 rfl rfl R.vv ?_
  refine (light_any p.rd.A p.rd.n p.rd.c p.rd.L _ (R.Own.inpIn R.ohm hp.2.1.1) hp.2.1.2.1 (by have := hp.2.1.2.2.1; omega) (fun z hz => GRoad.now R.ohm (hp.2.1.2.2.2 z hz))).mono ?_
  rintro _ _ ⟨b, rfl, rfl, hl⟩
  refine ⟨_, rfl, ?_⟩
  cases b with
  | false =>
    (refine R.stepH ?_; (repeat' (first | (with_reducible refine And.intro ?_ ?_) | (with_reducible intro _))); all_goals refine R.Lft.mk ?_; (all_goals (try (exact ⟨rfl, R.Own.below (by assumption)⟩))))
  | true =>
    obtain ⟨h210, hli⟩ := hl rfl
    by_cases hbig : 2100 < p.bn.n ∨ 2100 < p.cl.n
    · by_cases hb1 : 2100 < p.bn.n
      · (refine R.stepH ?_; (repeat' (first | (with_reducible refine And.intro ?_ ?_) | (with_reducible intro _))); all_goals refine R.Lft.mk ?_; (all_goals (try (exact ⟨rfl, R.Own.below (by assumption)⟩))))
      · have hb2 : 2100 < p.cl.n := by omega
        (refine R.stepH ?_; (repeat' (first | (with_reducible refine And.intro ?_ ?_) | (with_reducible intro _))); all_goals refine R.Lft.mk ?_; (all_goals (try (exact ⟨rfl, R.Own.below (by assumption)⟩))))
    have hs1 : p.bn.n ≤ 2100 := by omega
    have hs2 : p.cl.n ≤ 2100 := by omega
    (refine R.stepH ?_; (repeat' (first | (with_reducible refine And.intro ?_ ?_) | (with_reducible intro _))); all_goals refine R.Lft.mk ?_)
    refine R.WO_call1 rfl rfl R.vv ?_
    refine (put_any p _ (GPln.now R.ohm hp) (by omega)).mono ?_
    rintro _ w3 ⟨A1, c1, M, hMd, rfl, hG3⟩
    have hM := R.Own.give R.ohm hG3
    refine ⟨_, rfl, ?_⟩
    cases hmv : mayV p with
    | false =>
      rw [hmv, if_neg (by decide)] at hMd
      rw [if_neg (by decide), hMd]
      (refine R.stepH ?_; (repeat' (first | (with_reducible refine And.intro ?_ ?_) | (with_reducible intro _))); all_goals refine R.Lft.mk ?_)
      refine R.WO_call1 rfl rfl R.vv ?_
      refine (may46_any p _ (GPln.now R.ohm hp) (by omega) (fun x hx => by have := hli x hx; omega)).mono ?_
      rintro _ w4 ⟨rfl, hb4⟩
      have hM := R.Own.call R.ohm hb4
      refine ⟨_, rfl, ?_⟩
      rw [hmv]
      (refine R.stepH ?_; (repeat' (first | (with_reducible refine And.intro ?_ ?_) | (with_reducible intro _))); all_goals refine R.Lft.mk ?_; (all_goals (try (exact ⟨rfl, R.Own.below (by assumption)⟩))))
    | true =>
      rw [hmv, if_pos rfl] at hMd
      rw [if_pos rfl]
      have hmp := mayV_p hmv
      have hby := byte_put hmp
      rw [← hMd] at hby
      (refine R.stepH ?_; (repeat' (first | (with_reducible refine And.intro ?_ ?_) | (with_reducible intro _))); all_goals refine R.Lft.mk ?_)
      refine R.WO_call1 rfl rfl R.vv ?_
      refine (may46_any p _ (GPln.now R.ohm hp) (by omega) (fun x hx => by have := hli x hx; omega)).mono ?_
      rintro _ w4 ⟨rfl, hb4⟩
      have hM := R.Own.call R.ohm hb4
      refine ⟨_, rfl, ?_⟩
      rw [hmv]
      (refine R.stepH ?_; (repeat' (first | (with_reducible refine And.intro ?_ ?_) | (with_reducible intro _))); all_goals refine R.Lft.mk ?_)
      refine R.WO_call1 rfl rfl R.vv ?_
      have hcap := cap_of hM (.head _)
      refine (get_any A1 M.length c1 M _ (R.Own.inp R.ohm (.head _)) rfl hcap.1 hcap.2 hby).mono ?_
      rintro _ w5 ⟨b, q, rfl, hb5, ht, hf⟩
      cases b with
      | false =>
        have := hf rfl (flB (numsV p)) p hMd hwl (plain_of hwl hmp)
        rw [hmv] at this
        cases this
      | true =>
        obtain ⟨hO, hwq, hsq, hmq, T, hMT, hr⟩ := ht rfl
        have hTe : T = flB (numsV p) := by
          rw [hMd, putV_eq] at hMT
          injection hMT with _ h2
          exact h2.symm
        have hvq : vP p = vP q := by
          rw [hTe, plain_of hwl hmp] at hr
          injection hr
        have hM := R.Own.giveN R.ohm hO
        simp only [List.cons_append, List.nil_append] at hM
        rw [if_pos rfl, if_pos rfl]
        refine ⟨_, rfl, ?_⟩
        (refine R.stepH ?_; (repeat' (first | (with_reducible refine And.intro ?_ ?_) | (with_reducible intro _))); all_goals refine R.Lft.mk ?_)
        refine R.WO_call1 rfl rfl R.vv ?_
        refine (put46_any p _ (GPln.now R.ohm hp) hmv).mono ?_
        rintro _ w6 ⟨A2, c2, rfl, hG6⟩
        have hM := R.Own.give R.ohm hG6
        refine ⟨_, rfl, ?_⟩
        have hcap2 := cap_of hM (.head _)
        (refine R.stepH ?_; (repeat' (first | (with_reducible refine And.intro ?_ ?_) | (with_reducible intro _))); all_goals refine R.Lft.mk ?_)
        refine R.WO_call2 rfl rfl R.vv R.vv ?_
        refine (same46_any A1 A2 _ c1 _ c2 M (putV p) _ (R.Own.inp R.ohm R.memb) rfl (by omega) (R.Own.inp R.ohm (.head _)) rfl).mono ?_
        rintro _ w7 ⟨rfl, hb7⟩
        have hM := R.Own.call R.ohm hb7
        refine ⟨_, rfl, ?_⟩
        rw [decide_eq_true hMd]
        (refine R.stepH ?_; (repeat' (first | (with_reducible refine And.intro ?_ ?_) | (with_reducible intro _))); all_goals refine R.Lft.mk ?_)
        refine R.WO_call2 rfl rfl R.vv R.vv ?_
        refine (same38_any p q _ (GPln.now R.ohm hp) (GPln.new hsq hwq R.ohm fun r hr => ?_) (by omega)).mono ?_
        · exact .tail _ (.tail _ (.tail _ (.tail _ hr)))
        rintro _ w8 ⟨rfl, hb8⟩
        have hM := R.Own.call R.ohm hb8
        refine ⟨_, rfl, ?_⟩
        rw [decide_eq_true hvq]
        (refine R.stepH ?_; (repeat' (first | (with_reducible refine And.intro ?_ ?_) | (with_reducible intro _))); all_goals refine R.Lft.mk ?_; (all_goals (try (exact ⟨rfl, R.Own.below (by assumption)⟩))))
end
theorem wf_byte {n : Int} (h : (Lit.int .u8 n).wf = true) : 0 ≤ n ∧ n < 256 := by
  simp [Lit.wf, IntKind.min, IntKind.max, IntKind.signed, IntKind.bits] at h
  omega
set_option maxRecDepth 100000 in
theorem walk_SaveGets {H : Type} {enc : TypeId × Value → H} (W : World) (base : Nat) (args : Array Value) (ds : List (DataW H)) (ps : List MemPlace) (hA : DataW.TrodAll enc Try.prog W 0 (fun _ => true) true [46] args.toList ds ps)
    (hval : ∀ (j : Nat) t v, #[46][j]? = some t → args[j]? = some v → Value.okWide Try.prog W .any base t v) :
    Calls Try.prog 5 args W fun e W' => e = .returned (.bool true) ∧ Below W.heap.size W W' := by
  obtain ⟨v0, d0, rfl, rfl, h0⟩ := trodAll_one hA
  obtain ⟨z0, q0, g0, a0, b0⟩ := R.open_arg (hval 0 46 v0 rfl rfl) h0
  obtain rfl := b0 (by kernel_rfl) _ rfl
  exact saveGets_any z0.A z0.n z0.c z0.L W g0.1 g0.2.1 g0.2.2.1.1 g0.2.2.1.2 fun x hx => wf_byte (g0.2.2.2 x hx)
set_option maxRecDepth 100000 in
theorem walk_SavePuts {H : Type} {enc : TypeId × Value → H} (W : World) (base : Nat) (args : Array Value) (ds : List (DataW H)) (ps : List MemPlace) (hA : DataW.TrodAll enc Try.prog W 0 (fun _ => true) true [44] args.toList ds ps)
    (hval : ∀ (j : Nat) t v, #[44][j]? = some t → args[j]? = some v → Value.okWide Try.prog W .any base t v) :
    Calls Try.prog 4 args W fun e W' => e = .returned (.bool true) ∧ Below W.heap.size W W' := by
  obtain ⟨v0, d0, rfl, rfl, h0⟩ := trodAll_one hA
  obtain ⟨z0, q0, g0, a0, b0⟩ := R.open_arg (hval 0 44 v0 rfl rfl) h0
  obtain rfl := a0 (by kernel_rfl)
  exact savePuts_any z0 W g0
end Go.Proofs.Ytegbidklcaccjaa
