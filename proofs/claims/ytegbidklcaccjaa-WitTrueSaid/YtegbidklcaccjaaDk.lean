/- The laws of chapter 21: their own example. -/
import Derived.Test.YtegbidklcaccjaaDj
namespace Go.Proofs.Ytegbidklcaccjaa
open Go.RowKit
open R (In64 InU64 lo64 nth)
theorem cap_ofD {F : List Nat} {W w : World} {l : List R.Res} {A : Option Addr} {n c sz : Nat} {e : TypeId} {cs : List Value} (hM : R.Own F W w l) (hm : .row A n c e sz cs ∈ l) : n ≤ c ∧ c ≤ 9223372036854775807 := by
  have hr : w.ownsRow 0 e sz (.slice A n c) n cs := R.Own.ok hM _ hm
  rcases hr.2 with ⟨hv, h0⟩ | ⟨g, cap, cur, hv, _, _, h3, h4, _⟩
  · injection hv with _ _ a3
    omega
  · injection hv with _ _ a3
    unfold maxLen at *
    omega
theorem wfs {L : List Int} (h : ∀ v ∈ L, -1000 ≤ v ∧ v ≤ 1000) (w : World) : ∀ v ∈ L, GI w v := fun v hv => R.wf64 (by have := h v hv; unfold In64; omega)
theorem path_one {I : Ins} {D P D2 : List Int} {S : List Nat} {f : List Nat} (hn : I.n = 3) (hS : ∀ v, I.S v = (nth ([0, 2, 3, 3] : List Int) v).toNat) (hH : ∀ i, I.H i = (nth ([1, 2, 2] : List Int) i).toNat) (hW : ∀ i, I.W i = nth ([2, 9, 3] : List Int) i) (ho : ∀ v, I.op v = true) (hs : I.st = [(0, 1)]) (hL : Least I D P S) (he : nth D2 2 = nth D 2) (hp : PathOk I D2 f 2) : f = [0, 1, 2] ∧ nth D 2 = 6 := by
  have h0 : nth D 0 ≤ 1 := hL.sa (0, 1) (by rw [hs]; exact .head _) (ho _)
  have s0 : I.S 0 = 0 := hS 0
  have s1 : I.S 1 = 2 := hS 1
  have s01 : I.S (0 + 1) = 2 := hS 1
  have s12 : I.S (1 + 1) = 3 := hS 2
  have s23 : I.S (2 + 1) = 3 := hS 3
  have s2 : I.S 2 = 3 := hS 2
  have s3 : I.S 3 = 3 := hS 3
  have a0 : I.H 0 = 1 := hH 0
  have a1 : I.H 1 = 2 := hH 1
  have a2 : I.H 2 = 2 := hH 2
  have b0 : I.W 0 = 2 := hW 0
  have b1 : I.W 1 = 9 := hW 1
  have b2 : I.W 2 = 3 := hW 2
  have h1 := hL.cl 0 (by omega) (by omega) 0 (by omega) (by omega) (ho _)
  rw [a0, b0] at h1
  have h2 := hL.cl 1 (by omega) (by omega) 2 (by omega) (by omega) (ho _)
  rw [a2, b2] at h2
  obtain ⟨hf, hl, x, r, e, hst, _⟩ := hp
  rw [hs] at hst
  have hx := List.mem_singleton.1 hst
  injection hx with x0 x1
  subst x0
  subst e
  obtain ⟨_, hk, hf⟩ := hf
  cases r with
  | nil => exact absurd hl (by simp)
  | cons u r =>
    obtain ⟨i, q1, q2, q3, q4⟩ := hk
    have hi : i = 0 ∨ i = 1 := by omega
    rcases hi with rfl | rfl
    · rw [a0] at q3
      subst q3
      rw [b0] at q4
      obtain ⟨_, hk, hf⟩ := hf
      cases r with
      | nil => exact absurd hl (by simp)
      | cons u r =>
        obtain ⟨i, q1, q2, q3, q5⟩ := hk
        obtain rfl : i = 2 := by omega
        rw [a2] at q3
        subst q3
        rw [b2] at q5
        obtain ⟨_, hk, hf⟩ := hf
        cases r with
        | nil => exact ⟨rfl, by omega⟩
        | cons u r =>
          obtain ⟨i, q1, q2, q3, q6⟩ := hk
          omega
    · rw [a1] at q3
      subst q3
      rw [b1] at q4
      omega
set_option maxHeartbeats 2000000 in
theorem awake21 (w : World) : Calls Try.prog 30 #[] w fun e w' => e = .returned (.bool true) ∧ Below w.heap.size w w' := by
  have hM := R.Own.start [] w
  refine R.calls_of_WC (fn := Try.f30) Try.func30 rfl Try.ntmps30 (Nat.le_of_ble_eq_true rfl) ?_
  (refine R.stepH ?_; (repeat' (first | (with_reducible refine And.intro ?_ ?_) | (with_reducible intro _))); all_goals refine R.Lft.mk ?_)
  rename_i A1 c1 _ _ A2 c2 _ _ A3 c3 _ _ gb _ _ _ _ A4 c4 w1 hM
  have d1 := cap_ofD hM (.tail _ (.tail _ (.tail _ (.tail _ (.head _)))))
  have d2 := cap_ofD hM (.tail _ (.tail _ (.tail _ (.head _))))
  have d3 := cap_ofD hM (.tail _ (.tail _ (.head _)))
  have d4 := cap_ofD hM (.head _)
  have hQ : Ask w1 ⟨⟨A1, 4, c1, [0, 2, 3, 3]⟩, ⟨A2, 3, c2, [1, 2, 2]⟩, ⟨A3, 3, c3, [2, 9, 3]⟩⟩ ⟨A4, 1, c4, [⟨1, 0⟩]⟩ ⟨none, 0, 0, []⟩ :=
    ⟨⟨⟨R.Own.inp hM (.tail _ (.tail _ (.tail _ (.tail _ (.head _))))), rfl, d1, wfs (show ∀ v ∈ ([0, 2, 3, 3] : List Int), -1000 ≤ v ∧ v ≤ 1000 by decide) w1⟩, ⟨R.Own.inp hM (.tail _ (.tail _ (.tail _ (.head _)))), rfl, d2, wfs (show ∀ v ∈ ([1, 2, 2] : List Int), -1000 ≤ v ∧ v ≤ 1000 by decide) w1⟩, ⟨R.Own.inp hM (.tail _ (.tail _ (.head _))), rfl, d3, wfs (show ∀ v ∈ ([2, 9, 3] : List Int), -1000 ≤ v ∧ v ≤ 1000 by decide) w1⟩⟩,
      ⟨R.Own.inp hM (.head _), rfl, d4, fun x hx => by rw [List.mem_singleton.1 hx]; exact ⟨by decide, by decide⟩⟩, ⟨R.Inp.nil _ _ _ _, rfl, ⟨Nat.le_refl 0, Nat.zero_le _⟩, fun x hx => (by cases hx)⟩⟩
  have hm : MayS ⟨⟨A1, 4, c1, [0, 2, 3, 3]⟩, ⟨A2, 3, c2, [1, 2, 2]⟩, ⟨A3, 3, c3, [2, 9, 3]⟩⟩ ⟨A4, 1, c4, [⟨1, 0⟩]⟩ ⟨none, 0, 0, []⟩ := by
    refine ⟨{ n1 := show 1 ≤ 4 by decide, n2 := show 4 ≤ 4001 by decide, n3 := show 3 ≤ 200000 by decide, n4 := rfl, s0 := rfl, s1 := rfl, up := fun v hv => ?_, arc := fun v i hv h1 h2 => ?_ }, show 1 ≤ 1000 by decide, fun h => absurd (show 0 < 0 from h) (by decide), fun x hx => ?_⟩
    · have hv : v + 1 < 4 := hv
      have : v = 0 ∨ v = 1 ∨ v = 2 := by omega
      rcases this with rfl | rfl | rfl
      · show (0 : Int) ≤ 2; decide
      · show (2 : Int) ≤ 3; decide
      · show (3 : Int) ≤ 3; decide
    · have hv : v + 1 < 4 := hv
      have : v = 0 ∨ v = 1 ∨ v = 2 := by omega
      rcases this with rfl | rfl | rfl
      · have h2 : ((i : Nat) : Int) < 2 := h2
        have : i = 0 ∨ i = 1 := by omega
        rcases this with rfl | rfl
        · show (0 : Int) ≤ 1 ∧ (1 : Int) + 1 < 4 ∧ (0 : Int) ≤ 2 ∧ (2 : Int) ≤ 2147483648 ∧ ((0 : Int) < 0 → (1 : Int) < 1)
          decide
        · show (0 : Int) ≤ 2 ∧ (2 : Int) + 1 < 4 ∧ (0 : Int) ≤ 9 ∧ (9 : Int) ≤ 2147483648 ∧ ((0 : Int) < 1 → (1 : Int) < 2)
          decide
      · have h1 : (2 : Int) ≤ ((i : Nat) : Int) := h1
        have h2 : ((i : Nat) : Int) < 3 := h2
        obtain rfl : i = 2 := by omega
        show (0 : Int) ≤ 2 ∧ (2 : Int) + 1 < 4 ∧ (0 : Int) ≤ 3 ∧ (3 : Int) ≤ 2147483648 ∧ ((2 : Int) < 2 → (2 : Int) < 2)
        decide
      · have h1 : (3 : Int) ≤ ((i : Nat) : Int) := h1
        have h2 : ((i : Nat) : Int) < 3 := h2
        omega
    · rw [List.mem_singleton.1 hx]
      show (0 : Int) ≤ 0 ∧ (0 : Int) + 1 < 4 ∧ (0 : Int) ≤ 1 ∧ (1 : Int) ≤ 1152921504606846976
      decide
  refine R.WO_call4 rfl rfl R.vv R.vv R.vv R.vv ?_
  refine (path_ok ⟨⟨A1, 4, c1, [0, 2, 3, 3]⟩, ⟨A2, 3, c2, [1, 2, 2]⟩, ⟨A3, 3, c3, [2, 9, 3]⟩⟩ ⟨A4, 1, c4, [⟨1, 0⟩]⟩ ⟨none, 0, 0, []⟩ w1 hQ hm (show 4 ≤ 41 by decide) (show 3 ≤ 300 by decide) 2 (show 2 + 1 < 4 by decide)).mono ?_
  rintro _ w3 ⟨A5, c5, f, x, er, D', P', S', hL, rfl, hG, hor⟩
  obtain ⟨rfl, rfl, rfl⟩ : f = [0, 1, 2] ∧ x = 6 ∧ er = 0 := by
    rcases hor with ⟨e1, _⟩ | ⟨e1, e2, e3, D, e4, hp⟩
    · have h0 : nth D' 0 ≤ 1 := hL.sa (0, 1) (.head _) rfl
      have h1 : nth D' 1 ≤ nth D' 0 + 2 := hL.cl 0 (show 0 < 3 by decide) (by omega) 0 (show 0 ≤ 0 by decide) (show 0 < 2 by decide) rfl
      have h2 : nth D' 2 ≤ nth D' 1 + 3 := hL.cl 1 (show 1 < 3 by decide) (by omega) 2 (show 2 ≤ 2 by decide) (show 2 < 3 by decide) rfl
      omega
    · have := path_one rfl (fun v => rfl) (fun i => rfl) (fun i => rfl) (fun v => rfl) rfl hL e4 hp
      exact ⟨this.1, by rw [e2, this.2], e3⟩
  rw [show (asI [0, 1, 2]).length = 3 from rfl, show asI [0, 1, 2] = ([0, 1, 2] : List Int) from rfl] at hG
  rw [show (asI [0, 1, 2]).length = 3 from rfl]
  have hM := R.Own.give R.ohm hG
  clear hor hL hQ hm
  refine ⟨_, rfl, ?_⟩
  (refine R.stepH ?_; (repeat' (first | (with_reducible refine And.intro ?_ ?_) | (with_reducible intro _))); all_goals refine R.Lft.mk ?_)
  exact ⟨rfl, R.Own.below R.ohm⟩
instance con_awake21 : R.ConB Try.prog 30 #[] Unit (fun _ _ => True) (fun _ => .bool true) := ⟨fun _ w _ => awake21 w⟩
end Go.Proofs.Ytegbidklcaccjaa
