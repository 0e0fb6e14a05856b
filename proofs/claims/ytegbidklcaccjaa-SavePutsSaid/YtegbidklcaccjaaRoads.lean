/- Package roads: roads as values, what the law calls light, when two are the same. -/
import Derived.Test.YtegbidklcaccjaaOpnB
namespace Go.Proofs.Ytegbidklcaccjaa
open Go.RowKit
open R (In64 InU64 lo64 nth)

structure Road where
  rank : Int
  p : R.Sl Pt
  q : R.Sl Int
  both : Bool
instance : Inhabited Road := ⟨⟨0, ⟨none, 0, 0, []⟩, ⟨none, 0, 0, []⟩, false⟩⟩
def cRoad (x : Road) : List Value := [.int .i64 x.rank, .slice x.p.A x.p.n x.p.c, .slice x.q.A x.q.n x.q.c, .bool x.both]
instance encc_Road : R.EncC cRoad 4 := ⟨fun _ => rfl, by simp [cRoad, Value.oneCell'], by decide⟩
instance enct_Road : R.EncT Try.prog 93 Road cRoad 4 := {}
def GRoad (W : World) (z : Road) : Prop := (Lit.int .i64 z.rank).wf = true ∧ R.GSl cPt 2 GPt W z.p ∧ R.GSl R.cI 1 GI W z.q ∧ GB W z.both
instance opn_Road : R.Opn Try.prog 93 Road cRoad GRoad := R.opn_struct4 (o0 := 0) (t0 := 3) (n0 := 1) (o1 := 1) (t1 := 91) (n1 := 1) (o2 := 2) (t2 := 22) (n2 := 1) (o3 := 3) (t3 := 4) (n3 := 1) (by kernel_rfl) (by kernel_rfl) (by kernel_rfl) (by kernel_rfl) rfl rfl rfl rfl (by kernel_rfl) Road.mk (fun _ _ _ _ => rfl) (fun _ _ _ _ _ h1 h2 h3 h4 => ⟨h1, h2, h3, h4⟩)
instance opn_Roads : R.Opn Try.prog 39 (R.Sl Road) R.cSl (R.GSl cRoad 4 GRoad) := R.opn_slice (e := 93) (by kernel_rfl) (by kernel_rfl)
section
variable (A : Option Addr) (n c : Nat) (L : List Road) (w : World) (hA : R.Inp [] w A n 4 (L.flatMap cRoad)) (hn : n = L.length) (hb : n ≤ 9223372036854775807) (hG : ∀ x ∈ L, GRoad w x)
include hA hn hb hG
theorem light_any : Calls Try.prog 21 #[.slice A n c] w fun en w' => ∃ b : Bool, en = .returned (.bool b) ∧ w = w' ∧ (b = true → n ≤ 210 ∧ ∀ x ∈ L, x.p.n ≤ 110 ∧ x.q.n ≤ 110) := by
  have hM := R.Own.start [] w
  refine R.calls_of_WC (fn := Try.f21) Try.func21 rfl Try.ntmps21 (Nat.le_of_ble_eq_true rfl) ?_
  (refine R.step ?_; (repeat' (first | (with_reducible refine And.intro ?_ ?_) | (with_reducible intro _))); all_goals refine R.Lft.mk ?_)
  refine R.WC_loop (fun s : Nat × Int => [(0, .slice A n c), (2, .bool false), (3, .int .i64 s.2), (4, .int .i64 (s.1 : Nat))])
    (fun s w1 => s.1 ≤ n ∧ s.1 ≤ 211 ∧ w = w1 ∧ 0 ≤ s.2 ∧ s.2 ≤ 110 * s.1 ∧ ∀ x ∈ L.take s.1, x.p.n ≤ 110 ∧ x.q.n ≤ 110) (fun s => n - s.1) ⟨(0, 0), ⟨rfl, rfl, rfl, rfl, trivial⟩, by dsimp only; omega, by dsimp only; omega, rfl, by dsimp only; omega, by dsimp only; omega, by simp⟩ ?_
  rintro ⟨k, v⟩ f w1 ⟨hk, hk2, rfl, h0, h1, hall⟩
  dsimp only at hk hk2 h0 h1 hall ⊢
  by_cases hlt : k < n
  · have hmem := R.nth_mem (L := L) (i := k) (by omega)
    obtain ⟨g1, g2, g3, _⟩ := hG _ hmem
    (refine R.step ?_; (repeat' (first | (with_reducible refine And.intro ?_ ?_) | (with_reducible intro _))); all_goals refine R.Lft.mk ?_)
    · exact ⟨_, rfl, rfl, fun h => by cases h⟩
    · exact ⟨_, rfl, rfl, fun h => by cases h⟩
    · rename_i h1 h2 h3
      refine ⟨(k + 1, v + (nth L k).p.n), ⟨rfl, rfl, rfl, R.viaI rfl (by dsimp only; omega), trivial⟩, ⟨by dsimp only; omega, by dsimp only; omega, rfl, by dsimp only; omega, by dsimp only; omega, ?_⟩, by dsimp only; omega⟩
      rw [take_snoc (by omega : k < L.length)]
      intro x hx
      rcases List.mem_append.1 hx with h | h
      · exact hall x h
      · rw [List.mem_singleton.1 h]; omega
    exact ⟨_, rfl, rfl, fun h => by first | cases h | (exfalso; simp at h; omega)⟩
  · obtain rfl : k = n := by omega
    rw [hn, List.take_length] at hall
    (refine R.step ?_; (repeat' (first | (with_reducible refine And.intro ?_ ?_) | (with_reducible intro _))); all_goals refine R.Lft.mk ?_)
    · exact ⟨_, rfl, rfl, fun _ => ⟨by omega, hall⟩⟩
    · exact ⟨_, rfl, rfl, fun h => by first | cases h | (exfalso; simp at h; omega)⟩
end
end Go.Proofs.Ytegbidklcaccjaa
