/- The walks of the laws ClosedTurns and ClosedOrder over what they are handed. -/
import Derived.Test.YtmmfndmfibbhcaaTurn2
import Derived.Test.YtmmfndmfibbhcaaClosed4
namespace Go.Proofs.Ytmmfndmfibbhcaa
open Go.ChangeShapes Go.WideShapes Go.ChangeAt Go.RowKit
open R (In64 InU64 lo64 nth)
section
variable {H : Type} {enc : TypeId × Value → H} {P : Program} {W : World} {base : Nat} {sp : Nat → Bool} {held : Bool} {t e : TypeId} {cs : List Value} {x : DataW H × List MemPlace} {fuel : Nat}
theorem mapM_all {α β : Type} {f : α → Option β} : ∀ {l : List α} {ys : List β}, l.mapM f = some ys → ∀ a ∈ l, ∃ y, f a = some y
  | [], _, _, a, h => by cases h
  | b :: l, ys, hm, a, h => by
    rw [List.mapM_cons] at hm
    simp only [bind, Option.bind_eq_some_iff, pure] at hm
    obtain ⟨y, hy, zs, hz, _⟩ := hm
    rcases List.mem_cons.1 h with rfl | h
    · exact ⟨y, hy⟩
    · exact mapM_all hz a h
theorem trod_arr {n : Nat} (hu : P.underlying t = some (.array n e)) (h : DataW.trod enc P W base sp held fuel t cs = some x) :
    ∃ m, cs.length = P.cellsOf t ∧ ∀ i, i < n → ∃ y, DataW.trod enc P W base sp held m e ((cs.drop (i * P.cellsOf e)).take (P.cellsOf e)) = some y := by
  cases fuel with
  | zero => simp [DataW.trod] at h
  | succ m =>
    rw [DataW.trod_step] at h
    unfold DataW.trodStep at h
    simp only [hu] at h
    split at h
    · rename_i hl
      rw [Option.map_eq_some_iff] at h
      obtain ⟨ys, hy, _⟩ := h
      exact ⟨m, hl, fun i hi => mapM_all hy i (List.mem_range.2 hi)⟩
    · cases h
end
structure P2 where
  a : Int
  b : Int
  deriving DecidableEq, Inhabited
def cP2 (x : P2) : List Value := [.int .i64 x.a, .int .i64 x.b]
instance encc_P2 : R.EncC cP2 2 := ⟨fun _ => rfl, by simp [cP2, Value.oneCell'], by decide⟩
instance enct_P2 : R.EncT Try.prog 86 P2 cP2 2 := {}
instance iss_P2 (a b : Int) : R.Iss cP2 [.int .i64 a, .int .i64 b] [⟨a, b⟩] := ⟨rfl⟩
def GP2 (_ : World) (x : P2) : Prop := In64 x.a ∧ In64 x.b
instance opn_P2 : R.Opn Try.prog 86 P2 cP2 GP2 := ⟨fun {H eh W base sp held fuel cs x} hx => by
  have hu : Try.prog.underlying 86 = some (.array 2 3) := by kernel_rfl
  have hi : Try.prog.underlying 3 = some (.int .i64) := by kernel_rfl
  have hc : Try.prog.cellsOf 3 = 1 := by kernel_rfl
  obtain ⟨m, hl, h⟩ := trod_arr hu hx
  rw [show Try.prog.cellsOf 86 = 2 by kernel_rfl] at hl
  rw [hc] at h
  obtain ⟨v0, v1, rfl⟩ : ∃ v0 v1, cs = [v0, v1] := by
    match cs, hl with
    | [v0, v1], _ => exact ⟨v0, v1, rfl⟩
  obtain ⟨y0, k0⟩ := h 0 (by decide)
  obtain ⟨y1, k1⟩ := h 1 (by decide)
  obtain ⟨n0, e0, _, g0⟩ := DataW.trod_int hi k0
  obtain ⟨n1, e1, _, g1⟩ := DataW.trod_int hi k1
  have b0 := bounds_i64 g0
  have b1 := bounds_i64 g1
  simp at e0 e1
  exact ⟨⟨n0, n1⟩, by rw [e0, e1]; rfl, by unfold GP2; dsimp only; unfold In64; omega⟩⟩

set_option maxRecDepth 100000 in
theorem walk_ClosedTurns {H : Type} {enc : TypeId × Value → H} (W : World) (base : Nat) (args : Array Value) (ds : List (DataW H)) (ps : List MemPlace) (hA : DataW.TrodAll enc Try.prog W 0 (fun _ => true) true [74, 3, 3] args.toList ds ps)
    (hval : ∀ (j : Nat) t v, #[74, 3, 3][j]? = some t → args[j]? = some v → Value.okWide Try.prog W .any base t v) :
    Calls Try.prog 12 args W fun e W' => e = .returned (.bool true) ∧ Below W.heap.size W W' := by
  obtain ⟨v0, v1, v2, d0, d1, d2, p0, p1, p2, rfl, rfl, rfl, h0, h1, h2⟩ := trodAll_three hA
  obtain ⟨z0, q0, g0, a0, b0⟩ := R.open_arg (hval 0 74 v0 rfl rfl) h0
  obtain ⟨z1, q1, g1, a1, b1⟩ := R.open_arg (hval 1 3 v1 rfl rfl) h1
  obtain ⟨z2, q2, g2, a2, b2⟩ := R.open_arg (hval 2 3 v2 rfl rfl) h2
  obtain rfl := b0 (by kernel_rfl) _ rfl
  obtain rfl := b1 (by kernel_rfl) _ rfl
  obtain rfl := b2 (by kernel_rfl) _ rfl
  exact closedTurns_any z0.A z0.n z0.c z0.L z1 z2 W g0.1 g0.2.1
set_option maxRecDepth 100000 in
theorem walk_ClosedOrder {H : Type} {enc : TypeId × Value → H} (W : World) (base : Nat) (args : Array Value) (ds : List (DataW H)) (ps : List MemPlace) (hA : DataW.TrodAll enc Try.prog W 0 (fun _ => true) true [74, 3, 86] args.toList ds ps)
    (hval : ∀ (j : Nat) t v, #[74, 3, 86][j]? = some t → args[j]? = some v → Value.okWide Try.prog W .any base t v) :
    Calls Try.prog 10 args W fun e W' => e = .returned (.bool true) ∧ Below W.heap.size W W' := by
  obtain ⟨v0, v1, v2, d0, d1, d2, p0, p1, p2, rfl, rfl, rfl, h0, h1, h2⟩ := trodAll_three hA
  obtain ⟨z0, q0, g0, a0, b0⟩ := R.open_arg (hval 0 74 v0 rfl rfl) h0
  obtain ⟨z1, q1, g1, a1, b1⟩ := R.open_arg (hval 1 3 v1 rfl rfl) h1
  obtain ⟨z2, q2, g2, a2, b2⟩ := R.open_arg (hval 2 86 v2 rfl rfl) h2
  obtain rfl := b0 (by kernel_rfl) _ rfl
  obtain rfl := b1 (by kernel_rfl) _ rfl
  obtain rfl := a2 (by kernel_rfl)
  exact closedOrder_any z0.A z0.n z0.c z0.L z1 z2.a z2.b W g0.1 g0.2.1
end Go.Proofs.Ytmmfndmfibbhcaa
