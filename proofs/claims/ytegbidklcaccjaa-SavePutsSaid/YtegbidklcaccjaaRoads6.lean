/- Package roads: Strips, and the document's. -/
import Derived.Test.YtegbidklcaccjaaRoads5
import Derived.Test.YtegbidklcaccjaaHg
import Derived.Test.YtegbidklcaccjaaSvA
namespace Go.Proofs.Ytegbidklcaccjaa
open Go.RowKit
open R (In64 InU64 lo64 nth)
structure Strip where
  road : Int
  place : Int
  a : Pt
  b : Pt
  weight : Int
  one : Bool
  deriving DecidableEq, Inhabited
def cStrip (x : Strip) : List Value := [.int .i64 x.road, .int .i64 x.place, .int .i64 x.a.x, .int .i64 x.a.y, .int .i64 x.b.x, .int .i64 x.b.y, .int .i64 x.weight, .bool x.one]
instance encc_Strip : R.EncC cStrip 8 := ⟨fun _ => rfl, by simp [cStrip, Value.oneCell'], by decide⟩
instance iss_Strip (a b c d e f g : Int) (h : Bool) : R.Iss cStrip [.int .i64 a, .int .i64 b, .int .i64 c, .int .i64 d, .int .i64 e, .int .i64 f, .int .i64 g, .bool h] [⟨a, b, ⟨c, d⟩, ⟨e, f⟩, g, h⟩] := ⟨rfl⟩
/-- The line of a place of a road. -/
def stripAt (x : Road) (i : Nat) : Strip := ⟨x.rank, (i : Nat), nth x.p.L i, nth x.p.L (i + 1), nth x.q.L i, x.both⟩
def stripsR (x : Road) (j : Nat) : List Strip := (List.range j).map (stripAt x)
def stripsV (L : List Road) : List Strip := L.flatMap fun x => stripsR x x.q.n
theorem stripsR_len (x : Road) (j : Nat) : (stripsR x j).length = j := by simp [stripsR]
theorem stripsR_succ (x : Road) (j : Nat) : stripsR x (j + 1) = stripsR x j ++ [stripAt x j] := by simp [stripsR, List.range_succ]
theorem stripsV_len (L : List Road) : (stripsV L).length = lineN L := by
  induction L with
  | nil => rfl
  | cons x l ih =>
    unfold stripsV at ih ⊢
    rw [List.flatMap_cons, List.length_append, ih, stripsR_len]
    rfl
theorem stripsV_snoc {L : List Road} {k : Nat} (hk : k < L.length) : stripsV (L.take (k + 1)) = stripsV (L.take k) ++ stripsR (nth L k) (nth L k).q.n := by
  unfold stripsV
  rw [take_snoc hk, List.flatMap_append]
  simp
theorem errAll_ok {L : List Road} (h : errAll L = 0) : L.length ≤ 200 ∧ (∀ j, j < L.length → errR (nth L j) = 0) ∧ Rises L L.length ∧ lineN L ≤ 400 := by
  by_cases h1 : 200 < L.length
  · rw [errAll_4 h1] at h
    cases h
  by_cases h2 : ∀ j, j < L.length → errR (nth L j) = 0
  · by_cases h3 : Rises L L.length
    · rw [errAll_5 h1 h2 h3] at h
      split at h
      · cases h
      · exact ⟨by omega, h2, h3, by omega⟩
    · rw [errAll_1 h1 h2 h3] at h
      cases h
  · exfalso
    unfold errAll at h
    rw [if_neg h1] at h
    have hf : firstErr L ≠ 0 := fun hz => h2 (fun j hj => by
      clear h h1 h2
      induction L generalizing j with
      | nil => exact absurd hj (Nat.not_lt_zero _)
      | cons x l ih =>
        unfold firstErr at hz
        by_cases hx : errR x = 0
        · rw [if_pos hx] at hz
          cases j with
          | zero => exact hx
          | succ j => exact ih hz j (Nat.lt_of_succ_lt_succ hj)
        · rw [if_neg hx] at hz
          exact absurd hz hx)
    rw [if_pos hf] at h
    exact hf h
theorem lineN_le (L : List Road) (k : Nat) : lineN (L.take k) ≤ lineN L := by
  have := lineN_app (L.take k) (L.drop k)
  rw [List.take_append_drop] at this
  omega
section
variable (A : Option Addr) (n c : Nat) (L : List Road) (w : World) (hA : R.Inp [] w A n 4 (L.flatMap cRoad)) (hn : n = L.length) (hb : n ≤ 1000000000) (hG : ∀ x ∈ L, GRoad w x)
include hA hn hb hG
end
end Go.Proofs.Ytegbidklcaccjaa
