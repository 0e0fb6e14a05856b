/- Rows of rows. -/
import Derived.Test.YtegbidklcaccjaaKc
namespace Go.Proofs.Ytegbidklcaccjaa
open Go.RowKit
open R (In64 InU64 lo64 nth)
section
variable {T : Type} {e : TypeId} {sz : Nat} {enc : T → List Value} {F : List Nat} {W0 w : World} {l : List R.Res} {M : List (R.Sl T)} {j : Nat}
/-- Rows whose slices are M. -/
def nst1 (e : TypeId) (sz : Nat) (enc : T → List Value) (x : R.Sl T) : R.Res := .row x.A x.n x.c e sz (x.L.flatMap enc)
def nst (e : TypeId) (sz : Nat) (enc : T → List Value) (M : List (R.Sl T)) : List R.Res := M.map (nst1 e sz enc)
theorem nst_app (M N : List (R.Sl T)) : nst e sz enc (M ++ N) = nst e sz enc M ++ nst e sz enc N := List.map_append
theorem split_at (hj : j < M.length) : M = M.take j ++ nth M j :: M.drop (j + 1) := by
  rw [R.nth_eq hj, List.getElem_cons_drop, List.take_append_drop]
theorem nst_pick (hj : j < M.length) : (nst e sz enc M).Perm (nst1 e sz enc (nth M j) :: (nst e sz enc (M.take j) ++ nst e sz enc (M.drop (j + 1)))) := by
  conv => lhs; rw [split_at hj, nst_app]
  exact List.perm_middle
theorem nst_set (hj : j < M.length) (x : R.Sl T) : (nst e sz enc (M.set j x)).Perm (nst1 e sz enc x :: (nst e sz enc (M.take j) ++ nst e sz enc (M.drop (j + 1)))) := by
  rw [List.set_eq_take_append_cons_drop, if_pos hj, nst_app]
  exact List.perm_middle
theorem own_nils (hM : R.Own F W0 w l) (e : TypeId) (sz : Nat) (enc : T → List Value) : ∀ n : Nat, R.Own F W0 w (nst e sz enc (List.replicate n (default : R.Sl T)) ++ l)
  | 0 => hM
  | n + 1 => by
    rw [List.replicate_succ]
    exact R.Own.nil (own_nils hM e sz enc n) e sz
theorem nst_focus {pre : List R.Res} (hM : R.Own F W0 w (pre ++ nst e sz enc M)) (hj : j < M.length) : R.Own F W0 w (nst1 e sz enc (nth M j) :: (pre ++ (nst e sz enc (M.take j) ++ nst e sz enc (M.drop (j + 1))))) :=
  hM.perm (List.perm_middle.symm.trans (List.Perm.append_left pre (nst_pick hj).symm))
theorem nst_back {pre : List R.Res} {x : R.Sl T} (hM : R.Own F W0 w (nst1 e sz enc x :: (pre ++ (nst e sz enc (M.take j) ++ nst e sz enc (M.drop (j + 1)))))) (hj : j < M.length) : R.Own F W0 w (pre ++ nst e sz enc (M.set j x)) :=
  hM.perm ((List.Perm.append_left pre (nst_set hj x)).trans List.perm_middle)
theorem nst_mem (hj : j < M.length) : nst1 e sz enc (nth M j) ∈ nst e sz enc M := List.mem_map.2 ⟨_, R.nth_mem hj, rfl⟩
end
theorem R.Own.giveN {F : List Nat} {W w w' : World} {l lc : List R.Res} (h : R.Own F W w l) (hc : R.Own [] w w' lc) : R.Own F W w' (l ++ lc) := R.Own.callF (l := l) (lc := []) (by rw [List.append_nil]; exact h) hc
instance enct_Items : R.EncT Try.prog 56 (R.Sl Item) R.cSl 1 := {}
instance enct_Bools : R.EncT Try.prog 30 (R.Sl Bool) R.cSl 1 := {}
instance enct_Frm : R.EncT Try.prog 135 Item cItem 2 := {}
end Go.Proofs.Ytegbidklcaccjaa
