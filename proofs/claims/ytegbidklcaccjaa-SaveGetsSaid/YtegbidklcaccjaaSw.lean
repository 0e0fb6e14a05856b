/- Package save: a session's numbers. -/
import Derived.Test.YtegbidklcaccjaaRoads6
namespace Go.Proofs.Ytegbidklcaccjaa
open Go.RowKit
open R (In64 InU64 lo64 nth)
structure Bn where
  frm : Int
  to : Int
  only : Bool
  deriving DecidableEq, Inhabited
def cBn (x : Bn) : List Value := [.int .i64 x.frm, .int .i64 x.to, .bool x.only]
instance encc_Bn : R.EncC cBn 3 := ⟨fun _ => rfl, by simp [cBn, Value.oneCell'], by decide⟩
instance enct_Bn : R.EncT Try.prog 106 Bn cBn 3 := {}
def GBn (_ : World) (z : Bn) : Prop := (Lit.int .i64 z.frm).wf = true ∧ (Lit.int .i64 z.to).wf = true
/-- A session: its state, roads, bans, policy, closed edges. -/
structure Pln where
  st : Int
  rd : R.Sl Road
  bn : R.Sl Bn
  pol : Int
  cl : R.Sl Int
def cPln (p : Pln) : List Value := [.int .i64 p.st, .slice p.rd.A p.rd.n p.rd.c, .slice p.bn.A p.bn.n p.bn.c, .int .i64 p.pol, .slice p.cl.A p.cl.n p.cl.c]
instance encc_Pln : R.EncC cPln 5 := ⟨fun _ => rfl, by simp [cPln, Value.oneCell'], by decide⟩
def GPln (W : World) (p : Pln) : Prop := (Lit.int .i64 p.st).wf = true ∧ R.GSl cRoad 4 GRoad W p.rd ∧ R.GSl cBn 3 GBn W p.bn ∧ (Lit.int .i64 p.pol).wf = true ∧ R.GSl R.cI 1 GI W p.cl
def bitI (b : Bool) : Int := if b = true then 1 else 0
instance con_bit (b : Bool) : R.ConP Try.prog 82 #[.bool b] Unit (fun _ _ => True) (fun _ => .int .i64 (bitI b)) := ⟨fun _ w _ => by
  refine R.calls_of_WC (fn := Try.f82) Try.func82 rfl Try.ntmps82 (Nat.le_of_ble_eq_true rfl) ?_
  (refine R.step ?_; (repeat' (first | (with_reducible refine And.intro ?_ ?_) | (with_reducible intro _))); all_goals refine R.Lft.mk ?_)
  all_goals exact ⟨by simp [bitI, *], rfl⟩⟩
instance con_bit46 (b : Bool) : R.ConP Try.prog 84 #[.bool b] Unit (fun _ _ => True) (fun _ => .int .i64 (bitI b)) := ⟨fun _ w _ => by
  refine R.calls_of_WC (fn := Try.f84) Try.func84 rfl Try.ntmps84 (Nat.le_of_ble_eq_true rfl) ?_
  (refine R.step ?_; (repeat' (first | (with_reducible refine And.intro ?_ ?_) | (with_reducible intro _))); all_goals refine R.Lft.mk ?_)
  all_goals exact ⟨by simp [bitI, *], rfl⟩⟩
def numsP (q : Pt) : List Int := [q.x, q.y]
def numsR (x : Road) : List Int := [x.rank, bitI x.both, ((x.p.n : Nat) : Int)] ++ x.p.L.flatMap numsP ++ x.q.L
def numsB (b : Bn) : List Int := [b.frm, b.to, bitI b.only]
/-- A session's numbers. -/
def numsV (p : Pln) : List Int := [p.st, ((p.rd.n : Nat) : Int)] ++ p.rd.L.flatMap numsR ++ [p.pol, ((p.bn.n : Nat) : Int)] ++ p.bn.L.flatMap numsB ++ [((p.cl.n : Nat) : Int)] ++ p.cl.L
theorem flat_snoc {T : Type} [Inhabited T] {L : List T} {k : Nat} (f : T → List Int) (hk : k < L.length) : (L.take (k + 1)).flatMap f = (L.take k).flatMap f ++ f (nth L k) := by
  rw [take_snoc hk, List.flatMap_append]
  simp
theorem numsP_len (L : List Pt) : (L.flatMap numsP).length = 2 * L.length := by
  induction L with
  | nil => rfl
  | cons x l ih =>
    rw [List.flatMap_cons, List.length_append, ih, List.length_cons]
    simp [numsP]
    omega
theorem numsB_len (L : List Bn) : (L.flatMap numsB).length = 3 * L.length := by
  induction L with
  | nil => rfl
  | cons x l ih =>
    rw [List.flatMap_cons, List.length_append, ih, List.length_cons]
    simp [numsB]
    omega
theorem numsR_len {L : List Road} {w : World} (hG : ∀ x ∈ L, GRoad w x) (h : ∀ x ∈ L, errR x = 0) : (L.flatMap numsR).length ≤ 400 * L.length := by
  induction L with
  | nil => exact Nat.le_refl _
  | cons x l ih =>
    have := ih (fun z hz => hG z (.tail _ hz)) (fun z hz => h z (.tail _ hz))
    have hok := errR_ok (h x (.head _))
    have hg := hG x (.head _)
    have h1 := hg.2.1.2.1
    have h2 := hg.2.2.1.2.1
    have h3 : (numsR x).length = 3 + 2 * x.p.L.length + x.q.L.length := by
      unfold numsR
      rw [List.length_append, List.length_append, numsP_len]
      rfl
    rw [List.flatMap_cons, List.length_append, List.length_cons, h3]
    omega
end Go.Proofs.Ytegbidklcaccjaa
