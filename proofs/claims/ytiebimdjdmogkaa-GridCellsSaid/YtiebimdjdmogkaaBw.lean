/- Ways of a net, which follow: package bans and snicketref17. -/
import Derived.Test.YtiebimdjdmogkaaCf
namespace Go.Proofs.Ytiebimdjdmogkaa
open Go.RowKit
open R (In64 InU64 lo64 nth)

theorem GSl_now {T : Type} {enc : T → List Value} {sz : Nat} {G : World → T → Prop} {W w : World} {l : List R.Res} {x : R.Sl T} (hM : R.Own [] W w l) (hG : ∀ y, G W y → G w y) (h : R.GSl enc sz G W x) : R.GSl enc sz G w x := ⟨hM.inpIn h.1, h.2.1, h.2.2.1, fun y hy => hG y (h.2.2.2 y hy)⟩
theorem GNt.now {W w : World} {l : List R.Res} {x : Nt} (hM : R.Own [] W w l) (h : GNt W x) : GNt w x :=
  ⟨GSl_now hM (fun _ h => h) h.1, GSl_now hM (fun _ h => h) h.2.1, GSl_now hM (fun _ h => GSl_now hM (fun _ h => h) h) h.2.2⟩
theorem GRl.now {W w : World} {l : List R.Res} {x : Rl} (hM : R.Own [] W w l) (h : GRl W x) : GRl w x := ⟨GSl_now hM (fun _ h => h) h.1, h.2⟩
theorem GNt.lasts {W : World} {x : Nt} (h : GNt W x) : R.Lasts GNt W x := fun _ hb => h.now ((R.Own.start [] W).call hb)
theorem GRl.lasts {W : World} {x : Rl} (h : GRl W x) : R.Lasts GRl W x := fun _ hb => h.now ((R.Own.start [] W).call hb)
/-- An edge; whether there is a way, its tail and head, whether ways follow. -/
def edW (x : Nt) (v : Int) : Ed := nth x.e.L (v / 2).toNat
def wayB (x : Nt) (v : Int) : Bool := decide (0 ≤ v) && (decide (v / 2 < x.e.n) && (if v % 2 = 0 then (edW x v).f else (edW x v).k))
def tailV (x : Nt) (v : Int) : Int := if v % 2 = 0 then (edW x v).a else (edW x v).b
def headV (x : Nt) (v : Int) : Int := if v % 2 = 0 then (edW x v).b else (edW x v).a
def folB (x : Nt) (v w : Int) : Bool := wayB x v && (wayB x w && decide (headV x v = tailV x w))
theorem wayB_of {x : Nt} {v : Int} (h : wayB x v = true) : 0 ≤ v ∧ v / 2 < x.e.n ∧ (if v % 2 = 0 then (edW x v).f else (edW x v).k) = true := by
  unfold wayB at h
  rw [Bool.and_eq_true, Bool.and_eq_true] at h
  exact ⟨of_decide_eq_true h.1, of_decide_eq_true h.2.1, h.2.2⟩
section
variable {x : Nt} {v : Int}
theorem wb0 (h : v < 0) : wayB x v = false := by unfold wayB; rw [decide_eq_false (by omega)]; rfl
theorem wb1 (h : (x.e.n : Int) ≤ v / 2) : wayB x v = false := by unfold wayB; rw [decide_eq_false (by omega : ¬ v / 2 < x.e.n)]; simp
theorem wbf (h0 : ¬ v < 0) (h1 : ¬ (x.e.n : Int) ≤ v / 2) (h : v % 2 = 0) : wayB x v = (nth x.e.L (v / 2).toNat).f := by unfold wayB edW; rw [decide_eq_true (by omega : 0 ≤ v), decide_eq_true (by omega : v / 2 < x.e.n), if_pos h]; rfl
theorem wbk (h0 : ¬ v < 0) (h1 : ¬ (x.e.n : Int) ≤ v / 2) (h : ¬ v % 2 = 0) : wayB x v = (nth x.e.L (v / 2).toNat).k := by unfold wayB edW; rw [decide_eq_true (by omega : 0 ≤ v), decide_eq_true (by omega : v / 2 < x.e.n), if_neg h]; rfl
theorem nbw_t {b : Bool} {p : Prop} (hd : b = true) (h : (!b) = true) : p := by rw [hd] at h; cases h
theorem nbw_f {b : Bool} {p : Prop} (hd : b = false) (h : (!b) = false) : p := by rw [hd] at h; cases h
theorem bbw_t {b : Bool} {p : Prop} (hd : b = true) (h : b = false) : p := by rw [hd] at h; cases h
theorem folB_t {w : Int} (hv : wayB x v = true) (hw : wayB x w = true) : folB x v w = decide (headV x v = tailV x w) := by unfold folB; rw [hv, hw]; rfl
theorem folB_v {w : Int} (hv : wayB x v = false) : folB x v w = false := by unfold folB; rw [hv]; rfl
theorem folB_w {w : Int} (hw : wayB x w = false) : folB x v w = false := by unfold folB; rw [hw]; simp
end
/-- The way the other way round. -/
def aboutV (v : Int) : Int := if v < 0 then v else if v % 2 = 0 then v + 1 else v - 1
theorem xor_one (a : Nat) : a ^^^ 1 = if a % 2 = 0 then a + 1 else a - 1 := by
  have h1 : (a ^^^ 1) / 2 = a / 2 := by rw [Nat.xor_div_two]; simp
  have h2 := @Nat.xor_mod_two_eq_one a 1
  split <;> omega
theorem bits_xor1 (v : Int) (h0 : 0 ≤ v) (h1 : v ≤ 9223372036854775807) : bits .xor .i64 v 1 = if v % 2 = 0 then v + 1 else v - 1 := by
  obtain ⟨a, rfl⟩ := Int.eq_ofNat_of_zero_le h0
  have ha : (BitVec.ofInt 64 (a : Int)).toNat = a := by
    rw [BitVec.ofInt_natCast, BitVec.toNat_ofNat]
    exact Nat.mod_eq_of_lt (by omega)
  have hb : (BitVec.ofInt 64 1).toNat = 1 := by decide
  show IntKind.i64.wrap ((BitVec.ofInt 64 (a : Int) ^^^ BitVec.ofInt 64 1).toNat : Nat) = _
  rw [BitVec.toNat_xor, ha, hb, xor_one, IntKind.wrap_i64]
  split <;> split <;> omega
theorem WO_xor1 {P : Program} {C : R.CallH} {o : Oper} {f : R.Fr} {w : World} {K : Value → World → Prop} {t t' : TypeId} {x y : Operand} {v : Int} (hop : o.op = .binOp .xor t x y t') (hx : R.ev f x = .int .i64 v) (hy : R.ev f y = .int .i64 1) (h0 : 0 ≤ v) (h1 : v ≤ 9223372036854775807) (hk : K (.int .i64 (if v % 2 = 0 then v + 1 else v - 1)) w) : R.WO P C o f w K := by
  rw [← bits_xor1 v h0 h1] at hk
  exact R.WO_val (by simp [execOp, hop, hx, hy, eqGuard_xor, binOp_xor, intBits_xor]) hk
end Go.Proofs.Ytiebimdjdmogkaa
