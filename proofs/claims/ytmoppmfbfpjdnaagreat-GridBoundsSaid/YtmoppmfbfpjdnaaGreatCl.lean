/- Edges, pieces, bans, items, places, nets, rules as values of their types, and as arguments. -/
import Derived.Test.YtmoppmfbfpjdnaaGreatSp
import Derived.Test.YtmoppmfbfpjdnaaGreatOpn
import Derived.Test.YtmoppmfbfpjdnaaGreatOpen
namespace Go.Proofs.YtmoppmfbfpjdnaaGreat
open Go.ChangeShapes Go.WideShapes Go.ChangeAt Go.RowKit
open R (In64 InU64 lo64 nth)

structure Ed where
  a : Int
  b : Int
  w : Int
  f : Bool
  k : Bool
  deriving DecidableEq, Inhabited
structure Pc where
  e : Int
  f : Bool
  w : Int
  deriving DecidableEq, Inhabited
structure Bn where
  frm : Int
  to : Int
  only : Bool
  deriving DecidableEq, Inhabited
structure Item where
  key : Int
  at_ : Int
  deriving DecidableEq, Inhabited
structure Plc where
  e : Int
  o : Int
  deriving DecidableEq, Inhabited
def cEd (x : Ed) : List Value := [.int .i64 x.a, .int .i64 x.b, .int .i64 x.w, .bool x.f, .bool x.k]
def cPc (x : Pc) : List Value := [.int .i64 x.e, .bool x.f, .int .i64 x.w]
def cBn (x : Bn) : List Value := [.int .i64 x.frm, .int .i64 x.to, .bool x.only]
def cItem (x : Item) : List Value := [.int .i64 x.key, .int .i64 x.at_]
def cPlc (x : Plc) : List Value := [.int .i64 x.e, .int .i64 x.o]
instance encc_Ed : R.EncC cEd 5 := ⟨fun _ => rfl, by simp [cEd, Value.oneCell'], by decide⟩
instance encc_Pc : R.EncC cPc 3 := ⟨fun _ => rfl, by simp [cPc, Value.oneCell'], by decide⟩
instance encc_Bn : R.EncC cBn 3 := ⟨fun _ => rfl, by simp [cBn, Value.oneCell'], by decide⟩
instance encc_Item : R.EncC cItem 2 := ⟨fun _ => rfl, by simp [cItem, Value.oneCell'], by decide⟩
instance encc_Plc : R.EncC cPlc 2 := ⟨fun _ => rfl, by simp [cPlc, Value.oneCell'], by decide⟩
instance enct_Ed : R.EncT Tryz.prog 54 Ed cEd 5 := {}
instance enct_Pc : R.EncT Tryz.prog 123 Pc cPc 3 := {}
instance enct_Bn : R.EncT Tryz.prog 186 Bn cBn 3 := {}
instance iss_Ed (a b w : Int) (f k : Bool) : R.Iss cEd [.int .i64 a, .int .i64 b, .int .i64 w, .bool f, .bool k] [⟨a, b, w, f, k⟩] := ⟨rfl⟩
instance iss_Bn (a b : Int) (f : Bool) : R.Iss cBn [.int .i64 a, .int .i64 b, .bool f] [⟨a, b, f⟩] := ⟨rfl⟩
instance iss_Item (a b : Int) : R.Iss cItem [.int .i64 a, .int .i64 b] [⟨a, b⟩] := ⟨rfl⟩
instance iso_Ed (a b w : Int) (f k : Bool) : R.Iso cEd [.int .i64 a, .int .i64 b, .int .i64 w, .bool f, .bool k] ⟨a, b, w, f, k⟩ := ⟨rfl⟩
instance iso_Bn (a b : Int) (f : Bool) : R.Iso cBn [.int .i64 a, .int .i64 b, .bool f] ⟨a, b, f⟩ := ⟨rfl⟩
instance iso_Item (a b : Int) : R.Iso cItem [.int .i64 a, .int .i64 b] ⟨a, b⟩ := ⟨rfl⟩
instance iso_Plc (a b : Int) : R.Iso cPlc [.int .i64 a, .int .i64 b] ⟨a, b⟩ := ⟨rfl⟩
instance eqt_Ed : R.EqT Tryz.prog 54 Ed cEd := R.eqT_of (ls := [some .i64, some .i64, some .i64, none, none]) (by kernel_rfl) (by kernel_rfl) (by kernel_rfl) (fun _ => ⟨rfl, rfl, rfl, trivial⟩) (fun a b h => by cases a; cases b; simpa [cEd] using h)
instance eqt_Bn : R.EqT Tryz.prog 186 Bn cBn := R.eqT_of (ls := [some .i64, some .i64, none]) (by kernel_rfl) (by kernel_rfl) (by kernel_rfl) (fun _ => ⟨rfl, rfl, trivial⟩) (fun a b h => by cases a; cases b; simpa [cBn] using h)
def GI (_ : World) (n : Int) : Prop := (Lit.int .i64 n).wf = true
def GB (_ : World) (_ : Bool) : Prop := True
def GT {T : Type} (_ : World) (_ : T) : Prop := True
instance opn_I : R.Opn Tryz.prog 3 Int R.cI GI := R.opn_int (by kernel_rfl) fun _ => rfl
instance opn_B : R.Opn Tryz.prog 4 Bool R.cB GB := R.opn_bool (by kernel_rfl)
instance opn_wd : R.Opn Tryz.prog 44 Wd cW GT := ⟨fun hx => by
  obtain ⟨n, hn, he⟩ := trod_wide hx
  exact ⟨⟨n, hn⟩, he, trivial⟩⟩
instance opn_sg : R.Opn Tryz.prog 46 Sg cS GT :=
  R.opn_struct2 (o0 := 0) (t0 := 4) (n0 := 1) (o1 := 1) (t1 := 44) (n1 := 8) (e0 := R.cB) (e1 := cW) (by kernel_rfl) (by kernel_rfl) rfl rfl (by kernel_rfl) Sg.mk (fun _ _ => by simp [cS, R.cB]) (fun _ _ _ _ _ => trivial)
instance opn_sp : R.Opn Tryz.prog 52 Sp cSp GT :=
  R.opn_struct3 (o0 := 0) (t0 := 46) (n0 := 9) (o1 := 9) (t1 := 46) (n1 := 9) (o2 := 18) (t2 := 44) (n2 := 8) (e0 := cS) (e1 := cS) (e2 := cW) (by kernel_rfl) (by kernel_rfl) (by kernel_rfl) rfl rfl rfl (by kernel_rfl) Sp.mk (fun _ _ _ => by simp [cSp]) (fun _ _ _ _ _ _ _ => trivial)
def GEd (_ : World) (z : Ed) : Prop := (Lit.int .i64 z.a).wf = true ∧ (Lit.int .i64 z.b).wf = true ∧ (Lit.int .i64 z.w).wf = true
def GPc (_ : World) (z : Pc) : Prop := (Lit.int .i64 z.e).wf = true ∧ (Lit.int .i64 z.w).wf = true
def GBn (_ : World) (z : Bn) : Prop := (Lit.int .i64 z.frm).wf = true ∧ (Lit.int .i64 z.to).wf = true
def GPlc (_ : World) (z : Plc) : Prop := (Lit.int .i64 z.e).wf = true ∧ (Lit.int .i64 z.o).wf = true
instance opn_Ed : R.Opn Tryz.prog 54 Ed cEd GEd := R.opn_struct5 (o0 := 0) (t0 := 3) (n0 := 1) (o1 := 1) (t1 := 3) (n1 := 1) (o2 := 2) (t2 := 3) (n2 := 1) (o3 := 3) (t3 := 4) (n3 := 1) (o4 := 4) (t4 := 4) (n4 := 1) (by kernel_rfl) (by kernel_rfl) (by kernel_rfl) (by kernel_rfl) (by kernel_rfl) rfl rfl rfl rfl rfl (by kernel_rfl) Ed.mk (fun _ _ _ _ _ => rfl) (fun _ _ _ _ _ _ h1 h2 h3 _ _ => ⟨h1, h2, h3⟩)
instance opn_Pc : R.Opn Tryz.prog 123 Pc cPc GPc := R.opn_struct3 (o0 := 0) (t0 := 3) (n0 := 1) (o1 := 1) (t1 := 4) (n1 := 1) (o2 := 2) (t2 := 3) (n2 := 1) (by kernel_rfl) (by kernel_rfl) (by kernel_rfl) rfl rfl rfl (by kernel_rfl) Pc.mk (fun _ _ _ => rfl) (fun _ _ _ _ h1 _ h2 => ⟨h1, h2⟩)
instance opn_Bn : R.Opn Tryz.prog 186 Bn cBn GBn := R.opn_struct3 (o0 := 0) (t0 := 3) (n0 := 1) (o1 := 1) (t1 := 3) (n1 := 1) (o2 := 2) (t2 := 4) (n2 := 1) (by kernel_rfl) (by kernel_rfl) (by kernel_rfl) rfl rfl rfl (by kernel_rfl) Bn.mk (fun _ _ _ => rfl) (fun _ _ _ _ h1 h2 _ => ⟨h1, h2⟩)
instance opn_Is : R.Opn Tryz.prog 40 (R.Sl Int) R.cSl (R.GSl R.cI 1 GI) := R.opn_slice (e := 3) (by kernel_rfl) (by kernel_rfl)
instance opn_Sps : R.Opn Tryz.prog 22 (R.Sl Sp) R.cSl (R.GSl cSp 26 GT) := R.opn_slice (e := 52) (by kernel_rfl) (by kernel_rfl)
instance opn_Eds : R.Opn Tryz.prog 23 (R.Sl Ed) R.cSl (R.GSl cEd 5 GEd) := R.opn_slice (e := 54) (by kernel_rfl) (by kernel_rfl)
instance opn_Pcs : R.Opn Tryz.prog 120 (R.Sl Pc) R.cSl (R.GSl cPc 3 GPc) := R.opn_slice (e := 123) (by kernel_rfl) (by kernel_rfl)
instance opn_Pcss : R.Opn Tryz.prog 24 (R.Sl (R.Sl Pc)) R.cSl (R.GSl R.cSl 1 (R.GSl cPc 3 GPc)) := R.opn_slice (e := 120) (by kernel_rfl) (by kernel_rfl)
instance opn_Bns : R.Opn Tryz.prog 30 (R.Sl Bn) R.cSl (R.GSl cBn 3 GBn) := R.opn_slice (e := 186) (by kernel_rfl) (by kernel_rfl)
structure Nt where
  s : R.Sl Sp
  e : R.Sl Ed
  p : R.Sl (R.Sl Pc)
def cNt (x : Nt) : List Value := [.slice x.s.A x.s.n x.s.c, .slice x.e.A x.e.n x.e.c, .slice x.p.A x.p.n x.p.c]
instance encc_Nt : R.EncC cNt 3 := ⟨fun _ => rfl, by simp [cNt, Value.oneCell'], by decide⟩
def GNt (W : World) (z : Nt) : Prop := R.GSl cSp 26 GT W z.s ∧ R.GSl cEd 5 GEd W z.e ∧ R.GSl R.cSl 1 (R.GSl cPc 3 GPc) W z.p
instance opn_Nt : R.Opn Tryz.prog 26 Nt cNt GNt := R.opn_struct3 (o0 := 0) (t0 := 22) (n0 := 1) (o1 := 1) (t1 := 23) (n1 := 1) (o2 := 2) (t2 := 24) (n2 := 1) (by kernel_rfl) (by kernel_rfl) (by kernel_rfl) rfl rfl rfl (by kernel_rfl) Nt.mk (fun _ _ _ => rfl) (fun _ _ _ _ h1 h2 h3 => ⟨h1, h2, h3⟩)
structure Rl where
  b : R.Sl Bn
  p : Int
def cRl (x : Rl) : List Value := [.slice x.b.A x.b.n x.b.c, .int .i64 x.p]
instance encc_Rl : R.EncC cRl 2 := ⟨fun _ => rfl, by simp [cRl, Value.oneCell'], by decide⟩
def GRl (W : World) (z : Rl) : Prop := R.GSl cBn 3 GBn W z.b ∧ (Lit.int .i64 z.p).wf = true
instance opn_Rl : R.Opn Tryz.prog 32 Rl cRl GRl := R.opn_struct2 (o0 := 0) (t0 := 30) (n0 := 1) (o1 := 1) (t1 := 3) (n1 := 1) (by kernel_rfl) (by kernel_rfl) rfl rfl (by kernel_rfl) Rl.mk (fun _ _ => rfl) (fun _ _ _ h1 h2 => ⟨h1, h2⟩)
end Go.Proofs.YtmoppmfbfpjdnaaGreat
