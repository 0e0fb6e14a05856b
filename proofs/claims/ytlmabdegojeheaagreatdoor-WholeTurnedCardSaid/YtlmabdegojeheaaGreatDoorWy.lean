/- WholeTurned: parts of its proof (Wy). -/
import Derived.Test.YtlmabdegojeheaaGreatDoorWxSp
namespace Go.Proofs.YtlmabdegojeheaaGreatDoor
open R
section
open Go.RowKit
structure Pt where
 x:Int
 y:Int
 deriving DecidableEq,Inhabited
def cr (x:Pt):List Value:=[.int .i64 x.x,.int .i64 x.y]
instance ac2:cA cr 2:=⟨fun _=>rfl,by simp [cr,Value.oneCell'],by decide⟩
instance ac3:iU Tryz.prog 32 Pt cr 2:={}
instance aeD:Tt Tryz.prog 32 Pt cr:=vm (ls:=[some .i64,some .i64]) wq wq wq (fun _=>⟨rfl,rfl,trivial⟩) (fun a b h=>by cases a;cases b;simpa [cr] using h)
structure bJ where
 a:Pt
 b:Pt
 deriving DecidableEq,Inhabited
def bD (s:bJ):List Value:=cr s.a++cr s.b
instance abN:cA bD 4:=⟨fun _=>rfl,by simp [bD,cr,Value.oneCell'],by decide⟩
instance abO:iU Tryz.prog 56 bJ bD 4:={}
structure Wy where
 x:Sg
 y:Sg
def EX (v:Wy):List Value:=cS v.x++cS v.y
section
variable {C:bO} {o:Oper} {f:R.Fr} {F:List Nat} {W0 w:World} {K:Value→World→Prop} {l l':List bX} {t u e:TypeId} {x y z i:Operand} {g:Nat} {s s2:Sg} {p:Wy} {m:Wd} {b:Bool}
theorem BJ (hop:o.op=.alloc 653) (hM:R.Own F W0 w l) (hk:∀ g w',R.Own F W0 w' (.blk g 653 (EX ⟨⟨false,W 0⟩,⟨false,W 0⟩⟩)::l)→K (.pointer (some ⟨g,0,none⟩)) w'):WO Tryz.prog C o f w K :=
 dO hop hM (by unfold EX cS at hk;rw [Bw bK,eZ] at hk;exact hk)
theorem BK (hop:o.op=.build 653 #[(0,x),(1,y)]) (hx:ev f x=.agg (cS s).toArray) (hy:ev f y=.agg (cS s2).toArray) (hk:K (.agg (EX ⟨s,s2⟩).toArray) w):WO Tryz.prog C o f w K :=
 iv hop hx hy rfl rfl Zk (by (simp only [ej,List.getD_cons_zero,List.getD_cons_succ]) <;> rfl) hk
theorem BL (hop:o.op=.load t x) (hx:ev f x=.pointer (some ⟨g,0,none⟩)) [aG Tryz.prog t true] [dP Tryz.prog t 9] (hM:R.Own F W0 w l) (hm:.blk g u (EX p)∈l) (hk:K (.agg (cS p.x).toArray) w):WO Tryz.prog C o f w K :=
 cN (j:=0) (m:=9) (cs:=EX p) hop hx rfl hM hm rfl (by
  have e:List.take 9 (List.drop 0 (EX p))=cS p.x:=rfl
  rw [e];exact hk)
theorem BM (hop:o.op=.load t x) (hx:ev f x=.pointer (some ⟨g,9,none⟩)) [aG Tryz.prog t true] [dP Tryz.prog t 9] (hM:R.Own F W0 w l) (hm:.blk g u (EX p)∈l) (hk:K (.agg (cS p.y).toArray) w):WO Tryz.prog C o f w K :=
 cN (j:=9) (m:=9) (cs:=EX p) hop hx rfl hM hm rfl (by
  have e:List.take 9 (List.drop 9 (EX p))=cS p.y:=rfl
  rw [e];exact hk)
theorem BN {p:bJ} (hop:o.op=.load t x) (hx:ev f x=.pointer (some ⟨g,0,none⟩)) [aG Tryz.prog t true] [dP Tryz.prog t 2] (hM:R.Own F W0 w l) (hm:.blk g u (bD p)∈l) (hk:K (.agg (cr p.a).toArray) w):WO Tryz.prog C o f w K :=
 cN (j:=0) (m:=2) (cs:=bD p) hop hx rfl hM hm rfl (by
  have e:List.take 2 (List.drop 0 (bD p))=cr p.a:=rfl
  rw [e];exact hk)
theorem BO {p:bJ} (hop:o.op=.load t x) (hx:ev f x=.pointer (some ⟨g,2,none⟩)) [aG Tryz.prog t true] [dP Tryz.prog t 2] (hM:R.Own F W0 w l) (hm:.blk g u (bD p)∈l) (hk:K (.agg (cr p.b).toArray) w):WO Tryz.prog C o f w K :=
 cN (j:=2) (m:=2) (cs:=bD p) hop hx rfl hM hm rfl (by
  have e:List.take 2 (List.drop 2 (bD p))=cr p.b:=rfl
  rw [e];exact hk)
end
end
end Go.Proofs.YtlmabdegojeheaaGreatDoor
