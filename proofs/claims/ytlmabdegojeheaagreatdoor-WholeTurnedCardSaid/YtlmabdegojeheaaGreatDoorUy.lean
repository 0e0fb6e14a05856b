/- WholeTurned: parts of its proof (Uy). -/
import Derived.Test.YtlmabdegojeheaaGreatDoorZmEg
import Derived.Test.YtlmabdegojeheaaGreatDoorRpRq
namespace Go.Proofs.YtlmabdegojeheaaGreatDoor
open R
section
open Go.ChangeShapes Go.WideShapes Go.ChangeAt Go.RowKit
def GY (_:World) (n:Int):Prop:=(Lit.int .u8 n).wf=true
instance ahS:xy Tryz.prog 5 Int cY GY:=IZ wq fun _=>rfl
theorem wf8 {n:Int} (h:(Lit.int .u8 n).wf=true):0≤n∧n≤255:=by
 simp [Lit.wf,IntKind.min,IntKind.max,IntKind.signed,IntKind.bits] at h
 omega
set_option maxRecDepth 100000 in
theorem l6 {H:Type} {enc:TypeId×Value→H} (W:World) (base:Nat) (args:Array Value) (ds:List (DataW H)) (ps:List MemPlace) (hA:DataW.TrodAll enc Tryz.prog W 0 (fun _=>true) true [22,5] args.toList ds ps)
  (hval:∀ (j:Nat) t v,#[22,5][j]?=some t→args[j]?=some v→Value.okWide Tryz.prog W .any base t v) :
  Calls Tryz.prog 3 args W fun e W'=>e=.returned (.bool true)∧Below W.heap.size W W':=by
 obtain ⟨v0,v1,d0,d1,p0,p1,rfl,rfl,rfl,h0,h1⟩:=trodAll_two hA
 obtain ⟨z0,q0,g0,a0,b0⟩:=Dp (hval 0 22 v0 rfl rfl) h0
 obtain ⟨z1,q1,g1,a1,b1⟩:=Dp (hval 1 5 v1 rfl rfl) h1
 obtain rfl:=b0 wq _ rfl
 obtain rfl:=b1 wq _ rfl
 obtain ⟨k0,k1⟩:=wf8 g1
 exact EJ E.Lg z0.A z0.n z0.c z0.L z1 W g0.1 g0.2.1 (by have:=g0.2.2.1;omega) g0.2.2.2 k0 k1
#print axioms l6
end
end Go.Proofs.YtlmabdegojeheaaGreatDoor
