/- WholeTurned: parts of its proof (Rq Uy). -/
import Derived.Test.YtlmabdegojeheaaGreatDoorRoEy
import Derived.Test.YtlmabdegojeheaaGreatDoorUwEg
namespace Go.Proofs.YtlmabdegojeheaaGreatDoor
open R
namespace E
open Go.RowKit
theorem bsL (l:List UInt8):(bs l).toList=l:=by rw [ByteArray.toList_eq];exact ua l
theorem Yv (cur:List UInt8):jB [] cur=if cur=[] then [] else [V.s cur.reverse]:=by cases cur <;> rfl
theorem Jb (c:UInt8) (l cur:List UInt8):jB (c::l) cur=bif Nat.beq c.toNat 10 then V.s cur.reverse::jB l [] else jB l (c::cur):=rfl
theorem DJ (x:UInt8) (l:List UInt8):Lib.indexByte (x::l) 10=bif Nat.beq x.toNat 10 then 0 else if Lib.indexByte l 10=-1 then -1 else Lib.indexByte l 10+1:=by
 have e2:Lib.indexByte (x::l) 10=if (x == 10)=true then 0 else if (Lib.indexByte l 10 == -1)=true then -1 else Lib.indexByte l 10+1:=rfl
 have e3:(x == 10)=Nat.beq x.toNat 10:=Aa (c:=10) vj
 rw [e2,e3]
 cases Nat.beq x.toNat 10 <;> simp
theorem Jc:∀ (l cur:List UInt8),Lib.indexByte l 10=-1→jB l cur=(if cur.reverse++l=[] then [] else [V.s (cur.reverse++l)])∧∀ x∈l,Nat.beq x.toNat 10=false
 | [],cur,_=>⟨by rw [Yv];simp,by simp⟩
 | x::l,cur,h=>by
  rw [DJ] at h
  rw [Jb]
  cases hb:Nat.beq x.toNat 10 with
  | true=>rw [hb] at h;cases h
  | false =>
   rw [hb] at h
   simp only [cond_false] at h ⊢
   have h0:=Lib.indexByte_ge l 10
   have hl:Lib.indexByte l 10=-1:=by
    split at h
    ·assumption
    ·omega
   obtain ⟨h1,h2⟩:=Jc l (x::cur) hl
   refine ⟨?_,fun y hy=>?_⟩
   ·rw [h1]
    simp
   ·rcases List.mem_cons.1 hy with rfl|hy
    ·exact hb
    ·exact h2 y hy
theorem Jd:∀ (l cur:List UInt8),0≤Lib.indexByte l 10→jB l cur=V.s (cur.reverse++l.take (Lib.indexByte l 10).toNat)::jB (l.drop ((Lib.indexByte l 10).toNat+1)) []∧l.take ((Lib.indexByte l 10).toNat+1)=l.take (Lib.indexByte l 10).toNat++[10]
 | [],cur,h=>absurd h vj
 | x::l,cur,h=>by
  rw [DJ] at h ⊢
  rw [Jb]
  cases hb:Nat.beq x.toNat 10 with
  | true =>
   have:x=10:=by
    apply UInt8.toNat_inj.1
    exact Nat.eq_of_beq_eq_true hb
   subst this
   simp
  | false =>
   rw [hb] at h
   simp only [cond_false] at h ⊢
   have h0:=Lib.indexByte_ge l 10
   have hl:Lib.indexByte l 10≠-1:=fun e=>by rw [if_pos e] at h;cases h
   rw [if_neg hl]
   obtain ⟨h1,h2⟩:=Jd l (x::cur) xj
   have e:(Lib.indexByte l 10+1).toNat=(Lib.indexByte l 10).toNat+1:=by omega
   rw [e,h1]
   refine ⟨by simp,?_⟩
   rw [List.take_succ_cons,h2]
   rfl
theorem TM (l:List UInt8):nG (l++[10])=bs l:=by
 have e:qI (bs (l++[10])) (bs [10])=true:=by
  unfold qI
  rw [j9,fk,fk,bsL,bsL]
  simp
 unfold nG qJ
 rw [if_pos e,j9,fk,fk]
 simp
theorem TN (l:List UInt8) (h:∀ x∈l,Nat.beq x.toNat 10=false):nG l=bs l:=by
 have e:qI (bs l) (bs [10])=false:=by
  unfold qI
  rw [j9,fk,fk,bsL,bsL]
  cases hd:decide ([(10:UInt8)].length≤l.length) with
  | false=>rfl
  | true =>
   rw [Bool.true_and]
   have h1:=of_decide_eq_true hd
   refine beq_eq_false_iff_ne.2 fun h2=>?_
   have h3:(10:UInt8)∈(l.drop (l.length-[(10:UInt8)].length)).take (l.length-(l.length-[(10:UInt8)].length)):=by rw [h2];exact .head _
   have h4:=h 10 (List.mem_of_mem_drop (List.mem_of_mem_take h3))
   exact absurd h4 vj
 unfold nG qJ
 rw [if_neg (by rw [e];exact Bool.false_ne_true)]
theorem DK:∀ (k:Nat) (l:List UInt8),l.length≤k→jB l []=(GK l).map fun x=>V.s (nG x).data.toList
 | 0,l,h=>by
  obtain rfl:=List.length_eq_zero_iff.1 (Nat.le_zero.1 h)
  rfl
 | k+1,[],_=>rfl
 | k+1,c::r,h=>by
  have hne:c::r≠[]:=by simp
  have hc:=qK hne
  rw [DH hne,List.map_cons]
  have ih:=DK k (fS (c::r)).2 xj
  by_cases hi:0≤Lib.indexByte (c::r) 10
  ·obtain ⟨h1,h2⟩:=Jd (c::r) [] hi
   have e:fS (c::r)=((c::r).take ((Lib.indexByte (c::r) 10).toNat+1),(c::r).drop ((Lib.indexByte (c::r) 10).toNat+1)):=if_pos hi
   rw [e] at ih ⊢
   rw [h1,ih,h2,TM,ua]
   rfl
  ·have h0:=Lib.indexByte_ge (c::r) 10
   obtain ⟨h1,h2⟩:=Jc (c::r) [] xj
   have e:fS (c::r)=(c::r,[]):=if_neg hi
   rw [e,h1,TN _ h2,ua]
   rfl
theorem Je {ρ:Rn}:∀ L:List (List UInt8),aT ρ (L.map fun x=>V.s (nG x).data.toList) (L.flatMap AK)
 | []=>.nil
 | x::L=>.cons (by
   have:=Den.s (ρ:=ρ) (nG x).data.toList
   simpa using this) (Je L)
set_option maxRecDepth 100000 in
theorem GR:fB Tryz.prog 87 (z7 9):=by
 intro vs h nx v h' aL ρ w xs hr hd hs hf _
 unfold z7 at hr
 split at hr
 ·rename_i l
  obtain ⟨hl,h2⟩:=nX hr
  rw [blt_eq] at hl
  have hl:=of_decide_eq_true hl
  obtain ⟨x,rfl,hx⟩:=xw hd
  cases hx
  refine toB ((AM l xj w).mono ?_)
  rintro e w' ⟨A,c,rfl,hnil,hM⟩
  rw [DK _ l (Nat.le_refl _)] at h2
  dsimp only at h2
  rw [List.length_map] at h2
  exact ⟨_,rfl,kP hs hf hM (Je _) (fun h=>hnil (List.length_eq_zero_iff.1 h)) h2⟩
 ·cases hr
set_option maxRecDepth 100000 in
theorem Lg (w:World):Calls Tryz.prog 6 #[] w fun e w'=>e=.returned (.bool true)∧Below w.heap.size w w':=NB GG GH Lc GR w
end E
section
open Go.ChangeShapes Go.WideShapes Go.ChangeAt Go.RowKit
def GY (_:World) (n:Int):Prop:=(Lit.int .u8 n).wf=true
instance ah2:xy Tryz.prog 5 Int cY GY:=IZ wq fun _=>rfl
theorem wf8 {n:Int} (h:(Lit.int .u8 n).wf=true):0≤n∧n≤255:=by
 simp [Lit.wf,IntKind.min,IntKind.max,IntKind.signed,IntKind.bits] at h
 omega
set_option maxRecDepth 100000 in
theorem l6 {H:Type} {enc:TypeId×Value→H} (W:World) (base:Nat) (args:Array Value) (ds:List (DataW H)) (ps:List MemPlace) (hA:DataW.TrodAll enc Tryz.prog W 0 (fun _=>true) true [22,5] args.toList ds ps)
  (hval:∀ (j:Nat) t v,#[22,5][j]?=some t→args[j]?=some v→Value.okWide Tryz.prog W .any base t v) :
  Calls Tryz.prog 3 args W fun e W'=>e=.returned (.bool true)∧Below W.heap.size W W':=by
 obtain ⟨v0,v1,d0,d1,p0,p1,rfl,rfl,rfl,h0,h1⟩:=trodAll_two hA
 obtain ⟨z0,q0,g0,a0,b0⟩:=Dp (hval 0 22 v0 rfl rfl) h0
 obtain ⟨z1,q1,g1,a1,b1⟩:=Dp (hval 1 5 v1 rfl rfl) h1
 obtain rfl:=b0 wq _ rfl
 obtain rfl:=b1 wq _ rfl
 obtain ⟨k0,k1⟩:=wf8 g1
 exact EJ E.Lg z0.A z0.n z0.c z0.L z1 W g0.1 g0.2.1 (by have:=g0.2.2.1;omega) g0.2.2.2 k0 k1
#print axioms l6
end
end Go.Proofs.YtlmabdegojeheaaGreatDoor
