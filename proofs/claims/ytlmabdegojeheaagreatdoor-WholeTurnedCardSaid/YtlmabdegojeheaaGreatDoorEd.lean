/- WholeTurned: parts of its proof (Ed). -/
import Derived.Test.YtlmabdegojeheaaGreatDoorEbEc
namespace Go.Proofs.YtlmabdegojeheaaGreatDoor
open R
namespace E
open Go.RowKit
theorem pP:∀ (l:List V) (n:Nat),JZ l n=l[n]?
 | [],_=>rfl
 | v::l,n=>by
  show Bool.rec (motive:=fun _=>Option V) (JZ l (n-1)) (some v) (Nat.beq n 0)=_
  cases n with
  | zero=>rfl
  | succ n =>
   show JZ l n=_
   rw [pP l n]
   simp
theorem lD:∀ (l:List V) (n:Nat),uv l n=l.drop n
 | [],n=>by simp [uv]
 | v::l,n=>by
  show Bool.rec (motive:=fun _=>List V) (uv l (n-1)) (v::l) (Nat.beq n 0)=_
  cases n with
  | zero=>rfl
  | succ n =>
   show uv l n=_
   rw [lD l n]
   simp
theorem eR:∀ {l:List V} {n:Nat} {r:List V},sM l n=some r→r=l.take n∧n≤l.length
 | [],n,r,h=>by
  cases n with
  | zero=>cases h;exact ⟨rfl,Nat.le_refl _⟩
  | succ n=>cases h
 | v::l,n,r,h=>by
  cases n with
  | zero=>cases h;exact ⟨rfl,Nat.zero_le _⟩
  | succ n =>
   replace h:Option.rec (motive:=fun _=>Option (List V)) none (fun r=>some (v::r)) (sM l n)=some r:=h
   cases h2:sM l n with
   | none=>rw [h2] at h;cases h
   | some r' =>
    rw [h2] at h
    cases h
    obtain ⟨rfl,h3⟩:=eR h2
    exact ⟨rfl,by simpa using h3⟩
theorem rC:∀ {vs cs r:List V},Fu vs cs=some r→vs.length≤cs.length∧r=vs++cs.drop vs.length
 | [],cs,r,h=>by cases h;exact ⟨Nat.zero_le _,rfl⟩
 | v::vs,[],r,h=>by cases h
 | v::vs,c::cs,r,h=>by
  replace h:Option.rec (motive:=fun _=>Option (List V)) none (fun r'=>some (v::r')) (Fu vs cs)=some r:=h
  cases h2:Fu vs cs with
  | none=>rw [h2] at h;cases h
  | some r' =>
   rw [h2] at h
   cases h
   obtain ⟨h3,rfl⟩:=rC h2
   exact ⟨by simpa using h3,rfl⟩
theorem rD:∀ {cs:List V} {n:Nat} {vs r:List V},Fv cs n vs=some r→n+vs.length≤cs.length∧r=cs.take n++(vs++cs.drop (n+vs.length))
 | [],n,vs,r,h=>by
  cases n with
  | zero =>
   obtain ⟨h1,rfl⟩:=rC (show Fu vs []=some r from h)
   exact ⟨by simpa using h1,by simp⟩
  | succ n=>cases h
 | c::cs,n,vs,r,h=>by
  cases n with
  | zero =>
   obtain ⟨h1,rfl⟩:=rC (show Fu vs (c::cs)=some r from h)
   exact ⟨by simpa using h1,by simp⟩
  | succ n =>
   replace h:Option.rec (motive:=fun _=>Option (List V)) none (fun r=>some (c::r)) (Fv cs n vs)=some r:=h
   cases h2:Fv cs n vs with
   | none=>rw [h2] at h;cases h
   | some r' =>
    rw [h2] at h
    cases h
    obtain ⟨h3,rfl⟩:=rD h2
    refine ⟨by simp;omega,?_⟩
    rw [show n+1+vs.length=n+vs.length+1 by omega]
    simp
theorem dC {k k':IntKind} (h:kb k k'=true):k=k':=by
 cases k <;> cases k' <;> first|rfl|(exact absurd h vj)
theorem wrap_i64 (n:Int):IntKind.i64.wrap n=if 9223372036854775808≤n % 18446744073709551616 then n % 18446744073709551616-18446744073709551616 else n % 18446744073709551616:=by
 simp [IntKind.wrap,IntKind.bits,IntKind.signed]
theorem wrap_u64 (n:Int):IntKind.u64.wrap n=n % 18446744073709551616:=by
 simp [IntKind.wrap,IntKind.bits,IntKind.signed]
set_option maxRecDepth 100000 in
theorem eU (k:IntKind) (n:Int):jk k n=k.wrap n:=by
 cases k
 case i8=>rfl
 case i16=>rfl
 case i32=>rfl
 case u8=>rfl
 case u16=>rfl
 case u32=>rfl
 case i64 =>
  rw [wrap_i64]
  cases n with
  | ofNat m =>
   simp only [jk]
   cases hb:Nat.ble m 9223372036854775807 with
   | false=>rw [cond_false,wrap_i64]
   | true =>
    have:=Nat.le_of_ble_eq_true hb
    simp only [cond_true,Int.ofNat_eq_natCast]
    split <;> omega
  | negSucc m =>
   simp only [jk]
   cases hb:Nat.ble m 9223372036854775807 with
   | false=>rw [cond_false,wrap_i64]
   | true =>
    have:=Nat.le_of_ble_eq_true hb
    simp only [cond_true,Int.negSucc_eq]
    split <;> omega
 case u64 =>
  rw [wrap_u64]
  cases n with
  | ofNat m =>
   simp only [jk,Int.ofNat_eq_natCast]
   omega
  | negSucc m =>
   simp only [jk,Int.ofNat_eq_natCast,Int.negSucc_eq]
   omega
theorem blt_eq (m n:Nat):Nat.blt m n=decide (m<n):=by
 cases h:Nat.blt m n with
 | true=>exact (decide_eq_true (by simpa [Nat.blt_eq] using h)).symm
 | false=>exact (decide_eq_false (fun hh=>by rw [show Nat.blt m n=true from by simpa [Nat.blt_eq] using hh] at h;cases h)).symm
theorem bE (m n:Nat):Nat.beq m n=decide (m=n):=by
 cases h:Nat.beq m n with
 | true=>exact (decide_eq_true (Nat.eq_of_beq_eq_true h)).symm
 | false=>exact (decide_eq_false (Nat.ne_of_beq_eq_false h)).symm
theorem ig (a b:Int):wV a b=decide (a<b):=by
 cases a with
 | ofNat m =>
  cases b with
  | ofNat n =>
   show Nat.blt m n=_
   rw [blt_eq]
   exact decide_eq_decide.2 (by simp)
  | negSucc n=>exact (decide_eq_false (by rw [Int.negSucc_eq];simp only [Int.ofNat_eq_natCast];omega)).symm
 | negSucc m =>
  cases b with
  | ofNat n=>exact (decide_eq_true (by rw [Int.negSucc_eq];simp only [Int.ofNat_eq_natCast];omega)).symm
  | negSucc n =>
   show Nat.blt n m=_
   rw [blt_eq]
   exact decide_eq_decide.2 (by rw [Int.negSucc_eq,Int.negSucc_eq];omega)
theorem k7 (a b:Int):Me a b=decide (a=b):=by
 cases a with
 | ofNat m =>
  cases b with
  | ofNat n =>
   show Nat.beq m n=_
   rw [bE]
   exact decide_eq_decide.2 (by simp only [Int.ofNat_eq_natCast];omega)
  | negSucc n=>exact (decide_eq_false (by simp)).symm
 | negSucc m =>
  cases b with
  | ofNat n=>exact (decide_eq_false (by simp)).symm
  | negSucc n =>
   show Nat.beq m n=_
   rw [bE]
   exact decide_eq_decide.2 (by simp)
theorem bp {β:Type} (n:Int) (K:Int→β):cv n K=K n:=by
 unfold cv
 cases n with
 | ofNat m =>
  show (bif Nat.beq m 0 then K (.ofNat 0) else K (.ofNat m))=_
  cases hb:Nat.beq m 0 with
  | true=>rw [Nat.eq_of_beq_eq_true hb];rfl
  | false=>rfl
 | negSucc m =>
  show (bif Nat.beq m 0 then K (.negSucc 0) else K (.negSucc m))=_
  cases hb:Nat.beq m 0 with
  | true=>rw [Nat.eq_of_beq_eq_true hb];rfl
  | false=>rfl
theorem rE {n:Int} {m:Nat} (h:QY n=some m):n=(m:Int):=by
 cases n <;> cases h
 rfl
def CB (ρ:Rn) (e:V×V×Nat) (m:MapEntry):Prop:=Den ρ e.1 m.key∧Den ρ e.2.1 m.val∧m.born=e.2.2
inductive dM (ρ:Rn):List (V×V×Nat)→List MapEntry→Prop
 | nil:dM ρ [] []
 | cons {e m l r}:CB ρ e m→dM ρ l r→dM ρ (e::l) (m::r)
inductive iL (ρ:Rn):O→Obj→Nat→Prop
 | row {cs opn t xs tl sz}:aT ρ cs xs→(opn=false→tl=[])→(xs++tl).length=sz→iL ρ (.row cs opn t) (.cells (xs++tl).toArray t) sz
 | mp {es clock ms sz}:dM ρ es ms→iL ρ (.mp es clock) (.map ms.toArray clock) sz
 | it0 {since seen st sz}:iL ρ (.it none since seen st) (.mapIter none since seen.toArray st) sz
 | it {r b z since seen st sz}:ρ r=some (b,z)→iL ρ (.it (some r) since seen st) (.mapIter (some b) since seen.toArray st) sz
 | si {l pos sz}:iL ρ (.si l pos) (.stringIter ⟨l.toArray⟩ pos) sz
theorem CB.ext {ρ ρ':Rn} (h:Ext ρ ρ') {e m} (k:CB ρ e m):CB ρ' e m:=⟨k.1.ext h,k.2.1.ext h,k.2.2⟩
theorem dM.ext {ρ ρ':Rn} (h:Ext ρ ρ') {l r} (k:dM ρ l r):dM ρ' l r:=by
 induction k with
 | nil=>exact .nil
 | cons a _ ih=>exact .cons (a.ext h) ih
theorem iL.ext {ρ ρ':Rn} (h:Ext ρ ρ') {o ob sz} (k:iL ρ o ob sz):iL ρ' o ob sz:=by
 cases k with
 | row a b c=>exact .row (a.ext h) b c
 | mp a=>exact .mp (a.ext h)
 | it0=>exact .it0
 | it a=>exact .it (h _ _ a)
 | si=>exact .si
structure Sat (ρ:Rn) (h:H) (w:World):Prop where
 has:∀ n o,at_ h n=some o→∃ b sz ob,ρ n=some (b,sz)∧w.heap[b]?=some ob∧iL ρ o ob sz
 inj:∀ m n b sz sz',at_ h m≠none→at_ h n≠none→ρ m=some (b,sz)→ρ n=some (b,sz')→m=n
def Im (ρ:Rn) (h:H) (b:Nat):Prop:=∃ n sz,at_ h n≠none∧ρ n=some (b,sz)
structure dH (ρ:Rn) (h:H) (nx:Nat) (w:World) (ρ':Rn) (h':H) (aL:Nat) (w':World):Prop where
 ext:Ext ρ ρ'
 sat:Sat ρ' h' w'
 le:nx≤aL
 same:∀ n,n<nx∨aL≤n→ρ' n=ρ n
 os:w'.os=w.os
 tape:w'.tape=w.tape
 output:w'.output=w.output
 size:w.heap.size≤w'.heap.size
 kC:∀ b,b<w.heap.size→¬ Im ρ h b→w'.heap[b]?=w.heap[b]?
 FF:∀ b,b<w.heap.size→Im ρ' h' b→Im ρ h b
section
variable {ρ ρ1 ρ2:Rn} {h h1 h2:H} {nx nx1 nx2:Nat} {w w1 w2:World}
theorem dH.refl (hs:Sat ρ h w) (nx:Nat):dH ρ h nx w ρ h nx w:=⟨Ext.refl ρ,hs,Nat.le_refl _,fun _ _=>rfl,rfl,rfl,rfl,Nat.le_refl _,fun _ _ _=>rfl,fun _ _ k=>k⟩
theorem dH.trans (a:dH ρ h nx w ρ1 h1 nx1 w1) (b:dH ρ1 h1 nx1 w1 ρ2 h2 nx2 w2):dH ρ h nx w ρ2 h2 nx2 w2 where
 ext:=a.ext.trans b.ext
 sat:=b.sat
 le:=Nat.le_trans a.le b.le
 same:=fun n hn=>by
  have:=a.le
  have:=b.le
  rw [b.same n xj,a.same n (by omega)]
 os:=b.os.trans a.os
 tape:=b.tape.trans a.tape
 output:=b.output.trans a.output
 size:=Nat.le_trans a.size b.size
 kC:=fun k hk hi=>(b.kC k (Nat.lt_of_lt_of_le hk a.size) fun hi1=>hi (a.FF k hk hi1)).trans (a.kC k hk hi)
 FF:=fun k hk hi=>a.FF k hk (b.FF k (Nat.lt_of_lt_of_le hk a.size) hi)
theorem Sat.drew (hs:Sat ρ h w):Sat ρ h w.drew:=⟨hs.has,hs.inj⟩
theorem dH.yP (a:dH ρ h nx w.drew ρ1 h1 nx1 w1):dH ρ h nx w ρ1 h1 nx1 w1:=⟨a.ext,a.sat,a.le,a.same,a.os,a.tape,a.output,a.size,a.kC,a.FF⟩
theorem dH.free (a:dH ρ h nx w ρ1 h1 nx1 w1) (hf:∀ n,nx≤n→ρ n=none):∀ n,nx1≤n→ρ1 n=none:=fun n hn=>by
 have:=a.le
 rw [a.same n (.inr hn)]
 exact hf n xj
theorem Sat.lt (hs:Sat ρ h w) {n b sz:Nat} (hn:at_ h n≠none) (hr:ρ n=some (b,sz)):b<w.heap.size:=by
 cases ho:at_ h n with
 | none=>exact absurd ho hn
 | some o =>
  obtain ⟨b',sz',ob,h1,h2,_⟩:=hs.has n o ho
  rw [hr] at h1
  cases h1
  exact (Array.getElem?_eq_some_iff.1 h2).1
theorem dH.change (hs:Sat ρ h w) {n b sz:Nat} {o':O} {ob':Obj} (hn:at_ h n≠none) (hr:ρ n=some (b,sz)) (hb:w1.heap[b]?=some ob') (ho:iL ρ o' ob' sz)
  (hx:∀ k,k≠b→w1.heap[k]?=w.heap[k]?) (hz:w1.heap.size=w.heap.size) (e1:w1.os=w.os) (e2:w1.tape=w.tape) (e3:w1.output=w.output):dH ρ h nx w ρ (dL h n (some o')) nx w1 where
 ext:=Ext.refl ρ
 sat:=by
  have key:∀ m,at_ (dL h n (some o')) m≠none→at_ h m≠none:=fun m hm=>by
   rw [cg] at hm
   split at hm
   ·rename_i e;rw [e];exact hn
   ·exact hm
  refine ⟨fun m o hm=>?_,fun m1 m2 b1 s1 s2 h1 h2=>hs.inj m1 m2 b1 s1 s2 (key m1 h1) (key m2 h2)⟩
  rw [cg] at hm
  split at hm
  ·rename_i e
   cases hm
   rw [e]
   exact ⟨b,sz,ob',hr,hb,ho⟩
  ·rename_i e
   obtain ⟨b',sz',ob,h1,h2,h3⟩:=hs.has m o hm
   refine ⟨b',sz',ob,h1,?_,h3⟩
   rw [hx b' ?_]
   ·exact h2
   ·rintro rfl
    exact e (hs.inj m n b' sz' sz (by rw [hm];simp) hn h1 hr)
 le:=Nat.le_refl _
 same:=fun _ _=>rfl
 os:=e1
 tape:=e2
 output:=e3
 size:=by omega
 kC:=fun k _ hi=>hx k (by rintro rfl;exact hi ⟨n,sz,hn,hr⟩)
 FF:=fun k _ ⟨m,s,hm,hr'⟩=>by
  refine ⟨m,s,?_,hr'⟩
  rw [cg] at hm
  split at hm
  ·rename_i e;rw [e];exact hn
  ·exact hm
def nU (ρ:Rn) (n:Nat) (x:Nat×Nat):Rn:=fun m=>if m=n then some x else ρ m
theorem dp {n:Nat} {x:Nat×Nat} (hn:ρ n=none):Ext ρ (nU ρ n x):=fun m y hm=>by
 unfold nU
 split
 ·rename_i e;rw [e,hn] at hm;cases hm
 ·exact hm
theorem cQ (ρ:Rn) (n:Nat) (x:Nat×Nat):nU ρ n x n=some x:=if_pos rfl
theorem rF (ρ:Rn) {m n:Nat} (x:Nat×Nat) (h:m≠n):nU ρ n x m=ρ m:=if_neg h
theorem Sat.alloc (hs:Sat ρ h w) {n sz:Nat} {o:O} {ob:Obj} (hn:ρ n=none) (ho:iL (nU ρ n (w.heap.size,sz)) o ob sz):Sat (nU ρ n (w.heap.size,sz)) (dL h n (some o)) (w.alloc ob) where
 has:=fun m o' hm=>by
  rw [cg] at hm
  split at hm
  ·rename_i e
   cases hm
   rw [e]
   exact ⟨_,_,ob,cQ _ _ _,heap_alloc_new w _,ho⟩
  ·rename_i e
   obtain ⟨b',sz',ob',h1,h2,h3⟩:=hs.has m o' hm
   exact ⟨b',sz',ob',dp hn m _ h1,(Below.heap_alloc w _ b' (Array.getElem?_eq_some_iff.1 h2).1).trans h2,h3.ext (dp hn)⟩
 inj:=fun m1 m2 b s s' h1 h2 r1 r2=>by
  rw [cg] at h1 h2
  unfold nU at r1 r2
  by_cases e1:m1=n <;> by_cases e2:m2=n
  ·rw [e1,e2]
  ·rw [if_pos e1] at r1
   rw [if_neg e2] at r2 h2
   cases r1
   exact absurd (hs.lt h2 r2) (Nat.lt_irrefl _)
  ·rw [if_pos e2] at r2
   rw [if_neg e1] at r1 h1
   cases r2
   exact absurd (hs.lt h1 r1) (Nat.lt_irrefl _)
  ·rw [if_neg e1] at r1 h1
   rw [if_neg e2] at r2 h2
   exact hs.inj m1 m2 b s s' h1 h2 r1 r2
theorem dH.alloc (hs:Sat ρ h w) (hf:ρ nx=none) {sz:Nat} {o:O} {ob:Obj} (ho:iL (nU ρ nx (w.heap.size,sz)) o ob sz):dH ρ h nx w (nU ρ nx (w.heap.size,sz)) (dL h nx (some o)) (nx+1) (w.alloc ob) where
 ext:=dp hf
 sat:=hs.alloc hf ho
 le:=Nat.le_succ _
 same:=fun n hn=>rF _ _ xj
 os:=rfl
 tape:=rfl
 output:=rfl
 size:=by simp
 kC:=fun b hb _=>Below.heap_alloc w _ b hb
 FF:=fun b hb ⟨m,s,hm,hr⟩=>by
  rw [cg] at hm
  unfold nU at hr
  by_cases e:m=nx
  ·rw [if_pos e] at hr
   cases hr
   exact absurd hb (Nat.lt_irrefl _)
  ·rw [if_neg e] at hr hm
   exact ⟨m,s,hm,hr⟩
theorem Sat.del (hs:Sat ρ h w) (n:Nat):Sat ρ (dL h n none) w where
 has:=fun m o hm=>by
  rw [cg] at hm
  split at hm
  ·cases hm
  ·exact hs.has m o hm
 inj:=fun m1 m2 b s s' h1 h2=>by
  rw [cg] at h1 h2
  split at h1
  ·exact absurd rfl h1
  ·split at h2
   ·exact absurd rfl h2
   ·exact hs.inj m1 m2 b s s' h1 h2
theorem FE {n b:Nat} (hi:Im ρ (dL h n none) b):Im ρ h b:=by
 obtain ⟨m,s,hm,hr⟩:=hi
 rw [cg] at hm
 split at hm
 ·exact absurd rfl hm
 ·exact ⟨m,s,hm,hr⟩
theorem dH.del (hs:Sat ρ h w) (n:Nat):dH ρ h nx w ρ (dL h n none) nx w:=⟨Ext.refl ρ,hs.del n,Nat.le_refl _,fun _ _=>rfl,rfl,rfl,rfl,Nat.le_refl _,fun _ _ _=>rfl,fun _ _ hi=>FE hi⟩
theorem dH.rename (hs:Sat ρ h w) (hf:ρ nx=none) {n b sz:Nat} {o':O} {ob':Obj} (hn:at_ h n≠none) (hr:ρ n=some (b,sz)) (hb:w1.heap[b]?=some ob') (ho:iL (nU ρ nx (b,sz)) o' ob' sz)
  (hx:∀ k,k≠b→w1.heap[k]?=w.heap[k]?) (hz:w1.heap.size=w.heap.size) (e1:w1.os=w.os) (e2:w1.tape=w.tape) (e3:w1.output=w.output):dH ρ h nx w (nU ρ nx (b,sz)) (dL (dL h n none) nx (some o')) (nx+1) w1 where
 ext:=dp hf
 sat:=by
  refine ⟨fun m o hm=>?_,fun m1 m2 b1 s1 s2 h1 h2 r1 r2=>?_⟩
  ·rw [cg] at hm
   split at hm
   ·rename_i e
    cases hm
    rw [e]
    exact ⟨b,sz,ob',cQ _ _ _,hb,ho⟩
   ·rw [cg] at hm
    split at hm
    ·cases hm
    ·rename_i e
     obtain ⟨b',sz',ob,h1,h2,h3⟩:=hs.has m o hm
     refine ⟨b',sz',ob,dp hf m _ h1,?_,h3.ext (dp hf)⟩
     rw [hx b' ?_]
     ·exact h2
     ·rintro rfl
      exact e (hs.inj m n b' sz' sz (by rw [hm];simp) hn h1 hr)
  ·have key:∀ m,m≠nx→at_ (dL (dL h n none) nx (some o')) m≠none→m≠n∧at_ h m≠none:=fun m e hm=>by
    rw [cg,if_neg e,cg] at hm
    split at hm
    ·exact absurd rfl hm
    ·rename_i e';exact ⟨e',hm⟩
   unfold nU at r1 r2
   by_cases f1:m1=nx <;> by_cases f2:m2=nx
   ·rw [f1,f2]
   ·rw [if_pos f1] at r1
    rw [if_neg f2] at r2
    cases r1
    obtain ⟨g1,g2⟩:=key m2 f2 h2
    exact absurd (hs.inj m2 n b _ _ g2 hn r2 hr) g1
   ·rw [if_pos f2] at r2
    rw [if_neg f1] at r1
    cases r2
    obtain ⟨g1,g2⟩:=key m1 f1 h1
    exact absurd (hs.inj m1 n b _ _ g2 hn r1 hr) g1
   ·rw [if_neg f1] at r1
    rw [if_neg f2] at r2
    exact hs.inj m1 m2 b1 s1 s2 (key m1 f1 h1).2 (key m2 f2 h2).2 r1 r2
 le:=Nat.le_succ _
 same:=fun m hm=>rF _ _ xj
 os:=e1
 tape:=e2
 output:=e3
 size:=by omega
 kC:=fun k _ hi=>hx k (by rintro rfl;exact hi ⟨n,sz,hn,hr⟩)
 FF:=fun k _ ⟨m,s,hm,hr'⟩=>by
  unfold nU at hr'
  by_cases e:m=nx
  ·rw [if_pos e] at hr'
   cases hr'
   exact ⟨n,sz,hn,hr⟩
  ·rw [if_neg e] at hr'
   rw [cg,if_neg e] at hm
   exact FE ⟨m,s,hm,hr'⟩
end
end E
end Go.Proofs.YtlmabdegojeheaaGreatDoor
