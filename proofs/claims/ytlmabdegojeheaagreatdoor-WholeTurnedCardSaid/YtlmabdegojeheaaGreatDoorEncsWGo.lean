/- WholeTurned: parts of its proof (Encs Eq Own4 Go WGo). -/
import Derived.Test.YtlmabdegojeheaaGreatDoorWide7Own3
import Derived.Test.YtlmabdegojeheaaGreatDoorFacts
import Derived.Lib.AppendZerosOnto
namespace Go.Proofs.YtlmabdegojeheaaGreatDoor
open R Go.RowKit
namespace R
instance en3:iU Tryz.prog 3 Int cI 1:={}
instance ah9:j5 Tryz.prog 30 [(0,1),(1,1),(2,1),(3,1)] [.int .i64 0,.slice none 0 0,.slice none 0 0,.bool false]:=bG wq
instance aia:j5 Tryz.prog 32 [(0,1),(1,1)] [.int .i64 0,.int .i64 0]:=bG wq
instance aib:j5 Tryz.prog 38 [(0,1),(1,1),(2,1)] [.slice none 0 0,.slice none 0 0,.slice none 0 0]:=bG wq
instance aic:j5 Tryz.prog 56 [(0,2),(2,2)] [.int .i64 0,.int .i64 0,.int .i64 0,.int .i64 0]:=bG wq
instance aid:j5 Tryz.prog 58 [(0,1),(1,1),(2,4),(6,1),(7,1)] [.int .i64 0,.int .i64 0,.int .i64 0,.int .i64 0,.int .i64 0,.int .i64 0,.int .i64 0,.bool false]:=bG wq
instance aie:j5 Tryz.prog 71 [(0,1),(1,1)] [.int .i64 0,.int .i64 0]:=bG wq
instance aif:j5 Tryz.prog 73 [(0,2),(2,1),(3,1),(4,1)] [.int .i64 0,.int .i64 0,.bool false,.int .i64 0,.bool false]:=bG wq
instance aih:j5 Tryz.prog 82 [(0,1),(1,1),(2,1),(3,1),(4,1)] [.int .i64 0,.int .i64 0,.int .i64 0,.bool false,.bool false]:=bG wq
instance ae1:j5 Tryz.prog 111 [(0,1),(1,8)] [.bool false,.int .u64 0,.int .u64 0,.int .u64 0,.int .u64 0,.int .u64 0,.int .u64 0,.int .u64 0,.int .u64 0]:=bG wq
instance ae2:j5 Tryz.prog 113 [(0,9),(9,9),(18,8)] [.bool false,.int .u64 0,.int .u64 0,.int .u64 0,.int .u64 0,.int .u64 0,.int .u64 0,.int .u64 0,.int .u64 0,.bool false,.int .u64 0,.int .u64 0,.int .u64 0,.int .u64 0,.int .u64 0,.int .u64 0,.int .u64 0,.int .u64 0,.int .u64 0,.int .u64 0,.int .u64 0,.int .u64 0,.int .u64 0,.int .u64 0,.int .u64 0,.int .u64 0]:=bG wq
instance ae3:j5 Tryz.prog 115 [(0,1),(1,1),(2,26)] [.int .i64 0,.int .i64 0,.bool false,.int .u64 0,.int .u64 0,.int .u64 0,.int .u64 0,.int .u64 0,.int .u64 0,.int .u64 0,.int .u64 0,.bool false,.int .u64 0,.int .u64 0,.int .u64 0,.int .u64 0,.int .u64 0,.int .u64 0,.int .u64 0,.int .u64 0,.int .u64 0,.int .u64 0,.int .u64 0,.int .u64 0,.int .u64 0,.int .u64 0,.int .u64 0,.int .u64 0]:=bG wq
instance ae4:j5 Tryz.prog 127 [(0,1),(1,1),(2,1)] [.int .i64 0,.bool false,.int .i64 0]:=bG wq
instance ae5:j5 Tryz.prog 146 [(0,2),(2,2),(4,1)] [.int .i64 0,.int .i64 0,.int .i64 0,.int .i64 0,.int .i64 0]:=bG wq
instance ae6:j5 Tryz.prog 152 [(0,1),(1,1),(2,1),(3,1),(4,2),(6,2)] [.int .i64 0,.int .i64 0,.int .i64 0,.int .i64 0,.int .i64 0,.int .i64 0,.int .i64 0,.int .i64 0]:=bG wq
instance ae7:j5 Tryz.prog 653 [(0,9),(9,9)] [.bool false,.int .u64 0,.int .u64 0,.int .u64 0,.int .u64 0,.int .u64 0,.int .u64 0,.int .u64 0,.int .u64 0,.bool false,.int .u64 0,.int .u64 0,.int .u64 0,.int .u64 0,.int .u64 0,.int .u64 0,.int .u64 0,.int .u64 0]:=bG wq
end R
namespace R
def Fit:List (Option IntKind)→List Value→Prop
 | [],[]=>True
 | some k::l,.int q _::cs=>q=k∧Fit l cs
 | none::l,.bool _::cs=>Fit l cs
 | _,_=>False
theorem Fit.len:∀ {l:List (Option IntKind)} {cs:List Value},Fit l cs→cs.length=l.length
 | [],[],_=>rfl
 | [],_::_,h=>h.elim
 | some k::l,c::cs,h=>by
  cases c <;> simp only [Fit] at h
  simp [Fit.len h.2]
 | none::l,c::cs,h=>by
  cases c <;> simp only [Fit] at h
  simp [Fit.len h]
 | some _::_,[],h=>h.elim
 | none::_,[],h=>h.elim
theorem Fit.split:∀ {l m:List (Option IntKind)} {cs:List Value},Fit (l++m) cs→Fit l (cs.take l.length)∧Fit m (cs.drop l.length)
 | [],m,cs,h=>by simpa [Fit] using h
 | some k::l,m,c::cs,h=>by
  cases c <;> simp only [List.cons_append,Fit] at h
  have:=Fit.split h.2
  simp only [List.length_cons,List.take_succ_cons,List.drop_succ_cons,Fit]
  exact ⟨⟨h.1,this.1⟩,this.2⟩
 | none::l,m,c::cs,h=>by
  cases c <;> simp only [List.cons_append,Fit] at h
  have:=Fit.split h
  simp only [List.length_cons,List.take_succ_cons,List.drop_succ_cons,Fit]
  exact ⟨this.1,this.2⟩
 | some _::_,_,[],h=>h.elim
 | none::_,_,[],h=>h.elim
def XH (agg:Bool) (cs:List Value):Value:=if agg then .agg cs.toArray else (cs.getD 0 undef)
def xq (P:Program) (t:TypeId) (ls:List (Option IntKind)) (n:Nat):Prop:=∃ b,aY P t=some b∧ct P t=some ls.length∧(b=false→ls.length=1) ∧
 ∀ (d:Nat) (w:World) (cs ds:List Value),n≤d→Fit ls cs→Fit ls ds→∃ r,(Op.equalIn d t (XH b cs) (XH b ds)).run P w=.ok r w∧(r=true↔cs=ds)
section
variable {P:Program}
def adp:TypeDesc→Bool
 | .struct _=>true
 | .array _ _=>true
 | _=>false
theorem qo {t:TypeId} {d:TypeDesc} (h:P.underlying t=some d):aY P t=some (adp d):=by
 unfold aY
 rw [h]
 cases d <;> rfl
theorem Na {t:TypeId} {k:IntKind} (h:P.underlying t=some (.int k)) (hs:ct P t=some 1):xq P t [some k] 1:=by
 refine ⟨false,qo h,hs,fun _=>rfl,fun d w cs ds hd hc he=>?_⟩
 obtain ⟨d,rfl⟩:∃ d',d=d'+1:=⟨d-1,by omega⟩
 match cs,ds,hc,he with
 | [c],[e],hc,he =>
  cases c <;> simp only [Fit] at hc
  cases e <;> simp only [Fit] at he
  obtain ⟨rfl,_⟩:=hc
  obtain ⟨rfl,_⟩:=he
  refine ⟨_,by simpa [XH] using run_equalIn_int w d t _ _ _ _ h,by simp⟩
 | [],_,hc,_=>exact hc.elim
 | _::_::_,_,hc,_=>have:=hc.len;simp at this
 | _,[],_,he=>exact he.elim
 | _,_::_::_,_,he=>have:=he.len;simp at this
theorem Kz {t:TypeId} (h:P.underlying t=some .bool) (hs:ct P t=some 1):xq P t [none] 1:=by
 refine ⟨false,qo h,hs,fun _=>rfl,fun d w cs ds hd hc he=>?_⟩
 obtain ⟨d,rfl⟩:∃ d',d=d'+1:=⟨d-1,by omega⟩
 match cs,ds,hc,he with
 | [c],[e],hc,he =>
  cases c <;> simp only [Fit] at hc
  cases e <;> simp only [Fit] at he
  refine ⟨_,by simpa [XH] using run_equalIn_bool' w d t _ _ h,by simp⟩
 | [],_,hc,_=>exact hc.elim
 | _::_::_,_,hc,_=>have:=hc.len;simp at this
 | _,[],_,he=>exact he.elim
 | _,_::_::_,_,he=>have:=he.len;simp at this
theorem qp {t:TypeId} {b:Bool} {n:Nat} (hk:aY P t=some b) (hs:ct P t=some n) (h1:b=false→n=1) (cs:List Value) (off:Nat) (h:off+n≤cs.length) (w:World) :
  (part t cs.toArray off).run P w=.ok (XH b ((cs.drop off).take n)) w:=by
 cases b with
 | true =>
  simp [part,bS hk,bI hs,XH]
 | false =>
  have:=h1 rfl
  subst this
  have hlt:off<cs.length:=by omega
  simp [part,bS hk,XH,hlt]
inductive xW (P:Program) (n:Nat):List Field→Nat→List (Option IntKind)→Prop
 | nil {o}:xW P n [] o []
 | cons {f fs o l1 l2} (h1:f.name≠ "_") (h2:f.offset=o) (h3:xq P f.type l1 n) (h4:xW P n fs (o+l1.length) l2):xW P n (f::fs) o (l1++l2)
theorem sY {n d:Nat} (hd:n≤d) (w:World):∀ {fs:List Field} {o:Nat} {ls:List (Option IntKind)} (_:xW P n fs o ls) (cs ds:List Value),cs.length=o+ls.length→ds.length=o+ls.length→Fit ls (cs.drop o)→Fit ls (ds.drop o) →
  ∃ r,(Op.eqFields d cs.toArray ds.toArray fs).run P w=.ok r w∧(r=true↔cs.drop o=ds.drop o)
 | _,_,_,.nil,cs,ds,hc,he,_,_=>by
  refine ⟨true,by simp [Op.eqFields],?_⟩
  simp at hc he
  rw [List.drop_of_length_le xj,List.drop_of_length_le (by omega)]
  simp
 | _,_,_,.cons (f:=f) (fs:=fs) (o:=o) (l1:=l1) (l2:=l2) h1 h2 h3 h4,cs,ds,hc,he,fc,fe=>by
  obtain ⟨b,hk,hs,hb,heq⟩:=h3
  rw [List.length_append] at hc he
  have pc:=qp hk hs hb cs o xj w
  have pe:=qp hk hs hb ds o xj w
  obtain ⟨fc1,fc2⟩:=fc.split
  obtain ⟨fe1,fe2⟩:=fe.split
  obtain ⟨r1,hr1,hi1⟩:=heq d w _ _ hd fc1 fe1
  rw [List.drop_drop] at fc2 fe2
  obtain ⟨r2,hr2,hi2⟩:=sY hd w h4 cs ds xj xj fc2 fe2
  have key:cs.drop o=ds.drop o↔(cs.drop o).take l1.length=(ds.drop o).take l1.length∧cs.drop (o+l1.length)=ds.drop (o+l1.length):=by
   rw [← List.drop_drop,← List.drop_drop]
   constructor
   ·intro h;rw [h];exact ⟨rfl,rfl⟩
   ·rintro ⟨ha,hb⟩
    rw [← List.take_append_drop l1.length (cs.drop o),ha,hb,List.take_append_drop]
  simp only [Op.eqFields,if_pos h1,Sem.run_bind,h2,pc,pe,Result.andThen_ok,hr1]
  cases r1 with
  | false =>
   refine ⟨false,by simp,?_⟩
   rw [key,← hi1]
   simp
  | true =>
   refine ⟨r2,by simpa using hr2,?_⟩
   rw [key,← hi1,hi2]
   simp
theorem C7 {t:TypeId} {fs:Array Field} {ls:List (Option IntKind)} {n:Nat} (h:P.underlying t=some (.struct fs)) (hp:P.stoodInHeld t=false) (hs:ct P t=some ls.length) (hf:xW P n fs.toList 0 ls):xq P t ls (n+1):=by
 refine ⟨true,qo h,hs,by simp,fun d w cs ds hd hc he=>?_⟩
 obtain ⟨d,rfl⟩:∃ d',d=d'+1:=⟨d-1,by omega⟩
 have hfo:P.fieldsOf t=fs:=by unfold Program.fieldsOf;rw [h]
 have:=run_equalIn_struct w d t cs.toArray ds.toArray (by rw [hfo];exact h) hp
 rw [hfo] at this
 obtain ⟨r,hr,hi⟩:=sY (n:=n) (d:=d) xj w hf cs ds (by have:=hc.len;omega) (by have:=he.len;omega) (by simpa using hc) (by simpa using he)
 exact ⟨r,by rw [← hr,← this];rfl,by simpa using hi⟩
theorem IA:∀ (m:Nat) (l1:List (Option IntKind)) (cs:List Value),Fit ((List.replicate (m+1) l1).flatten) cs→Fit l1 (cs.take l1.length)∧Fit ((List.replicate m l1).flatten) (cs.drop l1.length):=fun m l1 cs h=>by
 rw [List.replicate_succ,List.flatten_cons] at h
 exact h.split
theorem F5 {t e:TypeId} {m:Nat} {l1:List (Option IntKind)} {n:Nat} (h:P.underlying t=some (.array m e)) (hs:ct P t=some ((List.replicate m l1).flatten.length)) (he:xq P e l1 n):xq P t (List.replicate m l1).flatten (n+1):=by
 refine ⟨true,qo h,hs,by simp,fun d w cs ds hd hc hE=>?_⟩
 obtain ⟨d,rfl⟩:∃ d',d=d'+1:=⟨d-1,by omega⟩
 obtain ⟨b,hk,hse,hb,heq⟩:=he
 show ∃ r,(Op.equalIn (d+1) t (.agg cs.toArray) (.agg ds.toArray)).run P w=.ok r w∧_
 rw [Op.equalIn]
 simp only [Sem.run_bind,run_underlying h,Result.andThen_ok,bI hse]
 simp only [Std.Legacy.Range.forIn_eq_forIn_range',Std.Legacy.Range.size,Nat.sub_zero,Nat.add_sub_cancel,Nat.div_one]
 have key:∀ (r s:Nat),cs.length=s*l1.length+r*l1.length→ds.length=s*l1.length+r*l1.length→Fit ((List.replicate r l1).flatten) (cs.drop (s*l1.length))→Fit ((List.replicate r l1).flatten) (ds.drop (s*l1.length)) →
  ∃ q:Bool,(Sem.run P (forIn (List.range' s r 1) (none,PUnit.unit) fun i __s=>do
      let x ← part e cs.toArray (i*l1.length)
      let y ← part e ds.toArray (i*l1.length)
      let c ← Op.equalIn d e x y
      if (!c)=true then pure (ForInStep.done (some false,PUnit.unit)) else pure (ForInStep.yield (none,PUnit.unit))) w)=.ok (if q then none else some false,PUnit.unit) w∧(q=true↔cs.drop (s*l1.length)=ds.drop (s*l1.length)):=by
  intro r
  induction r with
  | zero =>
   intro s h1 h2 _ _
   refine ⟨true,by simp,?_⟩
   rw [List.drop_of_length_le xj,List.drop_of_length_le (by omega)]
   simp
  | succ r ih =>
   intro s h1 h2 f1 f2
   have e1:(r+1)*l1.length=l1.length+r*l1.length:=by rw [Nat.succ_mul,Nat.add_comm]
   have e2:(s+1)*l1.length=s*l1.length+l1.length:=Nat.succ_mul _ _
   rw [e1] at h1 h2
   obtain ⟨a1,a2⟩:=IA r l1 _ f1
   obtain ⟨b1,b2⟩:=IA r l1 _ f2
   rw [List.drop_drop,← e2] at a2 b2
   obtain ⟨q,hq,hqi⟩:=ih (s+1) xj xj a2 b2
   obtain ⟨r1,hr1,hi1⟩:=heq d w _ _ xj a1 b1
   have kk:cs.drop (s*l1.length)=ds.drop (s*l1.length)↔(cs.drop (s*l1.length)).take l1.length=(ds.drop (s*l1.length)).take l1.length∧cs.drop ((s+1)*l1.length)=ds.drop ((s+1)*l1.length):=by
    rw [e2,← List.drop_drop,← List.drop_drop]
    constructor
    ·intro h;rw [h];exact ⟨rfl,rfl⟩
    ·rintro ⟨ha,hb⟩
     rw [← List.take_append_drop l1.length (cs.drop (s*l1.length)),ha,hb,List.take_append_drop]
   simp only [List.range'_succ,List.forIn_cons,Sem.run_bind,qp hk hse hb cs _ (show s*l1.length+l1.length≤cs.length by omega) w,qp hk hse hb ds _ (show s*l1.length+l1.length≤ds.length by omega) w,Result.andThen_ok,hr1]
   cases r1 with
   | false =>
    refine ⟨false,by simp,?_⟩
    rw [kk,← hi1]
    simp
   | true =>
    refine ⟨q,by simpa using hq,?_⟩
    rw [kk,← hi1,hqi]
    simp
 have hl:((List.replicate m l1).flatten).length=m*l1.length:=by simp
 obtain ⟨q,hq,hqi⟩:=key m 0 (by rw [hc.len,hl];omega) (by rw [hE.len,hl];omega) (by simpa using hc) (by simpa using hE)
 refine ⟨q,?_,by simpa using hqi⟩
 rw [hq]
 cases q <;> simp
def vl (P:Program):Nat→TypeId→Option (List (Option IntKind))
 | 0,_=>none
 | d+1,t=>match P.underlying t with
  | some (.int k)=>if ct P t=some 1 then some [some k] else none
  | some .bool=>if ct P t=some 1 then some [none] else none
  | some (.array m e)=>match vl P d e with
   | some l=>if ct P t=some (m*l.length) then some (List.replicate m l).flatten else none
   | none=>none
  | some (.struct fs)=>if P.stoodInHeld t then none else
   match fs.toList.foldlM (fun acc f=>if f.name≠ "_"∧f.offset=acc.length then (vl P d f.type).map (acc++·) else none) [] with
   | some l=>if ct P t=some l.length then some l else none
   | none=>none
  | _=>none
theorem xq.more {t:TypeId} {ls:List (Option IntKind)} {n m:Nat} (h:xq P t ls n) (hm:n≤m):xq P t ls m:=by
 obtain ⟨b,h1,h2,h3,h4⟩:=h
 exact ⟨b,h1,h2,h3,fun d w cs ds hd=>h4 d w cs ds xj⟩
theorem po:∀ (d:Nat) (t:TypeId) (ls:List (Option IntKind)),vl P d t=some ls→xq P t ls d
 | 0,_,_,h=>by cases h
 | d+1,t,ls,h=>by
  rw [vl] at h
  split at h
  ·rename_i k hu
   split at h
   ·rename_i hs;cases h;exact (Na hu hs).more xj
   ·cases h
  ·rename_i hu
   split at h
   ·rename_i hs;cases h;exact (Kz hu hs).more xj
   ·cases h
  ·rename_i m e hu
   split at h
   ·rename_i l hl
    split at h
    ·rename_i hs
     cases h
     exact F5 hu (by rw [hs];simp) (po d e l hl)
    ·cases h
   ·cases h
  ·rename_i fs hu
   split at h
   ·cases h
   ·rename_i hst
    split at h
    ·rename_i l hl
     split at h
     ·rename_i hs
      cases h
      refine C7 hu (by simpa using hst) hs ?_
      have key:∀ (fs:List Field) (acc l:List (Option IntKind)),fs.foldlM (fun acc f=>if f.name≠ "_"∧f.offset=acc.length then (vl P d f.type).map (acc++·) else none) acc=some l→∃ l2,l=acc++l2∧xW P d fs acc.length l2:=by
       intro fs
       induction fs with
       | nil=>intro acc l h;simp at h;exact ⟨[],by simp [h],.nil⟩
       | cons f fs ih =>
        intro acc l h
        rw [List.foldlM_cons] at h
        split at h
        ·rename_i hc
         cases hlf:vl P d f.type with
         | none=>rw [hlf] at h;simp at h
         | some l1 =>
          rw [hlf] at h
          obtain ⟨l2,h1,h2⟩:=ih (acc++l1) l (by simpa using h)
          refine ⟨l1++l2,by rw [h1,List.append_assoc],.cons hc.1 hc.2 (po d _ _ hlf) (by rw [List.length_append] at h2;exact h2)⟩
        ·simp at h
      obtain ⟨l2,h1,h2⟩:=key fs.toList [] ls hl
      rw [h1]
      simpa using h2
     ·cases h
    ·cases h
  ·cases h
theorem vm {t:TypeId} {T:Type} {enc:T→List Value} {ls:List (Option IntKind)} (h:vl P 9 t=some ls) (hk:aY P t=some true) (hg:P.eqGuardType P.depth t=false) (hfit:∀ x,Fit ls (enc x)) (hinj:∀ a b,enc a=enc b→a=b):Tv P t T enc:=⟨hg,fun a b d w=>by
 obtain ⟨b',h1,_,_,h4⟩:=po 9 t ls h
 rw [hk] at h1
 cases h1
 obtain ⟨r,hr,hi⟩:=h4 (d+9) w _ _ xj (hfit a) (hfit b)
 exact ⟨r,hr,hi.trans ⟨hinj a b,fun e=>by rw [e]⟩⟩⟩
end
end R
namespace R
section
variable {w:World} {A:Option Addr} {n c sz lo:Nat} {cs:List Value} {F:List Nat} {W:World}
def mH (A:Option Addr) (m lo sz:Nat):Option Addr:=if m=lo then A else A.map (·.add (lo*sz))
theorem gn.mH (h:gn F W A n sz cs) (hlo:lo≤n) {m:Nat} (hm:n≤m):gn F W (R.mH A m lo sz) (n-lo) sz (cs.drop (lo*sz)):=by
 refine ⟨by rw [List.length_drop,h.1,Nat.sub_mul],fun j v hj=>?_⟩
 have hlt:j<(cs.drop (lo*sz)).length:=(List.getElem?_eq_some_iff.1 hj).1
 rw [List.length_drop,h.1] at hlt
 have hne:m≠lo:=fun e=>by
  have:n=lo:=by omega
  subst this
  omega
 rw [List.getElem?_drop] at hj
 obtain ⟨a,hA,h1,h2,hc⟩:=h.2 _ v hj
 refine ⟨a.add (lo*sz),by simp [R.mH,hne,hA],by rw [ga];exact h1,by rw [ga];exact h2,?_⟩
 rw [jN]
 exact hc
end
section
variable {P:Program} {C:bO} {o:Oper} {f:Fr} {F:List Nat} {W w:World} {K:Value→World→Prop} {l l':List bX} {g:Nat} {t u e:TypeId} {x y i1 i2 i3:Operand} {A A':Option Addr} {n c sz m:Nat} {k k2 k3:IntKind} {lo hi mx:Int} {jl jh jm:Nat}
theorem fY (ht:P.underlying t=some (.slice e)):P.elem t=e:=by unfold Program.elem;rw [ht]
theorem AB (hop:o.op=.slice t x (some i1) none none) [ht:bq P t e sz] (hx:ev f x=.slice A n c) (h1:ev f i1=.int k lo) (h0:0≤lo) (hl:lo≤n) [hj:Tu lo jl] (hk:K (.slice (mH A c jl sz) (n-jl) (c-jl)) w):WO P C o f w K:=by
 have hr:=run_slice_l (P:=P) w t A n c (by rw [fY ht.h];exact ht.h) k lo h0 hl
 rw [fY ht.h,bI ht.s] at hr
 have e2:=hj.h
 subst e2
 refine aO ?_ hk
 simp [execOp,hop,hx,h1,Instr.sliceAt,run_underlying ht.h,hr,Result.andThen,sliced,mH]
theorem AD (hop:o.op=.slice t x none (some i1) none) [ht:bq P t e sz] (hx:ev f x=.slice A n c) (h1:ev f i1=.int k hi) (h0:0≤hi) (hl:hi≤c) [hj:Tu hi jl] (hk:K (.slice A jl c) w):WO P C o f w K:=by
 have hr:=run_slice_h (P:=P) w t A n c (by rw [fY ht.h];exact ht.h) k hi h0 hl
 rw [fY ht.h,bI ht.s] at hr
 have e2:=hj.h
 subst e2
 refine aO ?_ hk
 have hA:(if c=0 then A else A.map fun x=>x.add 0)=A:=by
  split
  ·rfl
  ·cases A with
   | none=>rfl
   | some a=>simp [Addr.add]
 simp [execOp,hop,hx,h1,Instr.sliceAt,run_underlying ht.h,hr,Result.andThen,sliced,hA]
end
end R
theorem R.aj {P:Prop} (h:P:=by first|assumption|exact R.Own.drew ww):P:=h
theorem R.dF {P:Prop} (h:P:=by ((repeat (first|exact oM.head|apply oM.tail));(first|done|fail))):P:=h
theorem R.bC {P:Prop} (h:P:=by ((repeat (first|exact List.Mem.head _|apply List.Mem.tail));(first|done|fail))):P:=h
theorem R.s5 {P:Prop} (h:P:=by first|exact R.Own.rd aj bC|exact R.Own.Gn aj ww|assumption):P:=h
theorem R.om {P:Prop} (h:P:=by first|omega|(simp;done)|(simp;omega)):P:=h
section
structure Wd where
 n:Nat
 lt:n<aq
theorem Wd.lq {a b:Wd} (h:a.n=b.n):a=b:=by cases a;cases b;simp only at h;subst h;rfl
theorem Wd.ext_iff {a b:Wd}:a=b↔a.n=b.n:=⟨fun h=>by rw [h],Wd.lq⟩
instance:DecidableEq Wd:=fun a b=>decidable_of_iff (a.n=b.n) Wd.ext_iff.symm
def W (n:Nat):Wd:=⟨n % aq,Nat.mod_lt _ bK⟩
theorem oP {n:Nat} (h:n<aq):(W n).n=n:=Nat.mod_eq_of_lt h
theorem YV (a:Wd):W a.n=a:=Wd.lq (oP a.lt)
theorem Wd.PJ {a:Wd}:a=W 0↔a.n=0:=by rw [Wd.ext_iff,oP bK]
instance:Inhabited Wd:=⟨W 0⟩
def cW (x:Wd):List Value:=ee x.n
theorem Bw {n:Nat} (h:n<aq):cW (W n)=ee n:=by unfold cW;rw [oP h]
theorem Bz (x:Wd):∀ v∈cW x,v.oneCell'=true:=by simp [cW,ee,Value.oneCell']
instance aer:cA cW 8:=⟨fun _=>rfl,Bz,by decide⟩
theorem Hd {a b:Wd} (h:cW a=cW b):a=b:=by
 refine Wd.lq ((P0 a.lt b.lt).1 ?_)
 simpa [wl,cW,ee] using h
instance ah3:Tv Tryz.prog 109 Wd cW:=vm (ls:=[some .u64,some .u64,some .u64,some .u64,some .u64,some .u64,some .u64,some .u64]) wq wq wq
 (fun _=>⟨rfl,rfl,rfl,rfl,rfl,rfl,rfl,rfl,trivial⟩) (fun _ _=>Hd)
section
variable {C:bO} {o:Oper} {f:R.Fr} {F:List Nat} {W0 w:World} {K:Value→World→Prop} {l:List bX} {t u e:TypeId} {x y i:Operand} {m n:Nat}
theorem pG (hop:o.op=.alloc 109) (hM:R.Own F W0 w l) (hk:∀ g w',R.Own F W0 w' (.blk g 109 (cW (W 0))::l)→K (.pointer (some ⟨g,0,none⟩)) w'):WO Tryz.prog C o f w K :=
 dO hop hM (by rw [Bw bK,eZ] at hk;exact hk)
theorem UW {a:Int} (ha:ai a):a.toNat<aq:=fV (by unfold ai at ha;omega)
theorem sy {j:Int} {jn g:Nat} {k:IntKind} [ht:FU Tryz.prog t 8 e 1] (hop:o.op=.indexAddr t x i) (hx:ev f x=.pointer (some ⟨g,0,none⟩)) (hi:ev f i=.int k j) (h0:0≤j) (h1:j<8) [hj:Tu j jn] (h:K (.pointer (some ⟨g,jn,none⟩)) w):WO Tryz.prog C o f w K :=
 jJ hop hx hi h0 h1 (by
  have e1:(⟨g,0,none⟩:Addr).add (j.toNat*1)=⟨g,jn,none⟩:=by rw [hj.h,Addr.add_lit];congr 1;omega
  rw [e1];exact h)
theorem BA {a:Wd} {jn g:Nat} (hop:o.op=.load t x) (hx:ev f x=.pointer (some ⟨g,jn,none⟩)) [aG Tryz.prog t false] (hM:R.Own F W0 w l) (hm:.blk g u (cW a)∈l) (hlt:jn<8) (h:K (.int .u64 (wd a.n jn:Nat)) w):WO Tryz.prog C o f w K :=
 dt hop hx rfl hM hm (kT a.n jn hlt) h
def stW (a:Wd) (j:Nat) (v:Int):Wd:=W (kH a.n j v.toNat)
theorem PK {a:Wd} {j:Nat} {v:Int} (hj:j<8) (hv:ai v):(stW a j v).n=kH a.n j v.toNat :=
 oP (Jv (by unfold ai at hv;omega) hj a.lt)
theorem YW {a:Wd} {j:Nat} {v:Int} (hj:j<8) (hv:ai v):(cW a).set j (.int .u64 v)=cW (stW a j v):=by
 have hs:v.toNat<18446744073709551616:=by unfold ai at hv;omega
 refine List.ext_getElem? fun k=>?_
 unfold cW
 rw [PK hj hv]
 rcases Nat.lt_or_ge k 8 with hk|hk
 ·rw [kT _ k hk,List.getElem?_set]
  split
  ·rename_i e
   subst e
   rw [if_pos (by rw [fT];exact hk),jP hs,Int.toNat_of_nonneg hv.1]
  ·rename_i e
   rw [kT _ k hk,oG hs (Ne.symm e)]
 ·rw [List.getElem?_eq_none (by rw [List.length_set,fT];exact hk),List.getElem?_eq_none (by rw [fT];exact hk)]
theorem BB {a:Wd} {jn g:Nat} {v:Int} {l':List bX} (hop:o.op=.store t x y) (hx:ev f x=.pointer (some ⟨g,jn,none⟩)) (hy:ev f y=.int .u64 v) [dP Tryz.prog t 1] (hM:R.Own F W0 w l) (hu:oM l (.blk g u (cW a)) (.blk g u (cW (stW a jn v))) l') (hlt:jn<8) (hv:ai v) (h:∀ w',R.Own F W0 w' l'→K undef w'):WO Tryz.prog C o f w K :=
 fh (j:=jn) hop hx hy rfl rfl hM (by rw [YW hlt hv];exact hu) (by unfold cW;rw [fT];exact hlt) h
end
instance UX (a:Int):bj Tryz.prog 161 #[.int .u64 a] Unit (fun _ _=>ai a) (fun _=>.agg (cW (W a.toNat)).toArray):=⟨fun _ w h=>by
 rw [Bw (UW h)]
 have:=U5 a.toNat (by unfold ai at h;omega) w
 rw [Int.toNat_of_nonneg h.1] at this
 exact this⟩
instance Lz (a:Wd):bj Tryz.prog 118 #[.agg (cW a).toArray] Unit (fun _ _=>True) (fun _=>.bool (decide (a.n=0))):=⟨fun _ w _=>oJ a.n a.lt w⟩
instance PL (a b:Wd):bj Tryz.prog 184 #[.agg (cW a).toArray,.agg (cW b).toArray] Unit (fun _ _=>True) (fun _=>.int .i64 (mL a.n b.n)):=⟨fun _ w _=>qZ a.n b.n a.lt b.lt w⟩
instance PM (a:Wd):bj Tryz.prog 117 #[.agg (cW a).toArray] Unit (fun _ _=>True) (fun _=>.int .i64 (bitLen a.n:Nat)):=⟨fun _ w _=>(q7 a.n a.lt w)⟩
def PN (a:Nat) (c:Int):Nat:=if c<0 then a / 2 ^ (-c).toNat else a*2 ^ c.toNat % aq
theorem qV:∃ N:Nat,N=512∧aq=2 ^ N:=⟨64*8,rfl,(gQ 8).symm⟩
theorem UY {a:Nat} (ha:a<aq) (c:Int):shC a (min (max c (-512)) 512)=PN a c:=by
 unfold shC PN
 obtain ⟨N,hN,hw⟩:=qV
 by_cases h:c<0
 ·rw [if_pos h,if_pos (by omega)]
  by_cases h2:-512≤c
  ·rw [show min (max c (-512)) 512=c by omega]
  ·rw [show (-min (max c (-512)) 512).toNat=N by omega,Nat.div_eq_of_lt (by rw [← hw];exact ha),Nat.div_eq_of_lt]
   exact Nat.lt_of_lt_of_le ha (by rw [hw];exact Nat.pow_le_pow_right xj xj)
 ·rw [if_neg h,if_neg (by omega)]
  by_cases h2:c≤512
  ·rw [show min (max c (-512)) 512=c by omega]
  ·rw [show (min (max c (-512)) 512).toNat=N by omega,← hw,Nat.mul_mod_left]
   have:c.toNat=N+(c.toNat-N):=by omega
   rw [this,Nat.pow_add,← hw,Nat.mul_left_comm,Nat.mul_mod_right]
theorem YX {a:Nat} (ha:a<aq) (c:Int):PN a c<aq:=by
 unfold PN
 split
 ·exact Nat.lt_of_le_of_lt (Nat.div_le_self _ _) ha
 ·exact Nat.mod_lt _ bK
def Ju (a:Wd) (c:Int):Wd:=⟨PN a.n c,YX a.lt c⟩
instance YY (a:Wd) (c:Int):bj Tryz.prog 234 #[.agg (cW a).toArray,.int .i64 c] Unit (fun _ _=>True) (fun _=>.agg (cW (Ju a c)).toArray):=⟨fun _ w _=>by
 have:=Hn a.n c a.lt w
 rw [UY a.lt] at this
 exact this⟩
instance abe (a b:Wd):bj Tryz.prog 237 #[.agg (cW a).toArray,.agg (cW b).toArray] Unit (fun _ _=>True) (fun _=>.tuple #[.agg (cW (W (a.n+b.n))).toArray,.bool (decide (a.n+b.n<aq))]):=⟨fun _ w _=>qX a.n b.n a.lt b.lt w⟩
def kG (a b:Wd):Wd:=⟨Cc a.n b.n,Gj _ _⟩
instance abf (a b:Wd):bj Tryz.prog 235 #[.agg (cW a).toArray,.agg (cW b).toArray] Unit (fun _ _=>True) (fun _=>.tuple #[.agg (cW (kG a b)).toArray,.bool (decide (b.n≤a.n))]):=⟨fun _ w _=>qY a.n b.n a.lt b.lt w⟩
instance abg (a b:Wd):bj Tryz.prog 246 #[.agg (cW a).toArray,.agg (cW b).toArray] Unit (fun _ _=>True) (fun _=>.tuple #[.agg (cW (W (a.n*b.n))).toArray,.bool (decide (a.n*b.n<aq))]):=⟨fun _ w _=>ra a.n b.n a.lt b.lt w⟩
instance abh (a:Wd) (i:Int):bj Tryz.prog 287 #[.agg (cW a).toArray,.int .i64 i] Unit (fun _ _=>True) (fun _=>.bool (decide (0≤i∧i<512∧a.n / 2 ^ i.toNat % 2=1))):=⟨fun _ w _=>q8 a.n i w⟩
end
end Go.Proofs.YtlmabdegojeheaaGreatDoor
