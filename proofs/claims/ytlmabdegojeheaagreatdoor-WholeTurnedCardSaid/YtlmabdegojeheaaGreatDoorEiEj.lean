/- WholeTurned: parts of its proof (Ei Ej). -/
import Derived.Test.YtlmabdegojeheaaGreatDoorEh
import Derived.Laws.Append
import Derived.Laws.AppendOwn
import Derived.Lib.UnsafeStr
namespace Go.Proofs.YtlmabdegojeheaaGreatDoor
open R
namespace E
open Go.RowKit Go.Lib
section
variable {P:Program}
theorem pW {o:Oper} {c:Call} {f:R.Fr} {w w':World} {v:Value} (ho:o.op=.call c) (hc:c.callee=.builtin .append) (h:(Builtin.append_ c.argTypes o.type (c.args.map (ev f))).run P w=.ok v w'):(execOp (ev f) o).run P w=.ok (.value v) w':=by
 simp only [execOp,ho,resolve,hc,invoke,builtin,Sem.run_bind,Sem.run_pure,Result.andThen_ok,h]
theorem xL {o:Oper} {c:Call} {f:R.Fr} {w w':World} {v:Value} (ho:o.op=.call c) (hc:c.callee=.builtin .copy) (h:(Builtin.copy_ c.argTypes o.type (c.args.map (ev f))).run P w=.ok v w'):(execOp (ev f) o).run P w=.ok (.value v) w':=by
 simp only [execOp,ho,resolve,hc,invoke,builtin,Sem.run_bind,Sem.run_pure,Result.andThen_ok,h]
theorem pd {o:Oper} {c:Call} {f:R.Fr} {w w':World} {v:Value} (ho:o.op=.call c) (hc:c.callee=.builtin .clear) (h:(Builtin.clear_ c.argTypes o.type (c.args.map (ev f))).run P w=.ok v w'):(execOp (ev f) o).run P w=.ok (.value v) w':=by
 simp only [execOp,ho,resolve,hc,invoke,builtin,Sem.run_bind,Sem.run_pure,Result.andThen_ok,h]
theorem nu {o:Oper} {c:Call} {f:R.Fr} {w w':World} {v:Value} (ho:o.op=.call c) (hc:c.callee=.builtin .delete) (h:(Builtin.delete_ c.argTypes o.type (c.args.map (ev f))).run P w=.ok v w'):(execOp (ev f) o).run P w=.ok (.value v) w':=by
 simp only [execOp,ho,resolve,hc,invoke,builtin,Sem.run_bind,Sem.run_pure,Result.andThen_ok,h]
theorem uH {o:Oper} {c:Call} {f:R.Fr} {w w':World} {v:Value} (ho:o.op=.call c) (hc:c.callee=.builtin .unsafeString) (h:(Builtin.unsafeString_ c.argTypes o.type (c.args.map (ev f))).run P w=.ok v w'):(execOp (ev f) o).run P w=.ok (.value v) w':=by
 simp only [execOp,ho,resolve,hc,invoke,builtin,Sem.run_bind,Sem.run_pure,Result.andThen_ok,h]
section
variable {w:World} {t u ty e:TypeId} {i:TypeInfo} {z x:Value} {d:TypeDesc} {base:Option Addr} {len cap n:Nat} {olds news:Array Value}
theorem yV (ht:P.underlying t=some (.slice e)) (hu:P.underlying u=some d) (hd:∀ k,d≠.int k) (hi:P.info? e=some i) (hl:(Builtin.lenOf x).run P w=.ok n w) (hx:(Builtin.firstCells i.size n x).run P w=.ok news w) (hc:len+n≤cap) :
  (Builtin.append_ #[t,u] ty #[.slice base len cap,x]).run P w=match base with|none=>.ok (.slice none (len+n) cap) w|some a=>((storeCells (a.add (len*i.size)) news.toList).run P w).andThen fun _ w=>.ok (.slice (some a) (len+n) cap) w:=by
 cases d with
 | int k=>exact absurd rfl (hd k)
 | _ =>
  unfold Builtin.append_
  simp only [List.getElem?_toArray,List.getElem?_cons_zero,List.getElem?_cons_succ,Sem.run_bind,run_underlying ht,run_underlying hu,Result.andThen_ok,Sem.run_pure,sizeOf,typeInfo,run_program,hi,hl,if_false,if_true,if_pos hc,hx,Bool.false_eq_true,Bool.not_false]
  cases base <;> simp only [Sem.run_bind,Sem.run_pure]
theorem yW (ht:P.underlying t=some (.slice e)) (hu:P.underlying u=some d) (hd:∀ k,d≠.int k) (hi:P.info? e=some i) (hz:i.zero=some z) (hl:(Builtin.lenOf x).run P w=.ok n w) (hx:(Builtin.firstCells i.size n x).run P w.drew=.ok news w.drew)
  (hc:cap<len+n) (hb:(len+n)*(i.bytes+1)<1000000000) (ho:(Builtin.firstCells i.size len (.slice base len cap)).run P w.drew=.ok olds w.drew) :
  (Builtin.append_ #[t,u] ty #[.slice base len cap,x]).run P w=.ok (.slice (some ⟨w.heap.size,0,none⟩) (len+n) (grownCap w (len+n) cap e)) (w.drew.alloc (.cells (olds++news++Builtin.zeroCells z.cells (grownCap w (len+n) cap e-(len+n))) e)):=by
 have hn:¬ (len+n≤cap):=by omega
 have hle:len+n≤(len+n)*(i.bytes+1):=Nat.le_mul_of_pos_right (len+n) (Nat.succ_pos i.bytes)
 have hnb:(len+n)*i.bytes≤(len+n)*(i.bytes+1):=Nat.mul_le_mul_left _ (Nat.le_succ _)
 have hm:IntKind.i64.max=9223372036854775807:=rfl
 have hA:¬ (((len+n:Nat):Int) > IntKind.i64.max∧(False∨i.bytes=0)):=by
  rw [hm]
  intro h
  omega
 have hB:¬ (Builtin.nextslicecap (len+n) cap*i.bytes > 2 ^ 48):=by
  have:=growslice_fits (need:=len+n) (old:=cap) (bytes:=i.bytes) xj xj
  omega
 have hq:(Question.appendCap (len+n) cap e).forced=false:=rfl
 cases d with
 | int k=>exact absurd rfl (hd k)
 | _ =>
  unfold Builtin.append_
  simp only [List.getElem?_toArray,List.getElem?_cons_zero,List.getElem?_cons_succ,Sem.run_bind,run_underlying ht,run_underlying hu,Result.andThen_ok,Sem.run_pure,sizeOf,typeInfo,run_program,hi,hl,if_false,if_true,if_neg hn,Bool.false_eq_true,Bool.not_false,if_neg hA,if_neg hB,run_choose_drew,hq,run_askRoom,ho,hx,zeroValue,hz,newRow,run_newObj]
  rfl
theorem xk {ku:IntKind} {n:Nat} {zs:Array Value} (ht:P.underlying t=some (.slice e)) (hu:P.underlying u=some (.int ku)) (hi:P.info? e=some i) (hz:i.zero=some z) (hnn:n<1000000) (hb:n*(i.bytes+1)<1000000000) {k:IntKind} (hzs:zs=if n*i.size=0 then #[] else Builtin.zeroCells z.cells n) (hc:len+n≤cap) :
  (Builtin.append_ #[t,u] ty #[.slice base len cap,.int k n]).run P w=match base with|none=>.ok (.slice none (len+n) cap) w|some a=>((storeCells (a.add (len*i.size)) zs.toList).run P w).andThen fun _ w=>.ok (.slice (some a) (len+n) cap) w:=by
 have hw:IntKind.i64.wrap (n:Int)=(n:Int):=by rw [wrap_i64];split <;> omega
 have hneg:¬ ((n:Int)<0):=by omega
 have hnb:n*i.bytes≤n*(i.bytes+1):=Nat.mul_le_mul_left _ (Nat.le_succ _)
 have h48:¬ ((n:Int)*(i.bytes:Int) > 2 ^ 48):=by
  have:((n*i.bytes:Nat):Int)<1000000000:=by omega
  rw [Int.natCast_mul] at this
  omega
 have hne:Int.toNat (n:Int)=n:=Int.toNat_natCast n
 subst hzs
 unfold Builtin.append_
 simp only [List.getElem?_toArray,List.getElem?_cons_zero,List.getElem?_cons_succ,Sem.run_bind,run_underlying ht,run_underlying hu,Result.andThen_ok,Sem.run_pure,sizeOf,typeInfo,run_program,hi,asInt,asIntOf,hw,if_neg hneg,if_neg h48,hne,if_false,if_true,if_pos hc,Bool.false_eq_true,Bool.not_true]
 by_cases hzz:n*i.size=0
 ·simp only [if_pos hzz]
  cases base <;> simp only [Sem.run_bind,Sem.run_pure,Result.andThen_ok]
 ·simp only [if_neg hzz]
  cases base <;> simp only [Sem.run_bind,Sem.run_pure,Result.andThen_ok,zeroValue,typeInfo,run_program,hi,hz]
theorem xl {ku:IntKind} {n:Nat} {zs:Array Value} (ht:P.underlying t=some (.slice e)) (hu:P.underlying u=some (.int ku)) (hi:P.info? e=some i) (hz:i.zero=some z) (hnn:n<1000000) (hb:(len+n)*(i.bytes+1)<1000000000) {k:IntKind} (hzs:zs=if n*i.size=0 then #[] else Builtin.zeroCells z.cells n) (hc:cap<len+n)
  (ho:(Builtin.firstCells i.size len (.slice base len cap)).run P w.drew=.ok olds w.drew) :
  (Builtin.append_ #[t,u] ty #[.slice base len cap,.int k n]).run P w=.ok (.slice (some ⟨w.heap.size,0,none⟩) (len+n) (grownCap w (len+n) cap e)) (w.drew.alloc (.cells (olds++zs++Builtin.zeroCells z.cells (grownCap w (len+n) cap e-(len+n))) e)):=by
 have hn:¬ (len+n≤cap):=by omega
 have hle:len+n≤(len+n)*(i.bytes+1):=Nat.le_mul_of_pos_right (len+n) (Nat.succ_pos i.bytes)
 have hnb:(len+n)*i.bytes≤(len+n)*(i.bytes+1):=Nat.mul_le_mul_left _ (Nat.le_succ _)
 have hnb2:n*i.bytes≤(len+n)*i.bytes:=Nat.mul_le_mul_right _ xj
 have hm:IntKind.i64.max=9223372036854775807:=rfl
 have hA:¬ (((len+n:Nat):Int) > IntKind.i64.max∧(True∨i.bytes=0)):=by
  rw [hm]
  intro h
  omega
 have hB:¬ (Builtin.nextslicecap (len+n) cap*i.bytes > 2 ^ 48):=by
  have:=growslice_fits (need:=len+n) (old:=cap) (bytes:=i.bytes) xj xj
  omega
 have hq:(Question.appendCap (len+n) cap e).forced=false:=rfl
 have hw:IntKind.i64.wrap (n:Int)=(n:Int):=by rw [wrap_i64];split <;> omega
 have hneg:¬ ((n:Int)<0):=by omega
 have h48:¬ ((n:Int)*(i.bytes:Int) > 2 ^ 48):=by
  have:((n*i.bytes:Nat):Int)<1000000000:=by omega
  rw [Int.natCast_mul] at this
  omega
 have hne:Int.toNat (n:Int)=n:=Int.toNat_natCast n
 subst hzs
 unfold Builtin.append_
 simp only [List.getElem?_toArray,List.getElem?_cons_zero,List.getElem?_cons_succ,Sem.run_bind,run_underlying ht,run_underlying hu,Result.andThen_ok,Sem.run_pure,sizeOf,typeInfo,run_program,hi,asInt,asIntOf,hw,if_neg hneg,if_neg h48,hne,if_false,if_true,if_neg hn,Bool.false_eq_true,Bool.not_true,if_neg hA,if_neg hB,run_choose_drew,hq,run_askRoom,ho]
 by_cases hzz:n*i.size=0
 ·simp only [if_pos hzz,Sem.run_bind,Sem.run_pure,Result.andThen_ok,zeroValue,typeInfo,run_program,hi,hz,newRow,run_newObj]
  rfl
 ·simp only [if_neg hzz,Sem.run_bind,Sem.run_pure,Result.andThen_ok,zeroValue,typeInfo,run_program,hi,hz,newRow,run_newObj]
  rfl
end
section
theorem mw (z:Array Value) (n:Nat):Builtin.zeroCells z n=(mV z.toList n).toArray:=by
 have:=uF z.toList n
 rw [← this]
 unfold Builtin.zeroCells
 simp
end
section
variable {ρ:Rn} {h:H} {nx:Nat} {w:World} {e:TypeId} {z:Value}
theorem Kn {cs:List V} {xs:List Value} {m c sz:Nat} (hd:aT ρ cs xs) (hl:xs.length=m*sz) (hz:z.cells.toList.length=sz) (hc:m≤c):iL ρ (.row cs true e) (.cells (xs.toArray++Builtin.zeroCells z.cells (c-m)) e) (c*sz):=by
 rw [mw,List.append_toArray]
 refine .row hd (fun h=>by cases h) ?_
 rw [List.length_append,lE,hl,hz,← Nat.add_mul]
 congr 1
 omega
theorem uI (hs:Sat ρ h w) (hf:ρ nx=none) {cs:List V} {xs:List Value} {m old sz:Nat} (hd:aT ρ cs xs) (hl:xs.length=m*sz) (hz:z.cells.toList.length=sz) :
  Den (nU ρ nx (w.heap.size,grownCap w m old e*sz)) (.sl (some (nx,0)) m (.u sz)) (.slice (some ⟨w.heap.size,0,none⟩) m (grownCap w m old e)) ∧
  dH ρ h nx w (nU ρ nx (w.heap.size,grownCap w m old e*sz)) (dL h nx (some (.row cs true e))) (nx+1) (w.drew.alloc (.cells (xs.toArray++Builtin.zeroCells z.cells (grownCap w m old e-m)) e)):=by
 have hc:=grownCap_ge w m old e
 refine ⟨.Ca (cQ _ _ _) xj hc,dH.yP (dH.alloc (w:=w.drew) hs.drew hf (Kn (hd.ext (dp hf)) hl hz hc))⟩
structure Xu (P:Program) (A:Sem Value) (w:World) (sv:Value) (xs:List Value) (n sz by_:Nat) (e:TypeId) (z:Value):Prop where
 room:∀ {base len cap},sv=.slice base len cap→len+n≤cap→n*(by_+1)<1000000000→A.run P w=match base with|none=>.ok (.slice none (len+n) cap) w|some a=>((storeCells (a.add (len*sz)) xs).run P w).andThen fun _ w=>.ok (.slice (some a) (len+n) cap) w
 grow:∀ {base len cap olds},sv=.slice base len cap→cap<len+n→(len+n)*(by_+1)<1000000000→(Builtin.firstCells sz len sv).run P w.drew=.ok olds w.drew→A.run P w=.ok (.slice (some ⟨w.heap.size,0,none⟩) (len+n) (grownCap w (len+n) cap e)) (w.drew.alloc (.cells (olds++xs.toArray++Builtin.zeroCells z.cells (grownCap w (len+n) cap e-(len+n))) e))
theorem Ii {P:Program} {A:Sem Value} {s v:V} {sv:Value} {new:List V} {xs:List Value} {n sz by_:Nat} {h':H} {aL:Nat} (hs:Sat ρ h w) (hf:∀ m,nx≤m→ρ m=none) (hA:Xu P A w sv xs n sz by_ e z) (hsv:Den ρ s sv) (hd:aT ρ new xs) (hl:xs.length=n*sz) (hz:z.cells.toList.length=sz)
  (hv:RL e sz by_ h nx s n new=some (v,h',aL)):∃ x w' ρ',A.run P w=.ok x w'∧Den ρ' v x∧dH ρ h nx w ρ' h' aL w':=by
 unfold RL at hv
 split at hv
 ·rename_i a len c
  replace hv:=bA hv
  obtain ⟨hb,hv⟩:=hv
  rw [blt_eq] at hb
  have hb:=of_decide_eq_true hb
  have hb2:n*(by_+1)≤(len+n)*(by_+1):=Nat.mul_le_mul_right _ xj
  split at hv
  ·replace hv:=bA hv
   obtain ⟨h0,hv⟩:=hv
   have h0:=Nat.eq_of_beq_eq_true h0
   subst h0
   cases hsv
   cases hn:Nat.beq n 0 with
   | true =>
    rw [hn] at hv
    cases hv
    have hn:=Nat.eq_of_beq_eq_true hn
    subst hn
    exact ⟨_,w,ρ,hA.room rfl (Nat.le_refl _) xj,.Vq _ _,dH.refl hs _⟩
   | false =>
    rw [hn,cond_false,dh] at hv
    cases hv
    have hn:=Nat.ne_of_beq_eq_false hn
    have hr:=hA.grow (olds:=#[]) rfl xj hb (by simp [Builtin.firstCells])
    obtain ⟨g1,g2⟩:=uI (e:=e) (old:=0) hs (hf nx (Nat.le_refl _)) hd hl hz
    rw [Nat.zero_add] at hr
    refine ⟨_,_,_,hr,g1,?_⟩
    simpa using g2
  ·rename_i b off cp
   cases hsv with
   | @B7 _ _ _ _ bb sz0 e1 =>
   cases hle:Nat.ble (len+n) cp with
   | true =>
    rw [hle,cond_true] at hv
    have hle:=Nat.le_of_ble_eq_true hle
    unfold kZ at hv
    split at hv
    ·rename_i cs o t hg
     split at hv
     ·rename_i cs' hp
      replace hv:=bA hv
      obtain ⟨h1,hv⟩:=hv
      rw [dh] at hv
      cases hv
      obtain ⟨b',s',w',f1,f2,f3⟩:=mu (nx:=nx) hs hg hp h1 hd
      rw [e1] at f1
      cases f1
      have hr:=hA.room rfl hle xj
      simp only [Addr.add_lit,f2 P,Result.andThen_ok] at hr
      exact ⟨_,w',ρ,hr,.B7 e1,f3⟩
     ·cases hv
    ·cases hv
   | false =>
    rw [hle,cond_false] at hv
    have hgt:cp<len+n:=by
     rcases Nat.lt_or_ge cp (len+n) with k|k
     ·exact k
     ·rw [Nat.ble_eq_true_of_le k] at hle;cases hle
    split at hv
    ·rename_i old hg
     rw [dh] at hv
     cases hv
     obtain ⟨b',s',os,f1,f2,f3,f4⟩:=mq (w:=w.drew) hs.drew hg
     rw [e1] at f1
     cases f1
     have hr:=hA.grow (olds:=os.toArray) rfl hgt hb (by simp only [Builtin.firstCells];exact f4 P)
     obtain ⟨g1,g2⟩:=uI (e:=e) (m:=len+n) (old:=cp) hs (hf nx (Nat.le_refl _)) (f2.append hd) (by rw [List.length_append,f3,hl,Nat.add_mul]) hz
     refine ⟨_,_,_,hr,g1,?_⟩
     simpa using g2
    ·cases hv
  ·rename_i b off sz'
   replace hv:=bA hv
   obtain ⟨h1,hv⟩:=hv
   have h1:=Nat.eq_of_beq_eq_true h1
   subst h1
   cases hsv with
   | @Ca _ _ _ _ cp bb tot e1 e2 e3 =>
   cases hn:Nat.beq n 0 with
   | true =>
    rw [hn] at hv
    cases hv
    have hn:=Nat.eq_of_beq_eq_true hn
    subst hn
    have hx0:xs=[]:=List.eq_nil_of_length_eq_zero (by rw [hl,Nat.zero_mul])
    subst hx0
    have hr:=hA.room rfl (by simpa using e3) xj
    exact ⟨_,w,ρ,hr,.Ca e1 e2 (by simpa using e3),dH.refl hs _⟩
   | false =>
    rw [hn,cond_false] at hv
    have hn:=Nat.ne_of_beq_eq_false hn
    replace hv:=bA hv
    obtain ⟨h2,hv⟩:=hv
    rw [Bool.and_eq_true] at h2
    have h3:=Nat.eq_of_beq_eq_true h2.1
    subst h3
    split at hv
    ·rename_i cs o t hg
     replace hv:=bA hv
     obtain ⟨h4,hv⟩:=hv
     have h4:=Nat.eq_of_beq_eq_true h4
     subst h4
     split at hv
     ·rename_i old ht
      rw [Mv,dh] at hv
      cases hv
      obtain ⟨b',s',ys,tl,f1,f2,f3,f4,f5⟩:=eH hs hg
      rw [e1] at f1
      cases f1
      obtain ⟨rfl,hlen⟩:=eR ht
      have hyl:=f3.len
      have hot:(ys.take (len*sz)).length=len*sz:=by rw [List.length_take];omega
      rcases Nat.lt_or_ge cp (len+n) with hgt|hle
      ·have hr:=hA.grow (olds:=(ys.take (len*sz)).toArray) rfl hgt hb (by
        simp only [Builtin.firstCells]
        have:=run_loadCells_list (P:=P) (w:=w.drew) ⟨bb,0,none⟩ (ys.take (len*sz)) fun j v hj=>by
         rw [gD (w:=w.drew) f2]
         have hlt:=(List.getElem?_eq_some_iff.1 hj).1
         rw [hot] at hlt
         rw [List.getElem?_take_of_lt hlt] at hj
         have hlt2:=(List.getElem?_eq_some_iff.1 hj).1
         simp only [List.getElem?_toArray,Nat.zero_add]
         rw [List.getElem?_append_left hlt2]
         exact hj
        rw [hot] at this
        exact this)
       obtain ⟨g1,g2⟩:=uI (e:=t) (m:=len+n) (old:=cp) (hs.del b) (hf nx (Nat.le_refl _)) ((f3.take (len*sz)).append hd) (by rw [List.length_append,hot,hl,Nat.add_mul]) hz
       refine ⟨_,_,_,hr,g1,(dH.del hs b).trans ?_⟩
       simpa using g2
      ·have hmul:(len+n)*sz≤cp*sz:=Nat.mul_le_mul_right _ hle
       rw [Nat.add_mul] at hmul
       have hr:=hA.room rfl hle xj
       have hst:=run_storeCells_at (P:=P) bb (len*sz) t xs 0 (ys++tl).toArray w f2 (by simp only [List.size_toArray,f4];omega) (nt hd h2.2)
       simp only [Addr.add_lit,Nat.zero_add,hst,Result.andThen_ok] at hr
       have e6:((ys++tl).toArray.toList.take (len*sz+0)++xs++(ys++tl).toArray.toList.drop (len*sz+0+xs.length))=(ys.take (len*sz)++xs)++(ys++tl).drop (len*sz+xs.length):=by
        simp only [Nat.add_zero]
        rw [List.take_append_of_le_length (by omega)]
       simp only [Nat.add_zero] at e6 hr
       rw [e6] at hr
       refine ⟨_,_,nU ρ nx (bb,tot),hr,.Ca (cQ _ _ _) e2 xj,dH.rename hs (hf nx (Nat.le_refl _)) (by rw [show at_ h b=_ from hg];simp) e1 (setRow_heap w bb _ _ t _ f2) (.row (((f3.take _).append hd).ext (dp (hf nx (Nat.le_refl _)))) (fun h=>by cases h) ?_) (fun k hk=>setRow_other w bb k _ hk) (by simp [World.setRow]) rfl rfl rfl⟩
       rw [List.length_append,List.length_append,hot,List.length_drop,f4,hl]
       omega
     ·cases hv
    ·cases hv
  ·cases hv
 ·cases hv
end
end
end E
namespace E
open Go.RowKit Go.Lib
section
variable {P:Program} {ρ:Rn} {h:H} {w:World}
theorem CQ (hs:Sat ρ h w) {n off len:Nat} {r:List V} (hr:ic h n off len=some r):∃ b sz xs,ρ n=some (b,sz)∧aT ρ r xs∧xs.length=len∧∀ (P:Program) (w':World),w'.heap=w.heap→(loadCells ⟨b,off,none⟩ len).run P w'=.ok xs.toArray w':=by
 unfold ic at hr
 split at hr
 ·rename_i cs o t hg
  obtain ⟨b,sz,xs,tl,h1,h2,h3,h4,h5⟩:=eH hs hg
  obtain ⟨rfl,hl⟩:=eR hr
  rw [lD] at *
  have h6:=h3.len
  have hlen:((xs.drop off).take len).length=len:=by
   rw [List.length_drop] at hl
   rw [List.length_take,List.length_drop]
   omega
  refine ⟨b,sz,(xs.drop off).take len,h1,(h3.drop off).take len,hlen,fun P w' hw=>?_⟩
  have:=run_loadCells_list (P:=P) (w:=w') ⟨b,off,none⟩ ((xs.drop off).take len) fun j v hj=>by
   rw [gD (w:=w') (by rw [hw];exact h2)]
   rw [List.getElem?_take] at hj
   split at hj
   ·rw [List.getElem?_drop] at hj
    have hlt:=(List.getElem?_eq_some_iff.1 hj).1
    simp only [List.getElem?_toArray]
    rw [List.getElem?_append_left hlt]
    exact hj
   ·cases hj
  rw [hlen] at this
  exact this
 ·cases hr
theorem uJ (ρ:Rn):∀ l:List UInt8,aT ρ (l.map fun x=>V.i .u8 (.ofNat x.toNat)) (l.map fun b=>Value.int .u8 b.toNat)
 | []=>.nil
 | _::l=>.cons (.i _ _) (uJ ρ l)
theorem uK (hs:Sat ρ h w) {sz n:Nat} {v:V} {x:Value} {cs:List V} (hd:Den ρ v x) (hv:yI h sz n v=some cs) (hn:∀ m,Mf v=some m→n≤m):∃ xs,aT ρ cs xs∧xs.length=n*sz∧∀ (P:Program) (w':World),w'.heap=w.heap→(Builtin.firstCells sz n x).run P w'=.ok xs.toArray w':=by
 have h0:∀ (P:Program) (w':World) (a:Addr),(loadCells a (0*sz)).run P w'=.ok #[] w':=fun P w' a=>by
  rw [Nat.zero_mul]
  exact run_loadCells_list (P:=P) (w:=w') a [] fun j v hj=>by simp at hj
 unfold yI at hv
 split at hv
 ·obtain ⟨h1,h2⟩:=bA hv
  cases h2
  have h1:=Nat.eq_of_beq_eq_true h1
  subst h1
  cases hd
  exact ⟨[],.nil,by simp,fun P w' _=>rfl⟩
 ·obtain ⟨h1,h2⟩:=bA hv
  cases h2
  have h1:=Nat.eq_of_beq_eq_true h1
  subst h1
  cases hd
  exact ⟨[],.nil,by simp,fun P w' _=>h0 P w' _⟩
 ·rename_i b off len c hc
  obtain ⟨b',s',xs,f1,f2,f3,f4⟩:=CQ hs hv
  refine ⟨xs,f2,f3,fun P w' hw=>?_⟩
  cases hd with
  | B7 e=>rw [f1] at e;cases e;exact f4 P w' hw
  | Ca e _ _=>rw [f1] at e;cases e;exact f4 P w' hw
  | Vr=>exact absurd rfl hc
 ·rename_i l
  obtain ⟨h1,h2⟩:=bA hv
  cases h2
  have h1:=Nat.eq_of_beq_eq_true h1
  subst h1
  cases hd
  have hnl:n≤l.length:=hn _ rfl
  refine ⟨(l.take n).map fun b=>Value.int .u8 b.toNat,uJ ρ _,by simp;omega,fun P w' _=>?_⟩
  simp only [Builtin.firstCells,Sem.run_pure]
  rw [extract_mk]
  simp
 ·cases hv
theorem rI {v:V} {x:Value} {n:Nat} (hd:Den ρ v x) (hv:Mf v=some n) (w:World):(Builtin.lenOf x).run P w=.ok n w:=by
 unfold Mf at hv
 split at hv
 ·cases hv
  cases hd <;> rfl
 ·cases hv
  cases hd
  simp [Builtin.lenOf,ByteArray.size]
 ·cases hv
end
section
variable {P:Program}
theorem Ko {c:Call} {l:List cu} {t u e:TypeId} {sz by_:Nat} {z:V} {d:TypeDesc} (hd:el c.args.toList=some l) (hc:c.callee=.builtin .append) (ht:c.argTypes.toList=[t,u]) (h1:P.underlying t=some (.slice e)) (h2:P.underlying u=some d) (h3:∀ k,d≠.int k)
  (hn:ct P e=some sz) (hb:kY P e=some by_) (hz:dK P e=some z) (hzl:z.cells.length=sz):jo P (.call c) (.e l (RM e sz by_)) :=
 kM (cT c) hd fun {ρ h nx w vs v h' aL} f hs hf hu hv=>by
  have ht0:c.argTypes=#[t,u]:=Array.ext' ht
  have ha:=cF (f:=f) (c:=c) rfl
  generalize c.args.toList.map (ev f)=xs at hu ha
  obtain ⟨i,hi,rfl⟩:=iP hn
  obtain ⟨i',zx,hi',hzx,hzv⟩:=dV hz
  rw [hi] at hi'
  cases hi'
  have hzd:=eu (fM (ρ:=ρ) hzv)
  have hzs:zx.cells.toList.length=i.size:=by
   have:=hzd.len
   rw [hzl] at this
   exact this.symm
  unfold kY at hb
  rw [hi] at hb
  have hbi:i.bytes=by_:=by simpa using hb
  subst hbi
  unfold RM at hv
  split at hv
  ·rename_i s x
   split at hv
   ·rename_i n hln
    split at hv
    ·rename_i new hfi
     cases hu with
     | @cons _ sv _ _ hsv hu =>
      cases hu with
      | @cons _ xv _ _ hxv hu =>
       cases hu
       obtain ⟨ys,g1,g2,g3⟩:=uK hs hxv hfi (fun m hm=>by rw [hln] at hm;cases hm;exact Nat.le_refl _)
       have hA:∀ ty,Xu P (Builtin.append_ c.argTypes ty (c.args.map (ev f))) w sv ys n i.size i.bytes e zx:=fun ty=>by
        rw [ht0,ha]
        refine ⟨fun {base len cap} hb hr _=>?_,fun {base len cap olds} hb hr hm ho=>?_⟩
        ·subst hb
         exact yV h1 h2 h3 hi (rI hxv hln w) (g3 P w rfl) hr
        ·subst hb
         exact yW h1 h2 h3 hi hzx (rI hxv hln w) (g3 P w.drew rfl) hr hm ho
       obtain ⟨x',w',ρ',k1,k2,k3⟩:=Ii hs hf (hA 0) hsv g1 g2 hzs hv
       exact ⟨x',w',ρ',fun o ho=>.inl (pW ho hc k1),k2,k3⟩
    ·cases hv
   ·cases hv
  ·cases hv
theorem FL {c:Call} {l:List cu} {t u e:TypeId} {sz by_:Nat} {z:V} {k:IntKind} (hd:el c.args.toList=some l) (hc:c.callee=.builtin .append) (ht:c.argTypes.toList=[t,u]) (h1:P.underlying t=some (.slice e)) (h2:P.underlying u=some (.int k))
  (hn:ct P e=some sz) (hb:kY P e=some by_) (hz:dK P e=some z) (hzl:z.cells.length=sz):jo P (.call c) (.e l (RN e sz by_ z.cells)) :=
 kM (cT c) hd fun {ρ h nx w vs v h' aL} f hs hf hu hv=>by
  have ht0:c.argTypes=#[t,u]:=Array.ext' ht
  have ha:=cF (f:=f) (c:=c) rfl
  generalize c.args.toList.map (ev f)=xs at hu ha
  obtain ⟨i,hi,rfl⟩:=iP hn
  obtain ⟨i',zx,hi',hzx,hzv⟩:=dV hz
  rw [hi] at hi'
  cases hi'
  have hzd:=eu (fM (ρ:=ρ) hzv)
  have hzs:zx.cells.toList.length=i.size:=by
   have:=hzd.len
   rw [hzl] at this
   exact this.symm
  unfold kY at hb
  rw [hi] at hb
  have hbi:i.bytes=by_:=by simpa using hb
  subst hbi
  unfold RN at hv
  split at hv
  ·rename_i s k' n
   obtain ⟨hnn,hv1⟩:=bA hv
   rw [blt_eq] at hnn
   have hnn:=of_decide_eq_true hnn
   cases hu with
   | @cons _ sv _ _ hsv hu =>
    cases hu with
    | @cons _ xv _ _ hxv hu =>
     cases hu
     cases hxv
     have hzr:(mV zx.cells.toList n).toArray=if n*i.size=0 then #[] else Builtin.zeroCells zx.cells n:=by
      rw [mw]
      split
      ·rename_i h0
       have:(mV zx.cells.toList n)=[]:=List.eq_nil_of_length_eq_zero (by rw [lE,hzs];exact h0)
       rw [this]
      ·rfl
     have hA:Xu P (Builtin.append_ c.argTypes 0 (c.args.map (ev f))) w sv (mV zx.cells.toList n) n i.size i.bytes e zx:=by
      rw [ht0,ha]
      refine ⟨fun {base len cap} hb hr hm=>?_,fun {base len cap olds} hb hr hm ho=>?_⟩
      ·subst hb
       exact xk h1 h2 hi hzx hnn hm hzr hr
      ·subst hb
       exact xl h1 h2 hi hzx hnn hm hzr hr ho
     obtain ⟨x',w',ρ',k1,k2,k3⟩:=Ii hs hf hA hsv (pU hzd n) (by rw [lE,hzs]) hzs hv1
     exact ⟨x',w',ρ',fun o ho=>.inl (pW ho hc k1),k2,k3⟩
  ·cases hv
theorem xn {w w':World} {t u ty e:TypeId} {i:TypeInfo} {x:Value} {a:Addr} {len cap n:Nat} {cs:Array Value} (h1:P.underlying t=some (.slice e)) (hi:P.info? e=some i) (hl:(Builtin.lenOf x).run P w=.ok n w) (hx:(Builtin.firstCells i.size (Nat.min n len) x).run P w=.ok cs w) (hst:(storeCells a cs.toList).run P w=.ok () w') :
  (Builtin.copy_ #[t,u] ty #[.slice (some a) len cap,x]).run P w=.ok (goInt (Nat.min n len)) w':=by
 unfold Builtin.copy_
 simp only [List.getElem?_toArray,List.getElem?_cons_zero,List.getElem?_cons_succ,Sem.run_bind,run_underlying h1,Result.andThen_ok,Sem.run_pure,sizeOf,typeInfo,run_program,hi,hl,hx,hst]
theorem run_copy_none {w:World} {t u ty e:TypeId} {i:TypeInfo} {x:Value} {len cap n:Nat} {cs:Array Value} (h1:P.underlying t=some (.slice e)) (hi:P.info? e=some i) (hl:(Builtin.lenOf x).run P w=.ok n w) (hx:(Builtin.firstCells i.size (Nat.min n len) x).run P w=.ok cs w) :
  (Builtin.copy_ #[t,u] ty #[.slice none len cap,x]).run P w=.ok (goInt (Nat.min n len)) w:=by
 unfold Builtin.copy_
 simp only [List.getElem?_toArray,List.getElem?_cons_zero,List.getElem?_cons_succ,Sem.run_bind,run_underlying h1,Result.andThen_ok,Sem.run_pure,sizeOf,typeInfo,run_program,hi,hl,hx]
theorem sS {h:H} {n off nx aL:Nat} {vs:List V} {r v:V} {h':H} (hv:(kZ h n off vs fun h'=>some (r,h',nx))=some (v,h',aL)):∃ cs cs' o t,at_ h n=some (.row cs o t)∧Fv cs off vs=some cs'∧vs.all V.one=true∧v=r∧h'=dL h n (some (.row cs' o t))∧aL=nx:=by
 unfold kZ at hv
 split at hv
 ·rename_i cs o t hg
  split at hv
  ·rename_i cs' hp
   obtain ⟨h1,hv⟩:=bA hv
   rw [dh] at hv
   cases hv
   exact ⟨cs,cs',o,t,hg,hp,h1,rfl,rfl,rfl⟩
  ·cases hv
 ·cases hv
theorem Sz {c:Call} {l:List cu} {t u e:TypeId} {sz:Nat} (hd:el c.args.toList=some l) (hc:c.callee=.builtin .copy) (ht:c.argTypes.toList=[t,u]) (h1:P.underlying t=some (.slice e)) (hn:ct P e=some sz):jo P (.call c) (.e l (RO sz)) :=
 kM (cT c) hd fun {ρ h nx w vs v h' aL} f hs hf hu hv=>by
  have ht0:c.argTypes=#[t,u]:=Array.ext' ht
  have ha:=cF (f:=f) (c:=c) rfl
  generalize c.args.toList.map (ev f)=xs at hu ha
  obtain ⟨i,hi,rfl⟩:=iP hn
  unfold RO at hv
  split at hv
  ·rename_i a n c0 s
   split at hv
   ·rename_i m hln
    split at hv
    ·rename_i cs hfi
     cases hu with
     | @cons _ dv _ _ hdv hu =>
      cases hu with
      | @cons _ xv _ _ hxv hu =>
       cases hu
       obtain ⟨ys,g1,g2,g3⟩:=uK hs hxv hfi (fun m' hm=>by rw [hln] at hm;cases hm;exact Nat.min_le_left _ _)
       have hlo:=rI (P:=P) hxv hln w
       have key:∀ {b off:Nat} {A:Addr} {cc:Nat},dv=.slice (some A) n cc→(∃ bb sz,ρ b=some (bb,sz)∧A=⟨bb,off,none⟩)→(kZ h b off cs fun h'=>some (Ft (Nat.min m n),h',nx))=some (v,h',aL) →
         ∃ x w' ρ',(∀ o:Oper,o.op=.call c→(execOp (ev f) o).run P w=.ok (.value x) w'∨((execOp (ev f) o).run P w=.ok .skip w'∧x=Go.undef))∧Den ρ' v x∧dH ρ h nx w ρ' h' aL w':=by
        rintro b off A cc rfl ⟨bb,s,e1,rfl⟩ hv
        obtain ⟨ro,ro',o,t',k1,k2,k3,rfl,rfl,rfl⟩:=sS hv
        obtain ⟨b',s',w',f1,f2,f3⟩:=mu (nx:=aL) hs k1 k2 k3 g1
        rw [e1] at f1
        cases f1
        refine ⟨_,w',ρ,fun o ho=>.inl (xL ho hc ?_),.i _ _,f3⟩
        ·rw [ht0,ha]
         exact xn h1 hi hlo (g3 P w rfl) (f2 P)
       split at hv
       ·cases hv
        cases hdv
        refine ⟨_,w,ρ,fun o ho=>.inl (xL ho hc ?_),.i _ _,dH.refl hs _⟩
        rw [ht0,ha]
        exact run_copy_none h1 hi hlo (g3 P w rfl)
       ·cases hdv with
        | B7 e=>exact key rfl ⟨_,_,e,rfl⟩ hv
       ·cases hdv with
        | Ca e _ _=>exact key rfl ⟨_,_,e,rfl⟩ hv
       ·cases hv
    ·cases hv
   ·cases hv
  ·cases hv
theorem uL {w:World} {t ty e:TypeId} {len cap:Nat} (h1:P.underlying t=some (.slice e)):(Builtin.clear_ #[t] ty #[.slice none len cap]).run P w=.ok (.tuple #[]) w:=by
 unfold Builtin.clear_
 simp only [List.getElem?_toArray,List.getElem?_cons_zero,Sem.run_bind,run_underlying h1,Result.andThen_ok,Sem.run_pure]
theorem uM {w:World} {t ty e:TypeId} {A:Addr} {cap:Nat} (h1:P.underlying t=some (.slice e)):(Builtin.clear_ #[t] ty #[.slice (some A) 0 cap]).run P w=.ok (.tuple #[]) w:=by
 unfold Builtin.clear_
 simp only [List.getElem?_toArray,List.getElem?_cons_zero,Sem.run_bind,run_underlying h1,Result.andThen_ok,Sem.run_pure]
theorem uN {w w':World} {t ty e:TypeId} {i:TypeInfo} {z:Value} {A:Addr} {n cap:Nat} (h1:P.underlying t=some (.slice e)) (hi:P.info? e=some i) (hz:i.zero=some z) (h0:n≠0) (hst:(storeCells A (Builtin.zeroCells z.cells n).toList).run P w=.ok () w'):(Builtin.clear_ #[t] ty #[.slice (some A) n cap]).run P w=.ok (.tuple #[]) w':=by
 cases n with
 | zero=>exact absurd rfl h0
 | succ n =>
  unfold Builtin.clear_
  simp only [List.getElem?_toArray,List.getElem?_cons_zero,Sem.run_bind,run_underlying h1,Result.andThen_ok,Sem.run_pure,zeroValue,typeInfo,run_program,hi,hz,hst]
theorem MO {c:Call} {l:List cu} {t e:TypeId} {z:V} (hd:el c.args.toList=some l) (hc:c.callee=.builtin .clear) (ht:c.argTypes.toList=[t]) (h1:P.underlying t=some (.slice e)) (hz:dK P e=some z):jo P (.call c) (.e l (RP z.cells)) :=
 kM (cT c) hd fun {ρ h nx w vs v h' aL} f hs hf hu hv=>by
  have ht0:c.argTypes=#[t]:=Array.ext' ht
  have ha:=cF (f:=f) (c:=c) rfl
  generalize c.args.toList.map (ev f)=xs at hu ha
  obtain ⟨i,zx,hi,hzx,hzv⟩:=dV hz
  have hzd:=eu (fM (ρ:=ρ) hzv)
  unfold RP at hv
  split at hv
  ·cases hv
   cases hu with
   | cons hdv hu =>
    cases hu
    cases hdv
    refine ⟨.tuple #[],w,ρ,fun o ho=>.inl (pd ho hc ?_),.t .nil,dH.refl hs _⟩
    rw [ht0,ha]
    exact uL h1
  ·rename_i b off n c0
   cases hu with
   | @cons _ dv _ _ hdv hu =>
    cases hu
    cases h0:Nat.beq n 0 with
    | true =>
     rw [h0] at hv
     cases hv
     have h0:=Nat.eq_of_beq_eq_true h0
     subst h0
     have hex:∃ A cap,dv=.slice (some A) 0 cap:=by cases hdv <;> exact ⟨_,_,rfl⟩
     obtain ⟨A,cap,rfl⟩:=hex
     refine ⟨.tuple #[],w,ρ,fun o ho=>.inl (pd ho hc ?_),.t .nil,dH.refl hs _⟩
     rw [ht0,ha]
     exact uM h1
    | false =>
     rw [h0,cond_false] at hv
     have h0:=Nat.ne_of_beq_eq_false h0
     have hex:∃ bb sz cap,dv=.slice (some ⟨bb,off,none⟩) n cap∧ρ b=some (bb,sz):=by
      cases hdv with
      | B7 e=>exact ⟨_,_,_,rfl,e⟩
      | Ca e _ _=>exact ⟨_,_,_,rfl,e⟩
      | Vr=>exact absurd rfl h0
     obtain ⟨bb,s,cap,rfl,e1⟩:=hex
     obtain ⟨ro,ro',o,t',k1,k2,k3,rfl,rfl,rfl⟩:=sS hv
     obtain ⟨b',s',w',f1,f2,f3⟩:=mu (nx:=aL) hs k1 k2 k3 (pU hzd n)
     rw [e1] at f1
     cases f1
     refine ⟨.tuple #[],w',ρ,fun o ho=>.inl (pd ho hc ?_),.t .nil,f3⟩
     rw [ht0,ha]
     exact uN h1 hi hzx h0 (by rw [mw];exact f2 P)
  ·cases hv
theorem Kq {c:Call} {l:List cu} {t kt et:TypeId} {ts:List TypeId} (hd:el c.args.toList=some l) (hc:c.callee=.builtin .delete) (ht:c.argTypes.toList=t::ts) (h1:P.underlying t=some (.map kt et)):jo P (.call c) (.e l (RS P kt)) :=
 kM (cT c) hd fun {ρ h nx w vs v h' aL} f hs hf hu hv=>by
  have ht0:c.argTypes=(t::ts).toArray:=Array.ext' ht
  have ha:=cF (f:=f) (c:=c) rfl
  generalize c.args.toList.map (ev f)=xs at hu ha
  unfold RS at hv
  split at hv
  ·rename_i k
   obtain ⟨hck,hv1⟩:=bA hv
   cases hv1
   cases hu with
   | cons ham hu =>
    cases hu with
    | @cons _ kv _ _ hk hu =>
     cases hu
     cases ham
     have hr:=run_checkKey (P:=P) true w 10000 hck hk
     refine ⟨.tuple #[],w,ρ,fun o ho=>.inl (nu ho hc ?_),.t .nil,dH.refl hs _⟩
     rw [ht0,ha]
     unfold Builtin.delete_
     simp only [List.getElem?_toArray,List.getElem?_cons_zero,List.getElem?_cons_succ,Sem.run_bind,run_underlying h1,Result.andThen_ok,Sem.run_pure,hr]
  ·rename_i r k
   split at hv
   ·rename_i es clock hg
    obtain ⟨b,sz,ms,e1,e2,e3⟩:=gE hs hg
    cases hu with
    | cons ham hu =>
     cases hu with
     | @cons _ kv _ _ hk hu =>
      cases hu
      cases ham with
      | m e =>
       rw [e1] at e
       cases e
       have hgm:=dX (P:=P) e2
       split at hv
       ·rename_i i e hf
        rw [dh] at hv
        cases hv
        obtain ⟨c1,r',c2,c3⟩:=run_findKey w hk e3 hf
        rcases c3 with ⟨c3,_⟩|⟨j,e',m',c3,c4,c5,c6,c7⟩
        ·cases c3
        ·cases c3
         rw [Nat.zero_add] at c4
         have hset:=dY (ob':=.map (ms.eraseIdx (0+j)).toArray clock) e2 (fun _ _ _ h=>by cases h) P
         have hlt:=(List.getElem?_eq_some_iff.1 c6).1
         have e5:ms.toArray.eraseIdxIfInBounds j=(ms.eraseIdx (0+j)).toArray:=by
          rw [Nat.zero_add]
          apply Array.ext'
          simp [Array.eraseIdxIfInBounds,hlt]
         refine ⟨.tuple #[],_,ρ,fun o ho=>.inl (nu ho hc ?_),.t .nil,dZ (ob':=.map (ms.eraseIdx (0+j)).toArray clock) hs (by rw [show at_ h _=_ from hg];simp) e1 e2 (.mp (sR _ e3))⟩
         rw [ht0,ha]
         unfold Builtin.delete_
         simp only [List.getElem?_toArray,List.getElem?_cons_zero,List.getElem?_cons_succ,Sem.run_bind,run_underlying h1,Result.andThen_ok,Sem.run_pure,hgm,c1,c2,c4,e5,hset]
       ·rename_i hf
        rw [dh] at hv
        cases hv
        obtain ⟨c1,r',c2,c3⟩:=run_findKey w hk e3 hf
        rcases c3 with ⟨_,c4⟩|⟨j,e',m',c3,_⟩
        ·have hset:=dY (ob':=.map ms.toArray clock) e2 (fun _ _ _ h=>by cases h) P
         refine ⟨.tuple #[],_,ρ,fun o ho=>.inl (nu ho hc ?_),.t .nil,dZ (ob':=.map ms.toArray clock) hs (by rw [show at_ h _=_ from hg];simp) e1 e2 (.mp e3)⟩
         rw [ht0,ha]
         unfold Builtin.delete_
         simp only [List.getElem?_toArray,List.getElem?_cons_zero,List.getElem?_cons_succ,Sem.run_bind,run_underlying h1,Result.andThen_ok,Sem.run_pure,hgm,c1,c2,c4,hset]
        ·cases c3
       ·cases hv
   ·cases hv
  ·cases hv
theorem dH.adk {ρ:Rn} {h:H} {nx:Nat} {w w1:World} (hs:Sat ρ h w) {n b sz:Nat} (hn:at_ h n≠none) (hr:ρ n=some (b,sz)) (hx:∀ k,k≠b→w1.heap[k]?=w.heap[k]?) (hz:w1.heap.size=w.heap.size) (e1:w1.os=w.os) (e2:w1.tape=w.tape) (e3:w1.output=w.output):dH ρ h nx w ρ (dL h n none) nx w1 where
 ext:=Ext.refl ρ
 sat:=by
  refine ⟨fun m o hm=>?_,(hs.del n).inj⟩
  rw [cg] at hm
  split at hm
  ·cases hm
  ·rename_i e
   obtain ⟨b',sz',ob,h1,h2,h3⟩:=hs.has m o hm
   refine ⟨b',sz',ob,h1,?_,h3⟩
   rw [hx b' ?_]
   ·exact h2
   ·rintro rfl
    exact e (hs.inj m n b' sz' sz (by rw [hm];simp) hn h1 hr)
 le:=Nat.le_refl _
 same:=fun _ _=>rfl
 os:=e1
 tape:=e2
 output:=e3
 size:=by omega
 kC:=fun k _ hi=>hx k (by rintro rfl;exact hi ⟨n,sz,hn,hr⟩)
 FF:=fun k _ hi=>FE hi
theorem uO {ρ:Rn}:∀ {cs:List V} {l:List UInt8} {xs:List Value},yJ cs=some l→aT ρ cs xs→l.length=cs.length∧xs=l.map fun b=>Value.int .u8 b.toNat
 | [],l,xs,h,hd=>by
  cases hd
  cases h
  exact ⟨rfl,rfl⟩
 | v::cs,l,xs,h,hd=>by
  unfold yJ at h
  split at h
  ·rename_i h0
   cases h0
  ·rename_i x l' h0
   cases h0
   obtain ⟨h1,h2⟩:=bA h
   rw [blt_eq] at h1
   have h1:=of_decide_eq_true h1
   split at h2
   ·rename_i r hr
    cases h2
    cases hd with
    | cons ha hd =>
     cases ha
     obtain ⟨h3,h4⟩:=uO hr hd
     refine ⟨by simp [h3],?_⟩
     rw [List.map_cons,← h4]
     congr 2
     simp [Nat.mod_eq_of_lt h1]
   ·cases h2
  ·cases h
theorem Xv {c:Call} {l:List cu} {t u e:TypeId} (hd:el c.args.toList=some l) (hc:c.callee=.builtin .unsafeString) (ht:c.argTypes.toList=[t,u]) (h1:P.underlying t=some (.pointer e)) (hn:ct P e=some 1):jo P (.call c) (.e l (RT e)) :=
 kM (cT c) hd fun {ρ h nx w vs v h' aL} f hs hf hu hv=>by
  have ht0:c.argTypes=#[t,u]:=Array.ext' ht
  have ha:=cF (f:=f) (c:=c) rfl
  generalize c.args.toList.map (ev f)=xs at hu ha
  obtain ⟨i,hi,hi1⟩:=iP hn
  have hce:P.cellsOf e=1:=by simp [Program.cellsOf,hi,hi1]
  unfold RT at hv
  split at hv
  ·rename_i n
   obtain ⟨h0,hv1⟩:=bA hv
   cases hv1
   have h0:=Nat.eq_of_beq_eq_true h0
   subst h0
   cases hu with
   | cons hp hu =>
    cases hu with
    | cons hk hu =>
     cases hu
     cases hp
     cases hk
     refine ⟨.string .empty,w,ρ,fun o ho=>.inl (uH ho hc ?_),Den.s [],dH.refl hs _⟩
     rw [ht0,ha]
     exact run_unsafeString_none (P:=P) (w:=w) t u o.type none
  ·rename_i b off n
   cases hu with
   | cons hp hu =>
    cases hu with
    | cons hk hu =>
     cases hu
     cases hk
     cases hp with
     | @p _ _ bb sz e1 =>
     cases h0:Nat.beq n 0 with
     | true =>
      rw [h0] at hv
      cases hv
      have h0:=Nat.eq_of_beq_eq_true h0
      subst h0
      refine ⟨.string .empty,w,ρ,fun o ho=>.inl (uH ho hc ?_),Den.s [],dH.refl hs _⟩
      rw [ht0,ha]
      exact run_unsafeString_none (P:=P) (w:=w) t u o.type _
     | false =>
      rw [h0,cond_false] at hv
      have h0:=Nat.ne_of_beq_eq_false h0
      replace hv:=bA hv
      obtain ⟨h2,hv⟩:=hv
      rw [Bool.and_eq_true,blt_eq] at h2
      have h3:=Nat.eq_of_beq_eq_true h2.1
      subst h3
      have h4:=of_decide_eq_true h2.2
      split at hv
      ·rename_i cs o0 t0 hg
       replace hv:=bA hv
       obtain ⟨h5,hv⟩:=hv
       have h5:=Nat.eq_of_beq_eq_true h5
       subst h5
       split at hv
       ·rename_i us ht
        split at hv
        ·rename_i lb hb
         rw [Mv] at hv
         cases hv
         obtain ⟨b',s',ys,tl,f1,f2,f3,f4,f5⟩:=eH hs hg
         rw [e1] at f1
         cases f1
         obtain ⟨rfl,hlen⟩:=eR ht
         have hyl:=f3.len
         obtain ⟨g1,g2⟩:=uO hb (f3.take n)
         have hln:lb.length=n:=by rw [g1,List.length_take];omega
         have hsh:w.shape? bb=some (t0,(ys++tl).length):=by simp [World.shape?,f2]
         have hcell:∀ j x,lb[j]?=some x→w.cell? ((⟨bb,0,none⟩:Addr).add j)=some (.int .u8 x.toNat):=fun j x hj=>by
          rw [gD f2]
          have hlt:=(List.getElem?_eq_some_iff.1 hj).1
          have h6:(ys.take n)[j]?=some (.int .u8 x.toNat):=by
           rw [g2,List.getElem?_map,hj]
           rfl
          rw [List.getElem?_take_of_lt (by omega)] at h6
          have hlt2:=(List.getElem?_eq_some_iff.1 h6).1
          simp only [List.getElem?_toArray,Nat.zero_add]
          rw [List.getElem?_append_left hlt2]
          exact h6
         have hr:=fun ty=>run_unsafeString_row (P:=P) (w:=w) t u ty t0 h1 hce bb _ hsh lb (by rintro rfl;exact h0 hln.symm) (by rw [List.length_append];omega) xj hcell
         refine ⟨.string ⟨lb.toArray⟩,_,ρ,fun o ho=>.inl (uH ho hc ?_),.s _,dH.adk hs (by rw [show at_ h b=_ from hg];simp) e1 (w1:=w.freeze ⟨bb,0,none⟩ lb.length) ?_ ?_ ?_ ?_ ?_⟩
         ·rw [ht0,ha]
          rw [hln] at hr ⊢
          exact hr o.type
         ·intro k hk
          unfold World.freeze
          split
          ·rfl
          ·simp [Array.getElem?_modify,Ne.symm hk]
         ·unfold World.freeze;split <;> simp
         ·unfold World.freeze;split <;> rfl
         ·unfold World.freeze;split <;> rfl
         ·unfold World.freeze;split <;> rfl
        ·cases hv
       ·cases hv
      ·cases hv
  ·cases hv
end
end E
end Go.Proofs.YtlmabdegojeheaaGreatDoor
