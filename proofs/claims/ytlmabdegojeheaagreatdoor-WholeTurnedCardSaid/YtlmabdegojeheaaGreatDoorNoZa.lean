/- WholeTurned: parts of its proof (No Yb Yc Za). -/
import Derived.Test.YtlmabdegojeheaaGreatDoorZfNt
namespace Go.Proofs.YtlmabdegojeheaaGreatDoor
open R Go.RowKit
section
theorem X8 (p:Pc) (B:Option Addr) (m d g:Nat) (w:World) (hg:g<w.heap.size) (hc:w.cell? ((⟨g,0,none⟩:Addr).add 1)=some (.slice B m d)) :
    Calls Tryz.prog 52 ([Value.agg (yE p).toArray]++[Value.pointer (some ⟨g,0,none⟩)]).toArray w fun e w'=>e=.returned (.bool (lf m p))∧Below w.heap.size w w':=by
  have hM:=R.Own.start [] w
  refine aa (fn:=Tryz.f52) Tryz.func52 rfl Tryz.ntmps52 (Nat.le_of_ble_eq_true rfl) ?_
  (refine ak ?_;(repeat' first|refine And.intro ?_ ?_|intro _);all_goals refine ah.mk ?_)
  · rename_i h
    refine ⟨?_,R.Own.below ww⟩
    unfold lf
    rw [decide_eq_true h]
    rfl
  rename_i hM h
  have hc2:=(hM.below.cell (p:=(⟨g,0,none⟩:Addr).add 1) hg).trans hc
  (refine ak ?_;(repeat' first|refine And.intro ?_ ?_|intro _);all_goals refine ah.mk ?_)
  · rename_i h2
    refine ⟨?_,R.Own.below ww⟩
    unfold lf
    rw [decide_eq_false h,decide_eq_true h2]
    rfl
  · rename_i h2 _ _
    refine ⟨?_,R.Own.below ww⟩
    unfold lf
    rw [decide_eq_false h,decide_eq_false h2]
    rfl
theorem Tl (l:Sl Pc) (B:Option Addr) (m d g:Nat) (w:World) (hg:g<w.heap.size) (hc:w.cell? ((⟨g,0,none⟩:Addr).add 1)=some (.slice B m d)) (hl:KT yE 3 GPc w l) :
    Calls Tryz.prog 50 ([Value.slice l.A l.n l.c]++[Value.pointer (some ⟨g,0,none⟩)]).toArray w fun e w'=>e=.returned (.bool (l.L.any (lf m)))∧Below w.heap.size w w':=by
  have hM:=R.Own.start [] w
  obtain ⟨h1,h2,h3,-⟩:=hl
  refine aa (fn:=Tryz.f50) Tryz.func50 rfl Tryz.ntmps50 (Nat.le_of_ble_eq_true rfl) ?_
  (refine ak ?_;(repeat' first|refine And.intro ?_ ?_|intro _);all_goals refine ah.mk ?_)
  refine ar rfl rfl vv vv ?_
  refine (tw l.A l.n l.c l.L 52 [.pointer (some ⟨g,0,none⟩)] (lf m) _ (hM.gi h1) h2 xj (fun x w2 hx hb3=>?_)).mono ?_
  · exact X8 x B m d g w2 (Nat.lt_of_lt_of_le hg (hM.call hb3).below.size) (((hM.call hb3).below.cell (p:=(⟨g,0,none⟩:Addr).add 1) hg).trans hc)
  rintro e w2 ⟨rfl,hb2⟩
  have hM:=hM.call hb2
  refine ⟨_,rfl,?_⟩
  (refine ak ?_;(repeat' first|refine And.intro ?_ ?_|intro _);all_goals refine ah.mk ?_;(all_goals (try (exact ⟨rfl,R.Own.below ww⟩))))
theorem aaK {b:Bool} {p:Prop} (hd:b=true) (h:(!b)=true):p:=by rw [hd] at h;cases h
theorem aaL {b:Bool} (h:(!b)=false):b=true:=by cases b <;> simp at h ⊢
theorem KN {m:Nat} {E:List Ed} {k:Nat} (h:∀ i,i<k→vt m E i) (hk:vt m E k):∀ i,i<k+1→vt m E i:=fun i hi=>by
  rcases Nat.lt_or_ge i k with h1|h1
  · exact h i h1
  · obtain rfl:i=k:=by omega
    exact hk
end
section
theorem qy {T:Type} {enc:T→List Value} {sz:Nat} {G:World→T→Prop} {W w:World} {l:List bX} {x:Sl T} (hM:R.Own [] W w l) (hG:∀ y,G W y→G w y) (h:KT enc sz G W x):KT enc sz G w x:=⟨hM.gi h.1,h.2.1,h.2.2.1,fun y hy=>hG y (h.2.2.2 y hy)⟩
theorem JW.now {W w:World} {l:List bX} {x:Nt} (hM:R.Own [] W w l) (h:JW W x):JW w x :=
  ⟨qy hM (fun _ h=>h) h.1,qy hM (fun _ h=>h) h.2.1,qy hM (fun _ h=>qy hM (fun _ h=>h) h) h.2.2⟩
theorem JW.Df {W:World} {x:Nt} (h:JW W x):VX JW W x:=fun _ hb=>h.now ((R.Own.start [] W).call hb)
section
variable {x:Nt} {v:Int}
theorem VL {b:Bool} {p:Prop} (hd:b=true) (h:(!b)=true):p:=by rw [hd] at h;cases h
end
end
section
theorem KO {x:Nt} (hl:x.s.n=x.s.L.length) (h:vu x.s.L=true):∀ i,i<x.s.n→qz x.s.L i:=by
  have:=@of_decide_eq_true _ (Classical.propDecidable _) h
  rw [hl]
  exact this
theorem IQ {a b c d:Int}:0≤te (aR a b) (aR c d)↔¬ (a<b∨a=b∧c<d):=by
  unfold te
  rcases Int.lt_trichotomy a b with h|h|h
  · rw [kR h]
    simp [h]
  · subst h
    rw [fm]
    rcases Int.lt_trichotomy c d with g|g|g
    · rw [kR g];simp [g]
    · subst g;rw [fm];simp
    · rw [kS g];simp;omega
  · rw [kS h]
    simp
    omega
theorem adY {v:Int} {p:Prop} (h:t6 v) (g:(!(decide (0≤v)&&decide (v≤2147483648)))=true):p:=by
  obtain ⟨h1,h2⟩:=h
  rw [decide_eq_true h1,decide_eq_true h2] at g
  cases g
theorem adZ {v:Int} (g:(!(decide (0≤v)&&decide (v≤2147483648)))=false):t6 v:=by
  simpa [t6] using g
attribute [local irreducible] aq d9 bo cS bF cW te aR in
set_option maxHeartbeats 4000000 in
theorem Gg (x:Nt) (w:World) (hG:JW w x):Calls Tryz.prog 27 #[.agg (L2 x).toArray] w fun e w'=>e=.returned (.bool (tE x))∧Below w.heap.size w w':=by
  have hM:=R.Own.start [] w
  have hL:=hG.Df
  obtain ⟨⟨s1,s2,s3,-⟩,⟨e1,e2,e3,-⟩,p1,p2,p3,p4⟩:=hG
  by_cases hs:x.s.n≤200000∧x.e.n≤200000∧x.p.n≤200000
  · obtain ⟨hs1,hs2,hs3⟩:=hs
    refine aa (fn:=Tryz.f27) Tryz.func27 rfl Tryz.ntmps27 (Nat.le_of_ble_eq_true rfl) ?_
    (refine ak ?_;(repeat' first|refine And.intro ?_ ?_|intro _);all_goals refine ah.mk ?_)
    rename_i g w1 hM
    refine aA rfl rfl vv ?_
    refine (KQ x.s.A x.s.n x.s.c x.s.L _ (hM.gi s1) s2 xj).mono ?_
    rintro _ w2 ⟨rfl,hb2⟩
    have hM:=hM.call hb2
    refine ⟨_,rfl,?_⟩
    cases hn:vu x.s.L with
    | false =>
      rw [Ae fun q=>by rw [Dh (by rw [← s2];exact q.2.2.2.1)] at hn;cases hn]
      (refine ak ?_;(repeat' first|refine And.intro ?_ ?_|intro _);all_goals refine ah.mk ?_;(all_goals (try (exact ⟨rfl,R.Own.below ww⟩))))
    | true =>
      have hall:=KO s2 hn
      (refine ak ?_;(repeat' first|refine And.intro ?_ ?_|intro _);all_goals refine ah.mk ?_)
      refine au (fun k:Nat=>[(1,.pointer (some ⟨g,0,none⟩)),(2,.bool false),(28,.slice x.e.A x.e.n x.e.c),(29,.int .i64 (x.e.n:Nat)),(30,.int .i64 (k:Nat))])
        (fun k w2=>k≤x.e.n∧(∀ i,i<k→vt x.s.n x.e.L i)∧R.Own [] w w2 [.blk g 38 (L2 x)]) (fun k=>x.e.n-k) ⟨0,⟨rfl,rfl,rfl,rfl,rfl,trivial⟩,by omega,fun i hi=>absurd hi (Nat.not_lt_zero _),by assumption⟩ ?_
      clear hM
      rintro k f w2 ⟨hk,halE,hM⟩
      by_cases hlt:k<x.e.n
      · have e:(((k:Nat):Int)-1).toNat=k-1:=by omega
        (refine ad ?_;(repeat' first|refine And.intro ?_ ?_|intro _);all_goals refine ah.mk ?_)
        refine iW [(0,false),(1,false),(2,false),(3,false),(4,false),(5,false),(6,false),(7,false),(8,false),(9,false),(10,false),(11,false),(12,false),(13,false),(14,false),(15,false),(16,false),(17,false),(18,false),(19,false),(20,false),(21,true),(22,false),(23,false),(24,false),(25,false),(26,false),(27,false),(28,false),(29,false),(30,false),(31,false),(32,false),(33,false),(34,false),(35,false),(36,false),(37,false),(38,false),(39,false),(40,false),(41,false),(42,false),(43,false),(45,false),(44,true),(46,true),(47,true),(48,false),(49,false),(50,false)] R.mixed wx aj ?_
        (refine ad ?_;(repeat' first|refine And.intro ?_ ?_|intro _);all_goals refine ah.mk ?_)
        all_goals first
          | (refine ⟨?_,R.Own.below ww⟩
             rw [Ae (fun q=>by
               have q:=q.2.2.2.2.1 k hlt
               unfold vt ltE at q
               obtain ⟨q1,q2,q3,q4,q5,q6⟩:=q
               first
               | omega
               | exact adY q4 ww
               | (rcases q5 with q|q
                  · exact aaK q ww
                  · exact aaK q ww)
               | (have h:0≤te (aR (nth x.e.L (((k:Nat):Int)-1).toNat).a (nth x.e.L k).a) (aR (nth x.e.L (((k:Nat):Int)-1).toNat).b (nth x.e.L k).b):=by assumption
                  rw [e] at h
                  exact IQ.1 h (q6 xj)))])
          | (refine ⟨k+1,⟨rfl,rfl,rfl,rfl,aF rfl xj,trivial⟩,⟨by omega,KN halE ⟨by omega,by omega,by omega,adZ ww,by first|exact .inl (aaL ww)|exact .inr (aaL ww),fun _=>?_⟩,R.Own.tl ww⟩,by omega⟩
             first
             | (exfalso;omega)
             | (have h:¬ 0≤te (aR (nth x.e.L (((k:Nat):Int)-1).toNat).a (nth x.e.L k).a) (aR (nth x.e.L (((k:Nat):Int)-1).toNat).b (nth x.e.L k).b):=by assumption
                rw [e,IQ] at h
                unfold ltE
                omega))
      · obtain rfl:k=x.e.n:=by omega
        (refine ak ?_;(repeat' first|refine And.intro ?_ ?_|intro _);all_goals refine ah.mk ?_)
        refine ar rfl rfl vv vv ?_
        have hcl:∀ w',R.Own [] w w' [.blk g 38 (L2 x)]→g<w'.heap.size∧w'.cell? ((⟨g,0,none⟩:Addr).add 1)=some (.slice x.e.A x.e.n x.e.c):=fun w' h=>⟨R.Own.lt h (.head _) rfl,by
          have h0:w'.heap[g]?=some (.cells (L2 x).toArray 38 (0,0)):=h.ok _ (.head _)
          simp [World.cell?,Addr.add,h0,L2]⟩
        refine (rA x.p.A x.p.n x.p.c x.p.L 50 [.pointer (some ⟨g,0,none⟩)] (fun l=>l.L.any (lf x.e.n)) _ (hM.gi p1) p2 xj (fun l w5 hl hb5=>?_)).mono ?_
        · have h5:=hcl w5 (hM.call hb5)
          exact Tl l x.e.A x.e.n x.e.c g w5 h5.1 h5.2 (qy (hM.call hb5) (fun _ h=>h) (p4 l hl))
        rintro _ w5 ⟨rfl,hb5⟩
        have hM:=hM.call hb5
        refine ⟨_,rfl,?_⟩
        (refine ak ?_;(repeat' first|refine And.intro ?_ ?_|intro _);all_goals refine ah.mk ?_)
        refine ⟨?_,R.Own.below ww⟩
        cases ha:x.p.L.any fun l=>l.L.any (lf x.e.n) with
        | true =>
          rw [Ae fun q=>?_]
          · rfl
          obtain ⟨l,hl,ha⟩:=List.any_eq_true.1 ha
          obtain ⟨p,hp,ha⟩:=List.any_eq_true.1 ha
          rw [q.2.2.2.2.2 l hl p hp] at ha
          cases ha
        | false =>
          rw [Gi ⟨hs1,hs2,hs3,hall,halE,fun l hl p hp=>?_⟩]
          · rfl
          have:=List.any_eq_false.1 ha l hl
          rw [Bool.not_eq_true,List.any_eq_false] at this
          simpa using this p hp
  · rw [Ae fun q=>hs ⟨q.1,q.2.1,q.2.2.1⟩]
    refine aa (fn:=Tryz.f27) Tryz.func27 rfl Tryz.ntmps27 (Nat.le_of_ble_eq_true rfl) ?_
    (refine ak ?_;(repeat' first|refine And.intro ?_ ?_|intro _);all_goals refine ah.mk ?_)
    all_goals first
      | exact ⟨rfl,R.Own.below ww⟩
      | (exfalso;omega)
instance X9 (x:Nt):bj Tryz.prog 27 #[.agg (L2 x).toArray] Unit (fun _ w=>JW w x) (fun _=>.bool (tE x)):=⟨fun _ w h=>Gg x w h⟩
theorem Gh {x:Nt} (h:tE x=true):x.e.n≤200000:=(nE.1 h).2.1
end
section
def pH (E:List Ed) (v:Nat):Nat→Nat
 | 0=>0
 | k+1=>pH E v k+if (nth E k).a=(v:Nat)∨(nth E k).b=(v:Nat) then 1 else 0
def ec (E:List Ed) (m k:Nat):List Int:=(List.range m).map fun v=>((pH E v k:Nat):Int)
theorem uk (E:List Ed) (v:Nat):∀ k,pH E v k≤k
 | 0=>Nat.le_refl _
 | k+1=>by
  have:=uk E v k
  unfold pH
  split <;> omega
theorem i7 (E:List Ed) (m k:Nat):(ec E m k).length=m:=by simp [ec]
theorem kp {E:List Ed} {m k v:Nat} (h:v<m):nth (ec E m k) v=((pH E v k:Nat):Int):=by
 rw [av (by rw [i7];exact h)]
 simp [ec]
theorem LJ (E:List Ed) (m:Nat):ec E m 0=List.replicate m 0:=by
 refine List.ext_getElem (by simp [ec]) fun i h1 h2=>?_
 simp [ec,pH]
theorem nO {L:List Int} {v u:Nat} {x:Int} (hv:v<L.length):nth (L.set v x) u=if v=u then x else nth L u:=by
 unfold R.nth
 rw [List.getD_eq_getElem?_getD,List.getD_eq_getElem?_getD,List.getElem?_set]
 by_cases e:v=u
 ·subst e;rw [if_pos rfl,if_pos hv,if_pos rfl];rfl
 ·rw [if_neg e,if_neg e]
theorem EY {L L':List Int} (hl:L.length=L'.length) (h:∀ i,i<L.length→nth L i=nth L' i):L=L':=List.ext_getElem hl fun i h1 h2=>by
 have:=h i h1
 rwa [av h1,av h2] at this
theorem LK {E:List Ed} {m k a b:Nat} (ha:(nth E k).a=(a:Nat)) (hb:(nth E k).b=(b:Nat)) (hab:a≠b) (ham:a<m) (hbm:b<m):ec E m (k+1)=((ec E m k).set a (nth (ec E m k) a+1)).set b (nth ((ec E m k).set a (nth (ec E m k) a+1)) b+1):=by
 refine EY (by simp [ec]) fun v hv=>?_
 rw [i7] at hv
 rw [kp hv,nO (by rw [List.length_set,i7];exact hbm),nO (by rw [i7];exact ham),nO (by rw [i7];exact ham),if_neg hab,kp hv,kp ham,kp hbm]
 show (((pH E v k+if (nth E k).a=(v:Nat)∨(nth E k).b=(v:Nat) then 1 else 0:Nat)):Int)=_
 rw [ha,hb]
 by_cases e1:b=v
 ·subst e1
  rw [if_pos (.inr rfl),if_pos rfl]
  omega
 ·rw [if_neg e1]
  by_cases e2:a=v
  ·subst e2
   rw [if_pos (.inl rfl),if_pos rfl]
   omega
  ·rw [if_neg e2,if_neg (by omega)]
   omega
def Qn (L:List Int) (d:Int):Nat→Nat
 | 0=>0
 | k+1=>Qn L d k+if nth L k=d then 1 else 0
def Fl (L:List Int) (m k:Nat):List Int:=(List.range m).map fun d=>((Qn L ((d:Nat):Int) k:Nat):Int)
theorem Qo (L:List Int) (d:Int):∀ k,Qn L d k≤k
 | 0=>Nat.le_refl _
 | k+1=>by
  have:=Qo L d k
  unfold Qn
  split <;> omega
theorem rk (L:List Int) (m k:Nat):(Fl L m k).length=m:=by simp [Fl]
theorem um {L:List Int} {m k d:Nat} (h:d<m):nth (Fl L m k) d=((Qn L ((d:Nat):Int) k:Nat):Int):=by
 rw [av (by rw [rk];exact h)]
 simp [Fl]
theorem Qp (L:List Int) (m:Nat):Fl L m 0=List.replicate m 0:=by
 refine List.ext_getElem (by simp [Fl]) fun i h1 h2=>?_
 simp [Fl,Qn]
theorem Qq {L:List Int} {m k d:Nat} (hd:nth L k=(d:Nat)) (hm:d<m):Fl L m (k+1)=(Fl L m k).set d (nth (Fl L m k) d+1):=by
 refine EY (by simp [Fl]) fun v hv=>?_
 rw [rk] at hv
 rw [um hv,nO (by rw [rk];exact hm),um hv,um hm]
 show (((Qn L ((v:Nat):Int) k+if nth L k=((v:Nat):Int) then 1 else 0:Nat)):Int)=_
 rw [hd]
 by_cases e:d=v
 ·subst e
  rw [if_pos rfl,if_pos rfl]
  omega
 ·rw [if_neg xj,if_neg e]
  omega
def pI (L:List Int):Nat→Int
 | 0=>nth L 0
 | k+1=>max (pI L k) (nth L k)
theorem BP {L:List Int} {i:Nat}:∀ {k:Nat},i<k→nth L i≤pI L k
 | 0,h=>absurd h (Nat.not_lt_zero _)
 | k+1,h=>by
  show nth L i≤max (pI L k) (nth L k)
  rcases Nat.lt_or_ge i k with c|c
  ·have:=BP (L:=L) (i:=i) (k:=k) c
   omega
  ·rw [show i=k by omega]
   omega
theorem BQ {L:List Int}:∀ k:Nat,0<L.length→k≤L.length→∃ i,i<L.length∧pI L k=nth L i
 | 0,h,_=>⟨0,h,rfl⟩
 | k+1,h,hk=>by
  obtain ⟨i,hi,e⟩:=BQ k h xj
  show ∃ i,i<L.length∧max (pI L k) (nth L k)=nth L i
  rcases Int.le_total (pI L k) (nth L k) with c|c
  ·exact ⟨k,by omega,by omega⟩
  ·exact ⟨i,hi,by omega⟩
def m7 (E:List Ed):Nat→Int
 | 0=>0
 | k+1=>m7 E k+(nth E k).w
def kJ (E:List Ed):Nat→Int
 | 0=>0
 | k+1=>kJ E k+if (nth E k).f=(nth E k).k then 0 else (nth E k).w
theorem JE {E:List Ed}:∀ k,(∀ i,i<k→0≤(nth E i).w∧(nth E i).w≤2147483648)→0≤m7 E k∧m7 E k≤2147483648*(k:Nat)
 | 0,_=>by simp [m7]
 | k+1,h=>by
  have ih:=JE k fun i hi=>h i xj
  have:=h k xj
  unfold m7
  omega
theorem JF {E:List Ed}:∀ k,(∀ i,i<k→0≤(nth E i).w∧(nth E i).w≤2147483648)→0≤kJ E k∧kJ E k≤2147483648*(k:Nat)
 | 0,_=>by simp [kJ]
 | k+1,h=>by
  have ih:=JF k fun i hi=>h i xj
  have:=h k xj
  unfold kJ
  split <;> omega
theorem LL {L M:List Int} {k:Nat} (h:∀ i,i<k→nth L i=nth M i) (hk:nth L k=nth M k):∀ i,i<k+1→nth L i=nth M i:=fun i hi=>by
 rcases Nat.lt_or_ge i k with h1|h1
 ·exact h i h1
 ·obtain rfl:i=k:=by omega
  exact hk
theorem nW {L M:List Int} (hl:L.length=M.length) (h:∀ i,i<L.length→nth L i=nth M i):L=M :=
 List.ext_getElem hl fun i h1 h2=>by rw [← av h1,← av h2];exact h i h1
theorem Y6 (A B:Option Addr) (n c m d:Nat) (L M:List Int) (w:World) (hA:gn [] w A n 1 (L.flatMap R.cI)) (hn:n=L.length) (hnb:n≤9223372036854775807) (hB:gn [] w B m 1 (M.flatMap R.cI)) (hm:m=M.length):Calls Tryz.prog 11 #[.slice A n c,.slice B m d] w fun e w'=>e=.returned (.bool (decide (L=M)))∧Below w.heap.size w w':=by
 have hM:=R.Own.start [] w
 by_cases hl:n=m
 ·refine aa (fn:=Tryz.f11) Tryz.func11 rfl Tryz.ntmps11 (Nat.le_of_ble_eq_true rfl) ?_
  (refine ak ?_;(repeat' first|refine And.intro ?_ ?_|intro _);all_goals refine ah.mk ?_)
  refine au (fun k:Nat=>[(0,.slice A n c),(1,.slice B m d),(4,.bool false),(5,.int .i64 (k:Nat))])
   (fun k w2=>k≤n∧R.Own [] w w2 []∧∀ i,i<k→nth L i=nth M i) (fun k=>n-k) ⟨0,⟨rfl,rfl,rfl,rfl,trivial⟩,by omega,hM,fun i hi=>absurd hi (Nat.not_lt_zero _)⟩ ?_
  clear hM
  rintro k f w2 ⟨hk,hM,hall⟩
  by_cases hlt:k<n
  ·(refine ak ?_;(repeat' first|refine And.intro ?_ ?_|intro _);all_goals refine ah.mk ?_)
   ·have h:nth L k≠nth M k:=by assumption
    rw [decide_eq_false (fun g:L=M=>h (by rw [g]))]
    exact ⟨rfl,R.Own.below ww⟩
   ·have h:¬ nth L k≠nth M k:=by assumption
    exact ⟨k+1,⟨rfl,rfl,rfl,aF rfl xj,trivial⟩,⟨by omega,by assumption,LL hall (by simpa using h)⟩,by omega⟩
  ·obtain rfl:k=n:=by omega
   (refine ak ?_;(repeat' first|refine And.intro ?_ ?_|intro _);all_goals refine ah.mk ?_)
   rw [decide_eq_true (nW xj (by rw [← hn];exact hall))]
   exact ⟨rfl,R.Own.below ww⟩
 ·rw [decide_eq_false (fun g:L=M=>hl (by rw [hn,hm,g]))]
  refine aa (fn:=Tryz.f11) Tryz.func11 rfl Tryz.ntmps11 (Nat.le_of_ble_eq_true rfl) ?_
  (refine ak ?_;(repeat' first|refine And.intro ?_ ?_|intro _);all_goals refine ah.mk ?_)
  all_goals first
   | exact ⟨rfl,R.Own.below ww⟩
   | (exfalso;omega)
theorem bq1 {a b:Bool} {p:Prop} (h:decide (a=b)=true) (q:(!(a == b))=true):p:=by cases a <;> cases b <;> simp at h q
theorem bq2 {a b:Bool} {p:Prop} (h:decide (a=b)=false) (q:(!(a == b))=false):p:=by cases a <;> cases b <;> simp at h q
theorem Vd {x:Nt} {i:Nat} (h:tE x=true) (hi:i<x.e.n):∃ a b:Nat,(nth x.e.L i).a=(a:Nat)∧(nth x.e.L i).b=(b:Nat)∧a≠b∧a<x.s.n∧b<x.s.n:=by
 obtain ⟨h1,h2,h3,_⟩:=(nE.1 h).2.2.2.2.1 i hi
 exact ⟨(nth x.e.L i).a.toNat,(nth x.e.L i).b.toNat,by omega,by omega,by omega,by omega,by omega⟩
theorem BR {x:Nt} {i:Nat} (h:tE x=true) (hi:i<x.e.n):0≤(nth x.e.L i).w∧(nth x.e.L i).w≤2147483648:=((nE.1 h).2.2.2.2.1 i hi).2.2.2.1
theorem EZ {w:World} {A:Option Addr} {n c sz:Nat} {e:TypeId} {cs:List Value} (h:w.ownsRow 0 e sz (.slice A n c) n cs) (hn:0<n):∃ g,A=some ⟨g,0,none⟩:=by
 rcases h.2 with ⟨hv,h0⟩|⟨g,cap,cur,hv,_,h1,h2,h3,h4,h5⟩
 ·omega
 ·injection hv with a1 a2 a3
  exact ⟨g,a1⟩
section
variable (x:Nt) (w:World) (hG:JW w x)
include hG
set_option maxHeartbeats 4000000 in
theorem Ve (hb:tE x=true):Calls Tryz.prog 25 #[.agg (L2 x).toArray] w fun e w'=>∃ A c,e=.returned (.tuple #[.slice A x.s.n c,.int .i64 0])∧iV w w' A x.s.n c 3 1 ((ec x.e.L x.s.n x.e.n).flatMap R.cI):=by
 have hM:=R.Own.start [] w
 have hL:=hG.Df
 have hk:=Gh hb
 have hsn:x.s.n≤200000:=(nE.1 hb).1
 obtain ⟨⟨s1,s2,s3,-⟩,⟨h1,h2,h3,-⟩,-⟩:=hG
 refine aa (fn:=Tryz.f25) Tryz.func25 rfl Tryz.ntmps25 (Nat.le_of_ble_eq_true rfl) ?_
 (refine ak ?_;(repeat' first|refine And.intro ?_ ?_|intro _);all_goals refine ah.mk ?_)
 ·exact VL hb ww
 rename_i A _ hM
 refine au (fun k:Nat=>[(2,.slice none 0 0),(3,.int .i64 0),(4,.slice A x.s.n x.s.n),(15,.slice x.e.A x.e.n x.e.c),(16,.int .i64 (x.e.n:Nat)),(17,.int .i64 (k:Nat))])
  (fun k w2=>k≤x.e.n∧R.Own [] w w2 [.row A x.s.n x.s.n 3 1 ((ec x.e.L x.s.n k).flatMap R.cI)]) (fun k=>x.e.n-k)
  ⟨0,⟨rfl,rfl,rfl,rfl,rfl,rfl,trivial⟩,Nat.zero_le _,by rw [LJ];exact R.Own.sub hM (List.sublist_append_left [_] _)⟩ ?_
 clear hM
 rintro k f w2 ⟨hkn,hM⟩
 by_cases hlt:k<x.e.n
 ·obtain ⟨a,b,ha,hb2,hab,ham,hbm⟩:=Vd hb hlt
  obtain ⟨gA,rfl⟩:=EZ (R.Own.ok hM _ (.head _)) xj
  have hat:(nth x.e.L k).a.toNat=a:=by omega
  have hbt:(nth x.e.L k).b.toNat=b:=by omega
  have hdl:=i7 x.e.L x.s.n k
  have c1:=uk x.e.L a k
  have c2:=uk x.e.L b k
  have d1:nth (ec x.e.L x.s.n k) (nth x.e.L k).a.toNat=((pH x.e.L a k:Nat):Int):=by rw [hat,kp ham]
  have d2:nth ((ec x.e.L x.s.n k).set (nth x.e.L k).a.toNat (nth (ec x.e.L x.s.n k) (nth x.e.L k).a.toNat+1)) (nth x.e.L k).b.toNat=((pH x.e.L b k:Nat):Int):=by
   rw [hat,hbt,nO xj,if_neg hab,kp hbm]
  have hl2:((ec x.e.L x.s.n k).set (nth x.e.L k).a.toNat (nth (ec x.e.L x.s.n k) (nth x.e.L k).a.toNat+1)).length=x.s.n:=by rw [List.length_set,hdl]
  (refine ak ?_;(repeat' first|refine And.intro ?_ ?_|intro _);all_goals refine ah.mk ?_)
  rename_i hM
  rw [hat,hbt,← LK ha hb2 hab ham hbm] at hM
  exact ⟨k+1,⟨rfl,rfl,rfl,rfl,rfl,aF rfl xj,trivial⟩,⟨by omega,R.Own.tl hM⟩,by omega⟩
 ·obtain rfl:k=x.e.n:=by omega
  (refine ak ?_;(repeat' first|refine And.intro ?_ ?_|intro _);all_goals refine ah.mk ?_)
  exact ⟨_,_,rfl,R.Own.gives ww⟩
end
section
variable (x:Nt) (w:World) (hG:JW w x)
include hG
set_option maxHeartbeats 2000000 in
theorem wJ (hb:tE x=true):Calls Tryz.prog 10 #[.agg (L2 x).toArray] w fun e w'=>e=.returned (.tuple #[.int .i64 (m7 x.e.L x.e.n),.int .i64 (kJ x.e.L x.e.n),.int .i64 0])∧Below w.heap.size w w':=by
 have hM:=R.Own.start [] w
 have hL:=hG.Df
 have hk:=Gh hb
 obtain ⟨-,⟨h1,h2,h3,-⟩,-⟩:=hG
 refine aa (fn:=Tryz.f10) Tryz.func10 rfl Tryz.ntmps10 (Nat.le_of_ble_eq_true rfl) ?_
 (refine ak ?_;(repeat' first|refine And.intro ?_ ?_|intro _);all_goals refine ah.mk ?_)
 ·exact VL hb ww
 rename_i hM
 refine au (fun k:Nat=>[(2,.int .i64 (m7 x.e.L k)),(3,.int .i64 (kJ x.e.L k)),(4,.int .i64 0),(11,.slice x.e.A x.e.n x.e.c),(12,.int .i64 (x.e.n:Nat)),(13,.int .i64 (k:Nat))])
  (fun k w2=>k≤x.e.n∧R.Own [] w w2 []) (fun k=>x.e.n-k) ⟨0,⟨rfl,rfl,rfl,rfl,rfl,rfl,trivial⟩,Nat.zero_le _,R.Own.KU aj⟩ ?_
 clear hM
 rintro k f w2 ⟨hkn,hM⟩
 by_cases hlt:k<x.e.n
 ·have hw:=BR hb hlt
  have b1:=JE (E:=x.e.L) k fun i hi=>BR hb xj
  have b2:=JF (E:=x.e.L) k fun i hi=>BR hb xj
  have e1:m7 x.e.L (k+1)=m7 x.e.L k+(nth x.e.L k).w:=rfl
  cases hf:decide ((nth x.e.L k).f=(nth x.e.L k).k) with
  | true =>
   have e2:kJ x.e.L (k+1)=kJ x.e.L k:=by
    show kJ x.e.L k+(if _ then 0 else _)=_
    rw [if_pos (of_decide_eq_true hf)]
    omega
   (refine ak ?_;(repeat' first|refine And.intro ?_ ?_|intro _);all_goals refine ah.mk ?_)
   ·exact bq1 hf ww
   ·exact ⟨k+1,⟨aF rfl (by rw [e1]),aF rfl (by rw [e2]),rfl,rfl,rfl,aF rfl xj,trivial⟩,⟨by omega,R.Own.KU ww⟩,by omega⟩
  | false =>
   have e2:kJ x.e.L (k+1)=kJ x.e.L k+(nth x.e.L k).w:=by
    show kJ x.e.L k+(if _ then 0 else _)=_
    rw [if_neg (of_decide_eq_false hf)]
   (refine ak ?_;(repeat' first|refine And.intro ?_ ?_|intro _);all_goals refine ah.mk ?_)
   ·exact ⟨k+1,⟨aF rfl (by rw [e1]),aF rfl (by rw [e2]),rfl,rfl,rfl,aF rfl xj,trivial⟩,⟨by omega,R.Own.KU ww⟩,by omega⟩
   ·exact bq2 hf ww
 ·obtain rfl:k=x.e.n:=by omega
  (refine ak ?_;(repeat' first|refine And.intro ?_ ?_|intro _);all_goals refine ah.mk ?_)
  exact ⟨rfl,R.Own.below ww⟩
end
end
section
theorem Vf (A:Option Addr) (n c:Nat) (L:List Int) (w:World) (hA:gn [] w A n 1 (L.flatMap R.cI)) (hn:n=L.length) (hb:n≤1000000) (h0:0<n):Calls Tryz.prog 26 #[.slice A n c] w fun e w'=>e=.returned (.int .i64 (pI L n))∧Below w.heap.size w w':=by
 have hM:=R.Own.start [] w
 have hm1:pI L 1=nth L 0:=by show max (nth L 0) (nth L 0)=_;omega
 refine aa (fn:=Tryz.f26) Tryz.func26 rfl Tryz.ntmps26 (Nat.le_of_ble_eq_true rfl) ?_
 (refine ak ?_;(repeat' first|refine And.intro ?_ ?_|intro _);all_goals refine ah.mk ?_)
 all_goals first
  | (exfalso;omega)
  | skip
 refine au (fun k:Nat=>[(0,.slice A n c),(2,.int .i64 0),(3,.int .i64 (pI L (k+1))),(4,.int .i64 ((k+1:Nat):Int))])
  (fun k w2=>k+1≤n∧R.Own [] w w2 []) (fun k=>n-k) ⟨0,⟨rfl,rfl,aF rfl (by rw [hm1];rfl),aF rfl xj,trivial⟩,by omega,R.Own.KU aj⟩ ?_
 clear hM
 rintro k f w2 ⟨hk,hM⟩
 by_cases hlt:k+1<n
 ·(refine ak ?_;(repeat' first|refine And.intro ?_ ?_|intro _);all_goals refine ah.mk ?_)
  exact ⟨k+1,⟨rfl,rfl,aF rfl rfl,aF rfl xj,trivial⟩,⟨by omega,aj⟩,by omega⟩
 ·obtain rfl:n=k+1:=by omega
  (refine ak ?_;(repeat' first|refine And.intro ?_ ?_|intro _);all_goals refine ah.mk ?_)
  exact ⟨rfl,R.Own.below ww⟩
def pJ (D:List Int):Nat:=if D.length=0 then 0 else (pI D D.length).toNat+1
def i9 (D:List Int):List Int:=Fl D (pJ D) D.length
theorem JG {D:List Int} {b:Nat} (h:∀ i,i<D.length→0≤nth D i∧nth D i≤(b:Nat)):pJ D≤b+1∧(0<D.length→((pJ D:Nat):Int)=pI D D.length+1∧0≤pI D D.length∧pI D D.length≤(b:Nat)):=by
 unfold pJ
 by_cases e:D.length=0
 ·rw [if_pos e]
  exact ⟨Nat.zero_le _,fun h=>by omega⟩
 ·obtain ⟨i,hi,q⟩:=BQ (L:=D) D.length xj (Nat.le_refl _)
  have:=h i hi
  rw [if_neg e]
  exact ⟨by omega,fun _=>by omega⟩
theorem E0 {D:List Int} {b d:Nat} (h:∀ i,i<D.length→0≤nth D i∧nth D i≤(b:Nat)):(∃ u,u<D.length∧((d:Nat):Int)≤nth D u)↔d<pJ D:=by
 obtain ⟨h1,h2⟩:=JG h
 constructor
 ·rintro ⟨u,hu,q⟩
  have:=BP (L:=D) (k:=D.length) hu
  have:=h2 xj
  omega
 ·intro hd
  have hl:0<D.length:=by
   rcases Nat.eq_zero_or_pos D.length with e|e
   ·unfold pJ at hd
    rw [if_pos e] at hd
    omega
   ·exact e
  obtain ⟨i,hi,q⟩:=BQ (L:=D) D.length hl (Nat.le_refl _)
  have:=h2 hl
  exact ⟨i,hi,by omega⟩
theorem Hv (E:List Ed) (m k:Nat):∀ i,i<(ec E m k).length→0≤nth (ec E m k) i∧nth (ec E m k) i≤(k:Nat):=fun i hi=>by
 rw [i7] at hi
 rw [kp hi]
 have:=uk E i k
 omega
section
variable (x:Nt) (w:World) (hG:JW w x)
include hG
set_option maxHeartbeats 4000000 in
theorem wK (hb:tE x=true):Calls Tryz.prog 9 #[.agg (L2 x).toArray] w fun e w'=>∃ A c,e=.returned (.tuple #[.slice A (i9 (ec x.e.L x.s.n x.e.n)).length c,.int .i64 0])∧iV w w' A (i9 (ec x.e.L x.s.n x.e.n)).length c 3 1 ((i9 (ec x.e.L x.s.n x.e.n)).flatMap R.cI):=by
 have hM:=R.Own.start [] w
 have hk:=Gh hb
 have hsn:x.s.n≤200000:=(nE.1 hb).1
 refine aa (fn:=Tryz.f9) Tryz.func9 rfl Tryz.ntmps9 (Nat.le_of_ble_eq_true rfl) ?_
 (refine ak ?_;(repeat' first|refine And.intro ?_ ?_|intro _);all_goals refine ah.mk ?_)
 refine aA rfl rfl vv ?_
 refine (Ve x _ (JW.now aj hG) hb).mono ?_
 rintro _ w2 ⟨Al,cl,rfl,hGd⟩
 have hdi:=Hv x.e.L x.s.n x.e.n
 have hdl:=i7 x.e.L x.s.n x.e.n
 obtain ⟨D,hD⟩:∃ D,ec x.e.L x.s.n x.e.n=D:=⟨_,rfl⟩
 rw [hD] at hGd hdi hdl ⊢
 obtain ⟨m1,m2⟩:=JG hdi
 rw [hdl] at m2
 have hM:=R.Own.pv aj hGd
 refine ⟨_,rfl,?_⟩
 by_cases h0:x.s.n=0
 ·have e0:i9 D=[]:=by
   unfold i9 pJ
   rw [if_pos (by omega)]
   rfl
  rw [e0]
  (refine ak ?_;(repeat' first|refine And.intro ?_ ?_|intro _);all_goals refine ah.mk ?_)
  all_goals first
   | exact ⟨none,0,rfl,(R.Own.nil (R.Own.KU aj) _ _).gives⟩
   | (exfalso;omega)
 ·obtain ⟨m3,m4,m5⟩:=m2 xj
  have e0:i9 D=Fl D (pJ D) x.s.n:=by unfold i9;rw [hdl]
  rw [e0,rk]
  (refine ak ?_;(repeat' first|refine And.intro ?_ ?_|intro _);all_goals refine ah.mk ?_)
  refine aA rfl rfl vv ?_
  refine (Vf Al x.s.n cl D _ (R.Own.wW aj bC) hdl.symm xj xj).mono ?_
  rintro _ w3 ⟨rfl,hb3⟩
  have hM:=R.Own.call aj hb3
  refine ⟨_,rfl,?_⟩
  obtain ⟨mx,hmx⟩:∃ mx:Nat,pI D x.s.n=(mx:Nat):=⟨(pI D x.s.n).toNat,by rw [hdl] at *;omega⟩
  have hmc:pJ D=mx+1:=by rw [hdl] at *;omega
  rw [hmx,hmc]
  (refine ak ?_;(repeat' first|refine And.intro ?_ ?_|intro _);all_goals refine ah.mk ?_)
  rename_i Ao _ hM
  refine au (fun k:Nat=>[(2,.slice none 0 0),(3,.int .i64 0),(5,.int .i64 0),(6,.slice Ao (mx+1) (mx+1)),(22,.slice Al x.s.n cl),(23,.int .i64 (x.s.n:Nat)),(24,.int .i64 (k:Nat))])
   (fun k w2=>k≤x.s.n∧R.Own [] w w2 [.row Ao (mx+1) (mx+1) 3 1 ((Fl D (mx+1) k).flatMap R.cI),.row Al x.s.n cl 3 1 (D.flatMap R.cI)]) (fun k=>x.s.n-k)
   ⟨0,⟨rfl,rfl,rfl,rfl,rfl,rfl,rfl,trivial⟩,Nat.zero_le _,by rw [Qp];exact R.Own.sub hM (List.sublist_append_left [_,_] _)⟩ ?_
  clear hM
  rintro k f w4 ⟨hkn,hM⟩
  by_cases hlt:k<x.s.n
  ·have hdk:=hdi k xj
   have hge:=BP (L:=D) (i:=k) (k:=x.s.n) hlt
   rw [hmx] at hge
   obtain ⟨d,hd⟩:∃ d:Nat,nth D k=(d:Nat):=⟨(nth D k).toNat,by omega⟩
   have hdt:(nth D k).toNat=d:=by omega
   obtain ⟨gA,rfl⟩:=EZ (R.Own.ok hM _ (.head _)) xj
   have hcl:=rk D (mx+1) k
   have c1:=Qo D ((d:Nat):Int) k
   have d1:nth (Fl D (mx+1) k) (nth D k).toNat=((Qn D ((d:Nat):Int) k:Nat):Int):=by rw [hdt,um (by omega)]
   (refine ak ?_;(repeat' first|refine And.intro ?_ ?_|intro _);all_goals refine ah.mk ?_)
   rename_i hM
   rw [hdt,← Qq hd (by omega)] at hM
   exact ⟨k+1,⟨rfl,rfl,rfl,rfl,rfl,rfl,aF rfl xj,trivial⟩,⟨by omega,hM⟩,by omega⟩
  ·obtain rfl:k=x.s.n:=by omega
   (refine ak ?_;(repeat' first|refine And.intro ?_ ?_|intro _);all_goals refine ah.mk ?_)
   exact ⟨_,_,rfl,R.Own.gives aj⟩
end
end
theorem JH (E:List Ed) (v:Nat):∀ k,k≤E.length→pH E v k=(E.take k).countP fun e:Ed=>decide (e.a=((v:Nat):Int)∨e.b=((v:Nat):Int))
 | 0,_=>rfl
 | k+1,h=>by
  rw [List.take_succ_eq_append_getElem xj,List.countP_append,← JH E v k xj,← av (by omega)]
  show pH E v k+_=_
  rw [List.countP_cons,List.countP_nil]
  simp
theorem E1 (E:List Ed) (v:Nat):pH E v E.length=E.countP fun e:Ed=>decide (e.a=((v:Nat):Int)∨e.b=((v:Nat):Int)):=by
 rw [JH E v _ (Nat.le_refl _),List.take_length]
theorem JI (E:List Ed):∀ k,k≤E.length→m7 E k=((E.take k).map (·.w)).sum
 | 0,_=>rfl
 | k+1,h=>by
  rw [List.take_succ_eq_append_getElem xj,List.map_append,List.sum_append,← JI E k xj,← av (by omega)]
  show m7 E k+_=_
  simp
theorem E3 (E:List Ed):m7 E E.length=(E.map (·.w)).sum:=by rw [JI E _ (Nat.le_refl _),List.take_length]
theorem JJ (E:List Ed):∀ k,k≤E.length→kJ E k=((E.take k).map fun e=>if e.f=e.k then 0 else e.w).sum
 | 0,_=>rfl
 | k+1,h=>by
  rw [List.take_succ_eq_append_getElem xj,List.map_append,List.sum_append,← JJ E k xj,← av (by omega)]
  show kJ E k+_=_
  simp
theorem E4 (E:List Ed):kJ E E.length=(E.map fun e=>if e.f=e.k then 0 else e.w).sum:=by rw [JJ E _ (Nat.le_refl _),List.take_length]
theorem Qr (L:List Int) (d:Int):∀ k,k≤L.length→Qn L d k=(L.take k).countP fun x=>decide (x=d)
 | 0,_=>rfl
 | k+1,h=>by
  rw [List.take_succ_eq_append_getElem xj,List.countP_append,← Qr L d k xj,← av (by omega)]
  show Qn L d k+_=_
  rw [List.countP_cons,List.countP_nil]
  simp
theorem JK (L:List Int) (d:Int):Qn L d L.length=L.countP fun x=>decide (x=d):=by rw [Qr L d _ (Nat.le_refl _),List.take_length]
theorem LM {D D':List Int} (h:D'.Perm D) {b b':Nat} (hb:∀ i,i<D.length→0≤nth D i∧nth D i≤(b:Nat)) (hb':∀ i,i<D'.length→0≤nth D' i∧nth D' i≤(b':Nat)):pJ D'=pJ D:=by
 have key:∀ d:Nat,d<pJ D'↔d<pJ D:=fun d=>by
  rw [← E0 hb,← E0 hb']
  have sub:∀ {D D':List Int},D'.Perm D→(∃ u,u<D'.length∧((d:Nat):Int)≤nth D' u)→∃ u,u<D.length∧((d:Nat):Int)≤nth D u:=fun {D D'} h ⟨u,hu,hd⟩=>by
   rw [av hu] at hd
   obtain ⟨v,hv,e⟩:=List.getElem_of_mem (h.mem_iff.1 (List.getElem_mem hu))
   exact ⟨v,hv,by rw [av hv,e];exact hd⟩
  exact ⟨sub h,sub h.symm⟩
 have h1:=key (pJ D)
 have h2:=key (pJ D')
 omega
theorem Hw {D D':List Int} (h:D'.Perm D) {b b':Nat} (hb:∀ i,i<D.length→0≤nth D i∧nth D i≤(b:Nat)) (hb':∀ i,i<D'.length→0≤nth D' i∧nth D' i≤(b':Nat)):i9 D'=i9 D:=by
 unfold i9 Fl
 rw [LM h hb hb']
 refine List.map_congr_left fun d _=>?_
 rw [JK,JK,h.countP_eq]
structure Tnd (m:Nat) (E E':List Ed) (p:Nat→Nat) (q:Ed→Ed):Prop where
 inj:∀ u v,u<m→v<m→p u=p v→u=v
 lt:∀ v,v<m→p v<m
 perm:E'.Perm (E.map q)
 ends:∀ e∈E,∃ a b,a<m∧b<m∧e.a=(a:Nat)∧e.b=(b:Nat)∧(((q e).a=(p a:Nat)∧(q e).b=(p b:Nat))∨((q e).a=(p b:Nat)∧(q e).b=(p a:Nat)))
 w:∀ e∈E,(q e).w=e.w
 way:∀ e∈E,(q e).f=(q e).k↔e.f=e.k
theorem Hx {m:Nat} {p:Nat→Nat} (inj:∀ u v,u<m→v<m→p u=p v→u=v) (lt:∀ v,v<m→p v<m):((List.range m).map p).Perm (List.range m):=by
 have hn:((List.range m).map p).Nodup:=List.pairwise_map.2 ((List.nodup_range (n:=m)).imp_of_mem fun {u v} hu hv hne e=>hne (inj u v (List.mem_range.1 hu) (List.mem_range.1 hv) e))
 have hsub:∀ x∈(List.range m).map p,x∈List.range m:=fun x hx=>by
  obtain ⟨v,hv,rfl⟩:=List.mem_map.1 hx
  exact List.mem_range.2 (lt v (List.mem_range.1 hv))
 refine (List.perm_ext_iff_of_nodup hn List.nodup_range).2 fun x=>⟨hsub x,fun hx=>Classical.byContradiction fun hno=>?_⟩
 have:=(List.nodup_cons.2 ⟨hno,hn⟩).length_le_of_subset (l₂:=List.range m) fun y hy=>by
  rcases List.mem_cons.1 hy with rfl|hy
  ·exact hx
  ·exact hsub y hy
 simp at this
 omega
theorem yz {l l':List Int} (h:l.Perm l'):l.sum=l'.sum:=by
 induction h with
 | nil=>rfl
 | cons x _ ih=>rw [List.sum_cons,List.sum_cons,ih]
 | swap x y l=>simp only [List.sum_cons];omega
 | trans _ _ h1 h2=>exact h1.trans h2
theorem Tnd.same {m:Nat} {E E':List Ed} {p:Nat→Nat} {q:Ed→Ed} (h:Tnd m E E' p q):E'.length=E.length∧m7 E' E'.length=m7 E E.length∧kJ E' E'.length=kJ E E.length∧i9 (ec E' m E'.length)=i9 (ec E m E.length):=by
 refine ⟨by rw [h.perm.length_eq,List.length_map],?_,?_,?_⟩
 ·rw [E3,E3,yz (h.perm.map _),List.map_map]
  exact congrArg List.sum (List.map_congr_left fun e he=>h.w e he)
 ·rw [E4,E4,yz (h.perm.map _),List.map_map]
  refine congrArg List.sum (List.map_congr_left fun e he=>?_)
  show (if (q e).f=(q e).k then 0 else (q e).w)=_
  by_cases c:e.f=e.k
  ·rw [if_pos c,if_pos ((h.way e he).2 c)]
  ·rw [if_neg c,if_neg (fun k=>c ((h.way e he).1 k)),h.w e he]
 ·have hd:(ec E' m E'.length).Perm (ec E m E.length):=by
   have h1:ec E m E.length=((List.range m).map p).map fun v=>((pH E' v E'.length:Nat):Int):=by
    unfold ec
    rw [List.map_map]
    refine List.map_congr_left fun v hv=>?_
    show ((pH E v E.length:Nat):Int)=((pH E' (p v) E'.length:Nat):Int)
    rw [E1,E1,h.perm.countP_eq,List.countP_map]
    refine congrArg _ (List.countP_congr fun e he=>?_)
    obtain ⟨a,b,ha,hb,e1,e2,e3⟩:=h.ends e he
    have hv:=List.mem_range.1 hv
    have i1:=h.inj a v ha hv
    have i2:=h.inj b v hb hv
    have i3:a=v→p a=p v:=congrArg p
    have i4:b=v→p b=p v:=congrArg p
    simp only [Function.comp,decide_eq_true_eq]
    omega
   rw [h1]
   unfold ec
   exact ((Hx h.inj h.lt).map _).symm
  exact Hw hd (Hv E m E.length) (Hv E' m E'.length)
end Go.Proofs.YtlmabdegojeheaaGreatDoor
