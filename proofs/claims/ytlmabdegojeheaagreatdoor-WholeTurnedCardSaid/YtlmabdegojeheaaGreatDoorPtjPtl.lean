/- WholeTurned: parts of its proof (Ptj Ptk Ut Zk Ptl). -/
import Derived.Test.YtlmabdegojeheaaGreatDoorPtePti
import Derived.Test.YtlmabdegojeheaaGreatDoorZiSk
import Derived.Test.YtlmabdegojeheaaGreatDoorUsPta
import Derived.Test.YtlmabdegojeheaaGreatDoorZbZh
import Derived.Test.YtlmabdegojeheaaGreatDoorZfNt
namespace Go.Proofs.YtlmabdegojeheaaGreatDoor
open R Go.RowKit
theorem Dy {a b c:Pt} (ha:bL a) (hb:bL b) (hc:bL c):ao (b9 a b c):=by
 obtain ⟨h1,h2⟩:=sb ha hb
 obtain ⟨h3,h4⟩:=sb ha hc
 have m1:=oz h1 h3
 have m2:=oz h2 h4
 rw [N6]
 exact ⟨by omega,by omega⟩
attribute [local irreducible] aq oT dx aR kA b9 bT in
set_option maxHeartbeats 4000000 in
theorem Dz (s:bJ) (p:Pt) (w:World) (hs:aK s) (hp:bL p) (h:kA s p):Calls Tryz.prog 65 #[.agg (bD s).toArray,.agg (cr p).toArray] w fun e w'=>e=.returned (.tuple #[.agg (eO (bT s (b9 s.a s.b p) (b9 s.a s.b s.b))).toArray,.int .i64 0])∧Below w.heap.size w w':=by
 have hM:=R.Own.start [] w
 have j:=AF hs hp h
 have h1:=hs.1
 have h2:=hs.2.1
 have d1:=Dy hs.1 hs.2.1 hp
 have d2:=Dy hs.1 hs.2.1 hs.2.1
 refine aa (fn:=Tryz.f65) Tryz.func65 rfl Tryz.ntmps65 (Nat.le_of_ble_eq_true rfl) ?_
 (refine ad ?_;(repeat' first|refine And.intro ?_ ?_|intro _);all_goals refine ah.mk ?_)
 refine bB [(0,false),(1,false),(2,false),(3,false),(4,false),(5,false),(7,false),(8,false),(9,false),(10,false),(6,true),(11,true),(12,true),(13,true),(14,false)] R.mixed wx aj ?_
 (refine ad ?_;(repeat' first|refine And.intro ?_ ?_|intro _);all_goals refine ah.mk ?_;(all_goals (try (exact ⟨rfl,R.Own.below ww⟩))))
instance acI:cA eO 28:=⟨fun _=>rfl,fun c v hv=>by
 rcases List.mem_append.1 hv with h|h
 ·rcases List.mem_cons.1 h with rfl|h
  ·rfl
  ·cases List.mem_singleton.1 h
   rfl
 ·exact cA.one (enc:=bF) c.s v h,by decide⟩
instance acJ:iU Tryz.prog 115 Ct eO 28:={}
attribute [local irreducible] aq oT dx aR kA b9 bT in
set_option maxHeartbeats 4000000 in
theorem Tz (s:bJ) (w:World) (hs:aK s):Calls Tryz.prog 35 #[.agg (bD s).toArray] w fun e w'=>∃ A c,e=.returned (.slice A 2 c)∧iV w w' A 2 c 115 28 ([bT s 0 1,bT s 1 1].flatMap eO):=by
 have hM:=R.Own.start [] w
 refine aa (fn:=Tryz.f35) Tryz.func35 rfl Tryz.ntmps35 (Nat.le_of_ble_eq_true rfl) ?_
 (refine ad ?_;(repeat' first|refine And.intro ?_ ?_|intro _);all_goals refine ah.mk ?_)
 refine bB [(0,false),(2,false),(1,true),(3,true),(4,true),(5,false)] R.mixed wx aj ?_
 (refine ad ?_;(repeat' first|refine And.intro ?_ ?_|intro _);all_goals refine ah.mk ?_)
 rename_i hM
 exact ⟨_,_,rfl,hM.gives⟩
section
open Go Go.Sort Go.RowKit
def Fk (x:Bo):List Value:=[.int .i64 x.lx,.int .i64 x.ly,.int .i64 x.hx,.int .i64 x.hy,.int .i64 x.k]
instance acZ:cA Fk 5:=⟨fun _=>rfl,by simp [Fk,Value.oneCell'],by decide⟩
instance ac0:iU Tryz.prog 146 Bo Fk 5:={}
theorem UM (p:Pt→Prop) (cf:Pt→Pt→Int) (irr:∀ x,p x→¬ cf x x<0) (tr:∀ x y z,p x→p y→p z→cf x y<0→cf y z<0→cf x z<0) (ntr:∀ x y z,p x→p y→p z→¬ cf x y<0→¬ cf y z<0→¬ cf x z<0)
  (g:Nat) [hg:ab Tryz.prog g] (cb:List Value) {F:List Nat} {W w:World} {l:List bX} {A:Option Addr} {c e n:Nat} (D:List Pt) (hD:n=D.length) (hp:∀ x∈D,p x) (hM:R.Own F W w (.row A n c e 2 (D.flatMap cr)::l)) (hn:n<4611686018427387904)
  (hcmp:∀ w',R.Own F W w' l→∀ x y,p x→p y→Calls Tryz.prog g ([Value.agg (cr x).toArray,Value.agg (cr y).toArray]++cb).toArray w' fun r w''=>r=.returned (.int .i64 (cf x y))∧Below w'.heap.size w' w'') :
  Calls Tryz.prog 227 #[.slice A n c,.func (.func g) #[] cb.toArray] w fun r w'=>r=.returned (.tuple #[])∧∃ D':List Pt,D'.Perm D∧(D'.Pairwise fun x y=>¬ cf y x<0)∧R.Own F W w' (.row A n c e 2 (D'.flatMap cr)::l):=by
 subst hD
 have h:=lW p Tryz.YR 2 Tryz.isAgg32 Tryz.sizeOf32 cr (fun x=>cA.len x) (fun x v hv=>cA.one x v hv) cf irr tr ntr g cb.toArray (aM hg) D hp hM hn (fun w' hO x y hx hy=>by
  have:=hcmp w' hO x y hx hy
  simpa using this)
 refine h.mono fun r w' hr=>?_
 obtain ⟨rfl,D',h1,h2,h3⟩:=hr
 exact ⟨rfl,D',h1,h2,by rw [h1.length_eq] at h3;exact h3⟩
theorem UN (p:Ct→Prop) (cf:Ct→Ct→Int) (irr:∀ x,p x→¬ cf x x<0) (tr:∀ x y z,p x→p y→p z→cf x y<0→cf y z<0→cf x z<0) (ntr:∀ x y z,p x→p y→p z→¬ cf x y<0→¬ cf y z<0→¬ cf x z<0)
  (g:Nat) [hg:ab Tryz.prog g] (cb:List Value) {F:List Nat} {W w:World} {l:List bX} {A:Option Addr} {c e n:Nat} (D:List Ct) (hD:n=D.length) (hp:∀ x∈D,p x) (hM:R.Own F W w (.row A n c e 28 (D.flatMap eO)::l)) (hn:n<4611686018427387904)
  (hcmp:∀ w',R.Own F W w' l→∀ x y,p x→p y→Calls Tryz.prog g ([Value.agg (eO x).toArray,Value.agg (eO y).toArray]++cb).toArray w' fun r w''=>r=.returned (.int .i64 (cf x y))∧Below w'.heap.size w' w'') :
  Calls Tryz.prog 66 #[.slice A n c,.func (.func g) #[] cb.toArray] w fun r w'=>r=.returned (.tuple #[])∧∃ D':List Ct,D'.Perm D∧(D'.Pairwise fun x y=>¬ cf y x<0)∧R.Own F W w' (.row A n c e 28 (D'.flatMap eO)::l):=by
 subst hD
 have h:=lW p Tryz.UK 28 Tryz.isAgg115 Tryz.sizeOf115 eO (fun x=>cA.len x) (fun x v hv=>cA.one x v hv) cf irr tr ntr g cb.toArray (aM hg) D hp hM hn (fun w' hO x y hx hy=>by
  have:=hcmp w' hO x y hx hy
  simpa using this)
 refine h.mono fun r w' hr=>?_
 obtain ⟨rfl,D',h1,h2,h3⟩:=hr
 exact ⟨rfl,D',h1,h2,by rw [h1.length_eq] at h3;exact h3⟩
theorem UO (p:Bo→Prop) (cf:Bo→Bo→Int) (irr:∀ x,p x→¬ cf x x<0) (tr:∀ x y z,p x→p y→p z→cf x y<0→cf y z<0→cf x z<0) (ntr:∀ x y z,p x→p y→p z→¬ cf x y<0→¬ cf y z<0→¬ cf x z<0)
  (g:Nat) [hg:ab Tryz.prog g] (cb:List Value) {F:List Nat} {W w:World} {l:List bX} {A:Option Addr} {c e n:Nat} (D:List Bo) (hD:n=D.length) (hp:∀ x∈D,p x) (hM:R.Own F W w (.row A n c e 5 (D.flatMap Fk)::l)) (hn:n<4611686018427387904)
  (hcmp:∀ w',R.Own F W w' l→∀ x y,p x→p y→Calls Tryz.prog g ([Value.agg (Fk x).toArray,Value.agg (Fk y).toArray]++cb).toArray w' fun r w''=>r=.returned (.int .i64 (cf x y))∧Below w'.heap.size w' w'') :
  Calls Tryz.prog 101 #[.slice A n c,.func (.func g) #[] cb.toArray] w fun r w'=>r=.returned (.tuple #[])∧∃ D':List Bo,D'.Perm D∧(D'.Pairwise fun x y=>¬ cf y x<0)∧R.Own F W w' (.row A n c e 5 (D'.flatMap Fk)::l):=by
 subst hD
 have h:=lW p Tryz.UL 5 Tryz.isAgg146 Tryz.sizeOf146 Fk (fun x=>cA.len x) (fun x v hv=>cA.one x v hv) cf irr tr ntr g cb.toArray (aM hg) D hp hM hn (fun w' hO x y hx hy=>by
  have:=hcmp w' hO x y hx hy
  simpa using this)
 refine h.mono fun r w' hr=>?_
 obtain ⟨rfl,D',h1,h2,h3⟩:=hr
 exact ⟨rfl,D',h1,h2,by rw [h1.length_eq] at h3;exact h3⟩
theorem UP (p:P2→Prop) (cf:P2→P2→Int) (irr:∀ x,p x→¬ cf x x<0) (tr:∀ x y z,p x→p y→p z→cf x y<0→cf y z<0→cf x z<0) (ntr:∀ x y z,p x→p y→p z→¬ cf x y<0→¬ cf y z<0→¬ cf x z<0)
  (g:Nat) [hg:ab Tryz.prog g] (cb:List Value) {F:List Nat} {W w:World} {l:List bX} {A:Option Addr} {c e n:Nat} (D:List P2) (hD:n=D.length) (hp:∀ x∈D,p x) (hM:R.Own F W w (.row A n c e 2 (D.flatMap kI)::l)) (hn:n<4611686018427387904)
  (hcmp:∀ w',R.Own F W w' l→∀ x y,p x→p y→Calls Tryz.prog g ([Value.agg (kI x).toArray,Value.agg (kI y).toArray]++cb).toArray w' fun r w''=>r=.returned (.int .i64 (cf x y))∧Below w'.heap.size w' w'') :
  Calls Tryz.prog 61 #[.slice A n c,.func (.func g) #[] cb.toArray] w fun r w'=>r=.returned (.tuple #[])∧∃ D':List P2,D'.Perm D∧(D'.Pairwise fun x y=>¬ cf y x<0)∧R.Own F W w' (.row A n c e 2 (D'.flatMap kI)::l):=by
 subst hD
 have h:=lW p Tryz.PC 2 Tryz.isAgg104 Tryz.sizeOf104 kI (fun x=>cA.len x) (fun x v hv=>cA.one x v hv) cf irr tr ntr g cb.toArray (aM hg) D hp hM hn (fun w' hO x y hx hy=>by
  have:=hcmp w' hO x y hx hy
  simpa using this)
 refine h.mono fun r w' hr=>?_
 obtain ⟨rfl,D',h1,h2,h3⟩:=hr
 exact ⟨rfl,D',h1,h2,by rw [h1.length_eq] at h3;exact h3⟩
theorem UQ (p:Sp→Prop) (cf:Sp→Sp→Int) (irr:∀ x,p x→¬ cf x x<0) (tr:∀ x y z,p x→p y→p z→cf x y<0→cf y z<0→cf x z<0) (ntr:∀ x y z,p x→p y→p z→¬ cf x y<0→¬ cf y z<0→¬ cf x z<0)
  (g:Nat) [hg:ab Tryz.prog g] (cb:List Value) {F:List Nat} {W w:World} {l:List bX} {A:Option Addr} {c e n:Nat} (D:List Sp) (hD:n=D.length) (hp:∀ x∈D,p x) (hM:R.Own F W w (.row A n c e 26 (D.flatMap bF)::l)) (hn:n<4611686018427387904)
  (hcmp:∀ w',R.Own F W w' l→∀ x y,p x→p y→Calls Tryz.prog g ([Value.agg (bF x).toArray,Value.agg (bF y).toArray]++cb).toArray w' fun r w''=>r=.returned (.int .i64 (cf x y))∧Below w'.heap.size w' w'') :
  Calls Tryz.prog 121 #[.slice A n c,.func (.func g) #[] cb.toArray] w fun r w'=>r=.returned (.tuple #[])∧∃ D':List Sp,D'.Perm D∧(D'.Pairwise fun x y=>¬ cf y x<0)∧R.Own F W w' (.row A n c e 26 (D'.flatMap bF)::l):=by
 subst hD
 have h:=lW p Tryz.PD 26 Tryz.isAgg113 Tryz.sizeOf113 bF (fun x=>cA.len x) (fun x v hv=>cA.one x v hv) cf irr tr ntr g cb.toArray (aM hg) D hp hM hn (fun w' hO x y hx hy=>by
  have:=hcmp w' hO x y hx hy
  simpa using this)
 refine h.mono fun r w' hr=>?_
 obtain ⟨rfl,D',h1,h2,h3⟩:=hr
 exact ⟨rfl,D',h1,h2,by rw [h1.length_eq] at h3;exact h3⟩
theorem UR (p:En→Prop) (cf:En→En→Int) (irr:∀ x,p x→¬ cf x x<0) (tr:∀ x y z,p x→p y→p z→cf x y<0→cf y z<0→cf x z<0) (ntr:∀ x y z,p x→p y→p z→¬ cf x y<0→¬ cf y z<0→¬ cf x z<0)
  (g:Nat) [hg:ab Tryz.prog g] (cb:List Value) {F:List Nat} {W w:World} {l:List bX} {A:Option Addr} {c e n:Nat} (D:List En) (hD:n=D.length) (hp:∀ x∈D,p x) (hM:R.Own F W w (.row A n c e 2 (D.flatMap lg)::l)) (hn:n<4611686018427387904)
  (hcmp:∀ w',R.Own F W w' l→∀ x y,p x→p y→Calls Tryz.prog g ([Value.agg (lg x).toArray,Value.agg (lg y).toArray]++cb).toArray w' fun r w''=>r=.returned (.int .i64 (cf x y))∧Below w'.heap.size w' w'') :
  Calls Tryz.prog 42 #[.slice A n c,.func (.func g) #[] cb.toArray] w fun r w'=>r=.returned (.tuple #[])∧∃ D':List En,D'.Perm D∧(D'.Pairwise fun x y=>¬ cf y x<0)∧R.Own F W w' (.row A n c e 2 (D'.flatMap lg)::l):=by
 subst hD
 have h:=lW p Tryz.PB 2 Tryz.isAgg71 Tryz.sizeOf71 lg (fun x=>cA.len x) (fun x v hv=>cA.one x v hv) cf irr tr ntr g cb.toArray (aM hg) D hp hM hn (fun w' hO x y hx hy=>by
  have:=hcmp w' hO x y hx hy
  simpa using this)
 refine h.mono fun r w' hr=>?_
 obtain ⟨rfl,D',h1,h2,h3⟩:=hr
 exact ⟨rfl,D',h1,h2,by rw [h1.length_eq] at h3;exact h3⟩
end
def ed (s t:bJ) (L:List Pt) (p:Pt):List Pt:=if kA s p∧kA t p∧p∉L then L++[p] else L
def js (s t:bJ) (l:List Pt):List Pt:=l.foldl (ed s t) []
theorem HT (s t:bJ) (l:List Pt) (p:Pt):js s t (l++[p])=ed s t (js s t l) p:=by
 unfold js
 rw [List.foldl_append]
 rfl
theorem yB (s t:bJ) (l:List Pt):(js s t l).length≤l.length:=by
 have key:∀ (l M:List Pt),(l.foldl (ed s t) M).length≤M.length+l.length:=by
  intro l
  induction l with
  | nil=>exact fun M=>Nat.le_refl _
  | cons p l ih =>
   intro M
   have h1:=ih (ed s t M p)
   have h2:(ed s t M p).length≤M.length+1:=by
    unfold ed
    split
    ·simp
    ·omega
   simp only [List.foldl_cons,List.length_cons]
   omega
 have:=key l []
 unfold js
 simpa using this
theorem yC (s t:bJ) (l:List Pt):(js s t l).Nodup∧∀ p,p∈js s t l↔p∈l∧kA s p∧kA t p:=by
 have key:∀ (l M:List Pt),M.Nodup→(l.foldl (ed s t) M).Nodup∧∀ p,p∈l.foldl (ed s t) M↔p∈M∨(p∈l∧kA s p∧kA t p):=by
  intro l
  induction l with
  | nil=>exact fun M hM=>⟨hM,fun p=>by simp⟩
  | cons q l ih =>
   intro M hM
   have hn:(ed s t M q).Nodup:=by
    unfold ed
    split
    ·rename_i h
     refine List.nodup_append.2 ⟨hM,by simp,fun a ha b hb e=>?_⟩
     rw [List.mem_singleton] at hb
     subst hb
     subst e
     exact h.2.2 ha
    ·exact hM
   obtain ⟨h1,h2⟩:=ih _ hn
   refine ⟨h1,fun p=>?_⟩
   rw [List.foldl_cons,h2]
   have e:p∈ed s t M q↔p∈M∨(p=q∧kA s p∧kA t p):=by
    unfold ed
    split
    ·rename_i h
     rw [List.mem_append,List.mem_singleton]
     constructor
     ·rintro (h3|rfl)
      ·exact .inl h3
      ·exact .inr ⟨rfl,h.1,h.2.1⟩
     ·rintro (h3|⟨rfl,_⟩)
      ·exact .inl h3
      ·exact .inr rfl
    ·rename_i h
     constructor
     ·exact .inl
     ·rintro (h3|⟨rfl,h4,h5⟩)
      ·exact h3
      ·exact Classical.byContradiction fun h6=>h ⟨h4,h5,h6⟩
   rw [e,List.mem_cons]
   constructor
   ·rintro ((h3|⟨h3,h4⟩)|⟨h3,h4⟩)
    ·exact .inl h3
    ·exact .inr ⟨.inl h3,h4⟩
    ·exact .inr ⟨.inr h3,h4⟩
   ·rintro (h3|⟨h3|h3,h4⟩)
    ·exact .inl (.inl h3)
    ·exact .inl (.inr ⟨h3,h4⟩)
    ·exact .inr ⟨h3,h4⟩
 have:=key l [] .nil
 exact ⟨this.1,fun p=>(this.2 p).trans (by simp)⟩
theorem Zw {s t:bJ} (hs:aK s) {D:List Pt} (hp:D.Perm (js s t [s.a,s.b,t.a,t.b])) (ho:D.Pairwise fun p q=>¬ aR (b9 s.a s.b q) (b9 s.a s.b p)<0):oX s t D:=by
 obtain ⟨h1,h2⟩:=yC s t [s.a,s.b,t.a,t.b]
 have hm:∀ p,p∈D↔Qu s t p:=fun p=>by
  rw [hp.mem_iff,h2]
  unfold Qu
  simp
 refine ⟨?_,hm⟩
 have hn:D.Nodup:=hp.nodup_iff.2 h1
 refine (List.pairwise_and_iff.2 ⟨ho,hn⟩).imp_of_mem fun {p q} hp hq hpq=>?_
 obtain ⟨h3,h4⟩:=hpq
 rw [cC] at h3
 have h5:b9 s.a s.b p≠b9 s.a s.b q:=fun e=>h4 (Fc hs ((hm p).1 hp).2.1.1 ((hm q).1 hq).2.1.1 e)
 omega
theorem TA (g sz:Nat):Value.pointer (some ⟨g,0,none⟩)=R.ptr (some ⟨g,0,none⟩) 0 sz 0:=by
 rw [eX]
 simp [Addr.add]
theorem TB {T:Type} {enc:T→List Value} {F:List Nat} {W w:World} {l:List bX} {g sz:Nat} {t:TypeId} {x:T} (h:R.Own F W w l) (hm:.blk g t (enc x)∈l) (hn:(enc x).length=sz):gn [] w (some ⟨g,0,none⟩) 1 sz ([x].flatMap enc):=by
 have hb:=h.ok _ hm
 refine ⟨by simp [hn],fun j v hj=>⟨⟨g,0,none⟩,rfl,(Array.getElem?_eq_some_iff.1 (show w.heap[g]?=_ from hb)).1,by simp,?_⟩⟩
 simp at hj
 have:=(h.aaP (n:=1) (sz:=sz) hm (by rw [hn,Nat.one_mul])).2 j v hj
 obtain ⟨a,ha,hv⟩:=this
 cases ha
 exact hv
def dR (s t:bJ):List Pt:=[s.a,s.b,t.a,t.b]
theorem Oe {s t:bJ} (hs:aK s) (ht:aK t):∀ k,k<4→bL (nth (dR s t) k):=fun k hk=>by
 rcases (show k=0∨k=1∨k=2∨k=3 by omega) with rfl|rfl|rfl|rfl
 ·exact hs.1
 ·exact hs.2.1
 ·exact ht.1
 ·exact ht.2.1
theorem K1 (s t:bJ) {k:Nat} (hk:k<4):js s t ((dR s t).take (k+1))=ed s t (js s t ((dR s t).take k)) (nth (dR s t) k):=by
 rw [cd (show k<(dR s t).length from hk),HT]
attribute [local irreducible] aq oT dx aR kA b9 in
set_option maxHeartbeats 4000000 in
theorem GA (s:bJ) (p q:Pt) (g:Nat) (w:World) (hg:gn [] w (some ⟨g,0,none⟩) 1 4 ([s].flatMap bD)) (hs:aK s) (hp:bL p∧kA s p) (hq:bL q∧kA s q):Calls Tryz.prog 228 ([Value.agg (cr p).toArray,Value.agg (cr q).toArray]++[R.ptr (some ⟨g,0,none⟩) 0 4 0]).toArray w fun e w'=>e=.returned (.int .i64 (aR (b9 s.a s.b p) (b9 s.a s.b q)))∧Below w.heap.size w w':=by
 have hM:=R.Own.start [] w
 obtain ⟨S,hS⟩:∃ S,[s]=S:=⟨_,rfl⟩
 rw [hS] at hg
 have hl:S.length=1:=by rw [← hS];rfl
 have h0:nth S 0=s:=by rw [← hS];rfl
 refine aa (fn:=Tryz.f228) Tryz.func228 rfl Tryz.ntmps228 (Nat.le_of_ble_eq_true rfl) ?_
 (refine ad ?_;(repeat' first|refine And.intro ?_ ?_|intro _);all_goals refine ah.mk ?_)
 refine fF rfl rfl vv vv vv ?_
 rw [h0]
 refine (Oa s p q _ hs hp.1 hq.1 hp.2 hq.2).mono ?_
 rintro _ w2 ⟨rfl,hb2⟩
 have hM:=R.Own.call aj hb2
 refine ⟨_,rfl,?_⟩
 (refine ad ?_;(repeat' first|refine And.intro ?_ ?_|intro _);all_goals refine ah.mk ?_;(all_goals (try (exact ⟨rfl,R.Own.below ww⟩))))
attribute [local irreducible] aq oT dx aR kA b9 in
set_option maxHeartbeats 4000000 in
theorem K2 (s t:bJ) (w:World) (hs:aK s) (ht:aK t):Calls Tryz.prog 164 #[.agg (bD s).toArray,.agg (bD t).toArray] w fun e w'=>∃ A c L,e=.returned (.slice A L.length c)∧L.length≤4∧oX s t L∧iV w w' A L.length c 32 2 (L.flatMap cr):=by
 have hM:=R.Own.start [] w
 refine aa (fn:=Tryz.f164) Tryz.func164 rfl Tryz.ntmps164 (Nat.le_of_ble_eq_true rfl) ?_
 (refine ad ?_;(repeat' first|refine And.intro ?_ ?_|intro _);all_goals refine ah.mk ?_)
 rename_i gs _ _ gt _ _ A4 c4 _ hM
 have hE:=Oe hs ht
 have hM:R.Own [] w _ [.row A4 4 c4 32 2 ((dR s t).flatMap cr),.blk gt 56 (bD t),.blk gs 56 (bD s)]:=hM
 refine au (fun x:Nat×Option Addr×Nat=>[(2,.pointer (some ⟨gs,0,none⟩)),(3,.pointer (some ⟨gt,0,none⟩)),(4,.slice none 0 0),(5,.slice x.2.1 (js s t ((dR s t).take x.1)).length x.2.2),(16,.slice A4 4 c4),(17,.int .i64 4),(18,.int .i64 (x.1:Nat))])
  (fun x w1=>x.1≤4∧R.Own [] w w1 [.row x.2.1 (js s t ((dR s t).take x.1)).length x.2.2 32 2 ((js s t ((dR s t).take x.1)).flatMap cr),.row A4 4 c4 32 2 ((dR s t).flatMap cr),.blk gt 56 (bD t),.blk gs 56 (bD s)]) (fun x=>4-x.1)
  ⟨(0,none,0),⟨rfl,rfl,rfl,rfl,rfl,rfl,rfl,trivial⟩,Nat.zero_le _,R.Own.nil hM _ _⟩ ?_
 clear hM
 rintro ⟨k,A,c⟩ f w1 ⟨hk,hM⟩
 dsimp only at hk hM ⊢
 by_cases hlt:k<4
 ·have hp:=hE k hlt
  have hsn:=K1 s t hlt
  have hlen:=yB s t ((dR s t).take k)
  rw [List.length_take] at hlen
  have hel:(dR s t).length=4:=rfl
  generalize js s t ((dR s t).take k)=L at hM hsn hlen ⊢
  (refine ad ?_;(repeat' first|refine And.intro ?_ ?_|intro _);all_goals refine ah.mk ?_)
  ·rename_i A2 c2 _ hM
   have hst:ed s t L (nth (dR s t) k)=L++[nth (dR s t) k]:=if_pos ⟨by assumption,by assumption,by simpa using (by assumption:(!decide (nth (dR s t) k∈L))=true)⟩
   refine ⟨(k+1,A2,c2),⟨rfl,rfl,rfl,qD rfl (by dsimp only;rw [hsn,hst,List.length_append];rfl),rfl,rfl,aF rfl (by dsimp only;omega),trivial⟩,⟨by dsimp only;omega,?_⟩,by dsimp only;omega⟩
   dsimp only
   rw [hsn,hst,List.length_append]
   exact hM.tl
  all_goals
   have hst:ed s t L (nth (dR s t) k)=L:=if_neg fun h=>by
    first
     | exact absurd h.1 ww
     | exact absurd h.2.1 ww
     | exact h.2.2 (by simpa using (by assumption:(!decide (nth (dR s t) k∈L))=false))
   refine ⟨(k+1,A,c),⟨rfl,rfl,rfl,qD rfl (by dsimp only;rw [hsn,hst]),rfl,rfl,aF rfl (by dsimp only;omega),trivial⟩,⟨by dsimp only;omega,?_⟩,by dsimp only;omega⟩
   dsimp only
   rw [hsn,hst]
   exact R.Own.tl aj
 ·obtain rfl:k=4:=by omega
  obtain ⟨hnd,hmem⟩:=yC s t (dR s t)
  have hcl:=yB s t (dR s t)
  have hel:(dR s t).length=4:=rfl
  rw [show (dR s t).take 4=dR s t from rfl] at hM ⊢
  have hall:∀ p∈js s t (dR s t),bL p∧kA s p:=fun p hp=>by
   obtain ⟨h1,h2,_⟩:=(hmem p).1 hp
   obtain ⟨j,hj,e⟩:=List.getElem_of_mem h1
   have:=hE j hj
   rw [av hj,e] at this
   exact ⟨this,h2⟩
  have hof:=fun {D:List Pt}=>Zw (t:=t) hs (D:=D)
  rw [show [s.a,s.b,t.a,t.b]=dR s t from rfl] at hof
  generalize js s t (dR s t)=L at hM hcl hall hof ⊢
  (refine ad ?_;(repeat' first|refine And.intro ?_ ?_|intro _);all_goals refine ah.mk ?_)
  refine ar rfl rfl vv vv ?_
  refine (UM (fun p=>bL p∧kA s p) (fun p q=>aR (b9 s.a s.b p) (b9 s.a s.b q)) (fun x _=>by rw [cC];omega) (fun x y z _ _ _ h1 h2=>by rw [cC] at *;omega) (fun x y z _ _ _ h1 h2=>by rw [cC] at *;omega) 228 [.pointer (some ⟨gs,0,none⟩)] L rfl hall hM xj (fun w' hO x y hx hy=>?_)).mono ?_
  ·rw [TA gs 4]
   exact GA s x y gs w' (TB (enc:=bD) hO (.tail _ (.tail _ (.head _))) rfl) hs hx hy
  rintro _ w3 ⟨rfl,D,h1,h2,hM⟩
  refine ⟨_,rfl,?_⟩
  (refine ad ?_;(repeat' first|refine And.intro ?_ ?_|intro _);all_goals refine ah.mk ?_)
  refine ⟨A,c,D,by rw [h1.length_eq],by rw [h1.length_eq];omega,hof h1 h2,?_⟩
  rw [h1.length_eq]
  exact R.Own.gives aj
end Go.Proofs.YtlmabdegojeheaaGreatDoor
